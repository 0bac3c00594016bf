/-
  The plain functions of package ntt: no Go in sight.
-/
namespace Go.Proofs.Ygctak.Ntt

def mulm (a b : Int) : Int := a % 998244353 * (b % 998244353) % 998244353
def fold (a : Int) : Int := if 998244353 ≤ a then a - 998244353 else a
def rat (a : Int) : Int := a * 4294967296 / 998244353 % 4294967296
def times (a r x : Int) : Int := (x * a % 4294967296 - x * r / 4294967296 % 4294967296 * 998244353 % 4294967296) % 4294967296

theorem mulm_bd (a b : Int) : 0 ≤ mulm a b ∧ mulm a b ≤ 998244352 := by unfold mulm; omega
theorem rat_bd (a : Int) : 0 ≤ rat a ∧ rat a ≤ 4294967295 := by unfold rat; omega
theorem times_bd (a r x : Int) : 0 ≤ times a r x ∧ times a r x ≤ 4294967295 := by unfold times; omega
theorem fold_bd {a : Int} (h0 : 0 ≤ a) (h : a ≤ 4294967295) : 0 ≤ fold a ∧ fold a ≤ 4294967295 := by unfold fold; split <;> omega

/-- PowMod's loop. -/
def powL : Nat → Int → Int → Nat → Int
  | 0, r, _, _ => r
  | f + 1, r, a, e => if e = 0 then r else powL f (if e % 2 = 1 then mulm r a else r) (mulm a a) (e / 2)
def powm (a : Int) (e : Nat) : Int := powL 32 1 (a % 998244353) e

theorem powL_zero (f : Nat) (r a : Int) : powL f r a 0 = r := by cases f <;> simp [powL]
theorem powL_step (f : Nat) (r a : Int) (e : Nat) (he : e ≠ 0) : powL (f + 1) r a e = powL f (if e % 2 = 1 then mulm r a else r) (mulm a a) (e / 2) := by simp [powL, he]
theorem powL_bd (f : Nat) : ∀ (r a : Int) (e : Nat), 0 ≤ r → r ≤ 998244352 → 0 ≤ powL f r a e ∧ powL f r a e ≤ 998244352 := by
  induction f with
  | zero => intro r a e h1 h2; exact ⟨h1, h2⟩
  | succ f ih =>
    intro r a e h1 h2
    unfold powL
    split
    · exact ⟨h1, h2⟩
    · apply ih
      · split
        · exact (mulm_bd _ _).1
        · exact h1
      · split
        · exact (mulm_bd _ _).2
        · exact h2
theorem powm_bd (a : Int) (e : Nat) : 0 ≤ powm a e ∧ powm a e ≤ 998244352 := powL_bd 32 1 _ e (by decide) (by decide)

/-- The root of unity of order 2^k. -/
def root (k : Nat) : Int := powm 3 (998244352 / 2 ^ k)
def inv (a : Int) : Int := powm a 998244351

/-- The inner loop of reverse. -/
def revIn : Nat → Nat → Nat → Nat × Nat
  | 0, j, b => (j, b)
  | f + 1, j, b => if 0 < b ∧ j &&& b ≠ 0 then revIn f (j ^^^ b) (b / 2) else (j, b)
/-- The next j, of n points. -/
def revNext (n j : Nat) : Nat := (revIn 64 j (n / 2)).1 ||| (revIn 64 j (n / 2)).2

def swap (xs : List Int) (i j : Nat) : List Int := (xs.set i (xs.getD j 0)).set j (xs.getD i 0)
theorem swap_length (xs : List Int) (i j : Nat) : (swap xs i j).length = xs.length := by simp [swap]

/-- reverse's loop: f rounds from i on. -/
def revGo (n : Nat) : Nat → Nat → Nat → List Int → List Int
  | 0, _, _, xs => xs
  | f + 1, i, j, xs => revGo n f (i + 1) (revNext n j) (if i < j then swap xs i j else xs)
def rev (xs : List Int) : List Int := revGo xs.length xs.length 0 0 xs

/-- The first pass: f pairs from p on. -/
def firstOne (xs : List Int) (p : Nat) : List Int :=
  (xs.set p ((xs.getD p 0 + xs.getD (p + 1) 0) % 4294967296)).set (p + 1) ((xs.getD p 0 + 998244353 - xs.getD (p + 1) 0) % 4294967296)
def firstGo : Nat → Nat → List Int → List Int
  | 0, _, xs => xs
  | f + 1, p, xs => firstGo f (p + 2) (firstOne xs p)

/-- The powers: so many more at a time as there are. -/
def facGo : Nat → List Int → Int → List Int
  | 0, T, _ => T
  | f + 1, T, w => facGo f (T ++ T.map fun v => fold (times w (rat w) v)) (mulm w w)

/-- One butterfly of block. -/
def cut2 (u : Int) : Int := if 1996488706 ≤ u then u - 1996488706 else u
def blkOne (R : List Int) (s half j : Nat) (xs : List Int) : List Int :=
  let u := cut2 (xs.getD (s + j) 0)
  let v := times (R.getD j 0) (rat (R.getD j 0)) (xs.getD (s + half + j) 0)
  (xs.set (s + j) ((u + v) % 4294967296)).set (s + half + j) ((u + 1996488706 - v) % 4294967296)
def blkGo (R : List Int) (s half : Nat) : Nat → Nat → List Int → List Int
  | 0, _, xs => xs
  | f + 1, j, xs => blkGo R s half f (j + 1) (blkOne R s half j xs)

/-- One pass: f blocks from s on. -/
def passGo (R : List Int) (half : Nat) : Nat → Nat → List Int → List Int
  | 0, _, xs => xs
  | f + 1, s, xs => passGo R half f (s + 2 * half) (blkGo R s half half 0 xs)

/-- The roots of a pass. -/
def pick (T : List Int) (half step : Nat) : List Int := (List.range half).map fun j => T.getD (j * step) 0

/-- f passes from t on, of 2^k points. -/
def passesGo (T : List Int) (k : Nat) : Nat → Nat → List Int → List Int
  | 0, _, xs => xs
  | f + 1, t, xs => passesGo T k f (t + 1) (passGo (pick T (2 ^ (t - 1)) (2 ^ (k - t))) (2 ^ (t - 1)) (2 ^ (k - t)) 0 xs)

def last (v : Int) : Int := fold (cut2 v)

/-- transform. -/
def tab (k : Nat) (w : Int) : List Int := facGo (k - 1) [1] w
def trans (xs : List Int) (k : Nat) (w : Int) : List Int :=
  (passesGo (tab k w) k (k - 1) 2 (firstGo (xs.length / 2) 0 (rev xs))).map last

def fwd (xs : List Int) (k : Nat) : List Int := trans xs k (root k)
def bwd (xs : List Int) (k : Nat) : List Int := (trans xs k (inv (root k))).map fun v => fold (times (inv xs.length) (rat (inv xs.length)) v)

end Go.Proofs.Ygctak.Ntt
