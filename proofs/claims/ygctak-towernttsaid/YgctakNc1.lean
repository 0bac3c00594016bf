/-
  The modular transform, plainly: arithmetic modulo 998244353; the list functions, entry by entry.
-/
import Derived.Test.YgctakNttPure
import Derived.Test.YgctakFt11
import Derived.Test.YgctakHo18
set_option linter.unusedVariables false
set_option linter.unusedSimpArgs false
namespace Go.Proofs.Ygctak.Nc
open Ntt (mulm fold rat times cut2 last swap revGo revNext firstOne firstGo facGo blkOne blkGo passGo pick passesGo tab trans fwd bwd root inv)
open Ft (sm sm_congr sm_add sm_sub sm_mul sm_neg sm_zero sm_two sm_append sm_swap rev rev_lt rev_rev odd_split)

/-- a and b are the same modulo 998244353. -/
def Cg (a b : Int) : Prop := ∃ c, a = b + 998244353 * c
theorem Cg.refl (a : Int) : Cg a a := ⟨0, by omega⟩
theorem Cg.of {a b : Int} (h : a = b) : Cg a b := h ▸ Cg.refl a
theorem Cg.symm {a b : Int} (h : Cg a b) : Cg b a := by obtain ⟨c, h⟩ := h; exact ⟨-c, by omega⟩
theorem Cg.trans {a b c : Int} (h : Cg a b) (k : Cg b c) : Cg a c := by
  obtain ⟨x, h⟩ := h
  obtain ⟨y, k⟩ := k
  exact ⟨x + y, by omega⟩
theorem Cg.add {a b c d : Int} (h : Cg a b) (k : Cg c d) : Cg (a + c) (b + d) := by
  obtain ⟨x, h⟩ := h
  obtain ⟨y, k⟩ := k
  exact ⟨x + y, by omega⟩
theorem Cg.neg {a b : Int} (h : Cg a b) : Cg (-a) (-b) := by
  obtain ⟨x, h⟩ := h
  exact ⟨-x, by omega⟩
theorem Cg.sub {a b c d : Int} (h : Cg a b) (k : Cg c d) : Cg (a - c) (b - d) := by
  obtain ⟨x, h⟩ := h
  obtain ⟨y, k⟩ := k
  exact ⟨x - y, by omega⟩
theorem Cg.mul {a b c d : Int} (h : Cg a b) (k : Cg c d) : Cg (a * c) (b * d) := by
  obtain ⟨x, h⟩ := h
  obtain ⟨y, k⟩ := k
  refine ⟨b * y + x * d + 998244353 * (x * y), ?_⟩
  rw [h, k]
  grind
theorem Cg.pow {a b : Int} (h : Cg a b) : ∀ n : Nat, Cg (a ^ n) (b ^ n)
  | 0 => by rw [Int.pow_zero, Int.pow_zero]; exact Cg.refl _
  | n + 1 => by rw [Int.pow_succ, Int.pow_succ]; exact (Cg.pow h n).mul h
theorem Cg.sm {f g : Nat → Int} : ∀ {n : Nat}, (∀ m, m < n → Cg (f m) (g m)) → Cg (sm f n) (sm g n)
  | 0, _ => Cg.refl _
  | n + 1, h => (Cg.sm (n := n) (fun m hm => h m (by omega))).add (h n (by omega))
theorem Cg.emod (a : Int) : Cg (a % 998244353) a := ⟨-(a / 998244353), by omega⟩
theorem Cg.eq {a b : Int} (h : Cg a b) (h1 : 0 ≤ a) (h2 : a < 998244353) (h3 : 0 ≤ b) (h4 : b < 998244353) : a = b := by
  obtain ⟨c, h⟩ := h
  omega

theorem times_spec {a x : Int} (h0 : 0 ≤ a) (h1 : a < 998244353) (x0 : 0 ≤ x) (x1 : x < 4294967296) : Cg (times a (rat a) x) (a * x) ∧ 0 ≤ times a (rat a) x ∧ times a (rat a) x < 1996488706 := by
  have hr : rat a = a * 4294967296 / 998244353 := by unfold rat; omega
  obtain ⟨r, er⟩ : ∃ r, r = rat a := ⟨_, rfl⟩
  rw [← er] at hr ⊢
  have r1 : 998244353 * r ≤ a * 4294967296 := by omega
  have r2 : a * 4294967296 < 998244353 * (r + 1) := by omega
  have r0 : 0 ≤ r := by omega
  have r3 : r < 4294967296 := by omega
  obtain ⟨q, eq⟩ : ∃ q, q = x * r / 4294967296 := ⟨_, rfl⟩
  obtain ⟨A, eA⟩ : ∃ A, A = x * a := ⟨_, rfl⟩
  obtain ⟨X, eX⟩ : ∃ X, X = x * r := ⟨_, rfl⟩
  have m1 : 998244353 * X ≤ A * 4294967296 := by
    have := Int.mul_le_mul_of_nonneg_left r1 x0
    rw [eX, eA]
    have e1 : x * (998244353 * r) = 998244353 * (x * r) := by grind
    have e2 : x * (a * 4294967296) = x * a * 4294967296 := by grind
    omega
  have m2 : A * 4294967296 ≤ 998244353 * X + 998244353 * x := by
    have := Int.mul_le_mul_of_nonneg_left (Int.le_of_lt r2) x0
    rw [eX, eA]
    have e1 : x * (998244353 * (r + 1)) = 998244353 * (x * r) + 998244353 * x := by grind
    have e2 : x * (a * 4294967296) = x * a * 4294967296 := by grind
    omega
  have m3 : 0 ≤ X := by rw [eX]; exact Int.mul_nonneg x0 r0
  have m4 : X ≤ 4294967295 * 4294967295 := by
    rw [eX]
    have := Int.mul_le_mul (show x ≤ 4294967295 by omega) (show r ≤ 4294967295 by omega) r0 (by omega)
    exact this
  rw [← eX] at eq
  have q1 : 0 ≤ q := by omega
  have q2 : q < 4294967296 := by omega
  have key : times a r x = A - 998244353 * q := by
    unfold times
    rw [← eX, ← eq, ← eA]
    omega
  have b1 : 0 ≤ A - 998244353 * q := by omega
  have b2 : A - 998244353 * q < 1996488706 := by omega
  refine ⟨⟨-q, ?_⟩, by omega, by omega⟩
  rw [key, eA, Int.mul_comm a x]
  omega
theorem fold_spec {s : Int} (h0 : 0 ≤ s) (h1 : s < 1996488706) : Cg (fold s) s ∧ 0 ≤ fold s ∧ fold s < 998244353 := by
  unfold fold
  split
  · exact ⟨⟨-1, by omega⟩, by omega, by omega⟩
  · exact ⟨Cg.refl _, by omega, by omega⟩
theorem cut2_spec {s : Int} (h0 : 0 ≤ s) (h1 : s < 3992977412) : Cg (cut2 s) s ∧ 0 ≤ cut2 s ∧ cut2 s < 1996488706 := by
  unfold cut2
  split
  · exact ⟨⟨-2, by omega⟩, by omega, by omega⟩
  · exact ⟨Cg.refl _, by omega, by omega⟩
theorem last_spec {s : Int} (h0 : 0 ≤ s) (h1 : s < 3992977412) : Cg (last s) s ∧ 0 ≤ last s ∧ last s < 998244353 := by
  obtain ⟨c1, c2, c3⟩ := cut2_spec h0 h1
  obtain ⟨d1, d2, d3⟩ := fold_spec c2 c3
  exact ⟨d1.trans c1, d2, d3⟩
theorem mulm_spec (a b : Int) : Cg (mulm a b) (a * b) := by
  unfold mulm
  exact (Cg.emod _).trans ((Cg.emod a).mul (Cg.emod b))

/-! ### entries -/
theorem set_get (xs : List Int) (p : Nat) (v : Int) (i : Nat) (hp : p < xs.length) : (xs.set p v).getD i 0 = if i = p then v else xs.getD i 0 := by
  rw [List.getD_eq_getElem?_getD, List.getD_eq_getElem?_getD, List.getElem?_set]
  by_cases h : p = i
  · subst h; simp [hp]
  · rw [if_neg h, if_neg (fun e => h e.symm)]

/-- The low and the high entry of a butterfly. -/
def lo (r u v : Int) : Int := (cut2 u + times r (rat r) v) % 4294967296
def hi (r u v : Int) : Int := (cut2 u + 1996488706 - times r (rat r) v) % 4294967296
theorem blkOne_length (R : List Int) (s half j : Nat) (xs : List Int) : (blkOne R s half j xs).length = xs.length := by simp [blkOne]
theorem blkGo_length (R : List Int) (s half : Nat) : ∀ (f j : Nat) (xs : List Int), (blkGo R s half f j xs).length = xs.length
  | 0, _, _ => rfl
  | f + 1, j, xs => by rw [blkGo, blkGo_length R s half f, blkOne_length]
theorem blkOne_get (R : List Int) (s half j : Nat) (xs : List Int) (i : Nat) (h0 : 0 < half) (hj : j < half) (hl : s + 2 * half ≤ xs.length) :
    (blkOne R s half j xs).getD i 0 = if i = s + half + j then hi (R.getD j 0) (xs.getD (s + j) 0) (xs.getD (s + half + j) 0) else if i = s + j then lo (R.getD j 0) (xs.getD (s + j) 0) (xs.getD (s + half + j) 0) else xs.getD i 0 := by
  unfold blkOne
  rw [set_get _ _ _ _ (by rw [List.length_set]; omega), set_get _ _ _ _ (by omega)]
  rfl
theorem blkGo_get (R : List Int) (s half : Nat) (h0 : 0 < half) : ∀ (f j : Nat) (xs : List Int) (i : Nat), j + f ≤ half → s + 2 * half ≤ xs.length →
    (blkGo R s half f j xs).getD i 0 = if s + j ≤ i ∧ i < s + j + f then lo (R.getD (i - s) 0) (xs.getD i 0) (xs.getD (half + i) 0) else if s + half + j ≤ i ∧ i < s + half + j + f then hi (R.getD (i - s - half) 0) (xs.getD (i - half) 0) (xs.getD i 0) else xs.getD i 0
  | 0, j, xs, i, _, _ => by rw [blkGo, if_neg (by omega), if_neg (by omega)]
  | f + 1, j, xs, i, hj, hl => by
    rw [blkGo, blkGo_get R s half h0 f (j + 1) _ i (by omega) (by rw [blkOne_length]; exact hl)]
    by_cases c1 : s + j ≤ i ∧ i < s + j + (f + 1)
    · rw [if_pos c1]
      by_cases c2 : i = s + j
      · subst c2
        rw [if_neg (by omega), if_neg (by omega), blkOne_get R s half j xs _ h0 (by omega) hl, if_neg (by omega), if_pos rfl, show s + j - s = j by omega, show half + (s + j) = s + half + j by omega]
      · rw [if_pos (by omega), blkOne_get R s half j xs _ h0 (by omega) hl, if_neg (by omega), if_neg (by omega), blkOne_get R s half j xs _ h0 (by omega) hl, if_neg (by omega), if_neg (by omega)]
    · rw [if_neg c1, if_neg (by omega)]
      by_cases c3 : s + half + j ≤ i ∧ i < s + half + j + (f + 1)
      · rw [if_pos c3]
        by_cases c4 : i = s + half + j
        · subst c4
          rw [if_neg (by omega), blkOne_get R s half j xs _ h0 (by omega) hl, if_pos rfl, show s + half + j - s - half = j by omega, show s + half + j - half = s + j by omega]
        · rw [if_pos (by omega), blkOne_get R s half j xs _ h0 (by omega) hl, if_neg (by omega), if_neg (by omega), blkOne_get R s half j xs _ h0 (by omega) hl, if_neg (by omega), if_neg (by omega)]
      · rw [if_neg c3, if_neg (by omega), blkOne_get R s half j xs _ h0 (by omega) hl, if_neg (by omega), if_neg (by omega)]
theorem passGo_length (R : List Int) (half : Nat) : ∀ (f s : Nat) (xs : List Int), (passGo R half f s xs).length = xs.length
  | 0, _, _ => rfl
  | f + 1, s, xs => by rw [passGo, passGo_length R half f, blkGo_length]
theorem passGo_below (R : List Int) (half : Nat) (h0 : 0 < half) : ∀ (f s : Nat) (xs : List Int) (i : Nat), s + f * (2 * half) ≤ xs.length → i < s → (passGo R half f s xs).getD i 0 = xs.getD i 0
  | 0, _, _, _, _, _ => rfl
  | f + 1, s, xs, i, hl, hi => by
    rw [Nat.add_mul, Nat.one_mul] at hl
    rw [passGo, passGo_below R half h0 f _ _ i (by rw [blkGo_length]; omega) (by omega), blkGo_get R s half h0 half 0 xs i (by omega) (by omega), if_neg (by omega), if_neg (by omega)]
/-- One pass, entry by entry: f blocks from block c on. -/
theorem passGo_get (R : List Int) (half : Nat) (h0 : 0 < half) : ∀ (f c : Nat) (xs : List Int) (b j : Nat), (c + f) * (2 * half) ≤ xs.length → j < half → c ≤ b → b < c + f →
    (passGo R half f (c * (2 * half)) xs).getD (b * (2 * half) + j) 0 = lo (R.getD j 0) (xs.getD (b * (2 * half) + j) 0) (xs.getD (b * (2 * half) + half + j) 0) ∧
    (passGo R half f (c * (2 * half)) xs).getD (b * (2 * half) + half + j) 0 = hi (R.getD j 0) (xs.getD (b * (2 * half) + j) 0) (xs.getD (b * (2 * half) + half + j) 0)
  | 0, c, xs, b, j, _, _, h1, h2 => by omega
  | f + 1, c, xs, b, j, hl, hj, h1, h2 => by
    have e1 : (c + (f + 1)) * (2 * half) = c * (2 * half) + f * (2 * half) + 2 * half := by rw [Nat.add_mul, Nat.add_mul, Nat.one_mul]; omega
    have e2 : c * (2 * half) + 2 * half = (c + 1) * (2 * half) := by rw [Nat.add_mul, Nat.one_mul]
    rw [e1] at hl
    rw [passGo]
    by_cases hbc : b = c
    · subst hbc
      rw [passGo_below R half h0 f _ _ _ (by rw [blkGo_length]; omega) (by omega), passGo_below R half h0 f _ _ _ (by rw [blkGo_length]; omega) (by omega),
        blkGo_get R _ half h0 half 0 xs _ (by omega) (by omega), blkGo_get R _ half h0 half 0 xs _ (by omega) (by omega), if_pos (by omega), if_neg (by omega), if_pos (by omega)]
      rw [show b * (2 * half) + j - b * (2 * half) = j by omega, show half + (b * (2 * half) + j) = b * (2 * half) + half + j by omega, show b * (2 * half) + half + j - b * (2 * half) - half = j by omega, show b * (2 * half) + half + j - half = b * (2 * half) + j by omega]
      exact ⟨rfl, rfl⟩
    · rw [e2]
      have h3 : (c + 1) * (2 * half) ≤ b * (2 * half) := Nat.mul_le_mul_right _ (by omega)
      rw [← e2] at h3
      have ih := passGo_get R half h0 f (c + 1) (blkGo R (c * (2 * half)) half half 0 xs) b j (by rw [blkGo_length, show c + 1 + f = c + (f + 1) by omega, e1]; omega) hj (by omega) (by omega)
      rw [blkGo_get R _ half h0 half 0 xs (b * (2 * half) + j) (by omega) (by omega), blkGo_get R _ half h0 half 0 xs (b * (2 * half) + half + j) (by omega) (by omega), if_neg (by omega), if_neg (by omega), if_neg (by omega), if_neg (by omega)] at ih
      exact ih

/-! ### the first pass -/
theorem firstOne_length (xs : List Int) (p : Nat) : (firstOne xs p).length = xs.length := by simp [firstOne]
theorem firstGo_length : ∀ (f p : Nat) (xs : List Int), (firstGo f p xs).length = xs.length
  | 0, _, _ => rfl
  | f + 1, p, xs => by rw [firstGo, firstGo_length f, firstOne_length]
theorem firstOne_get (xs : List Int) (p i : Nat) (hl : p + 2 ≤ xs.length) : (firstOne xs p).getD i 0 = if i = p + 1 then (xs.getD p 0 + 998244353 - xs.getD (p + 1) 0) % 4294967296 else if i = p then (xs.getD p 0 + xs.getD (p + 1) 0) % 4294967296 else xs.getD i 0 := by
  unfold firstOne
  rw [set_get _ _ _ _ (by rw [List.length_set]; omega), set_get _ _ _ _ (by omega)]
theorem firstGo_below : ∀ (f p : Nat) (xs : List Int) (i : Nat), p + 2 * f ≤ xs.length → i < p → (firstGo f p xs).getD i 0 = xs.getD i 0
  | 0, _, _, _, _, _ => rfl
  | f + 1, p, xs, i, hl, hi => by
    rw [firstGo, firstGo_below f _ _ i (by rw [firstOne_length]; omega) (by omega), firstOne_get _ _ _ (by omega), if_neg (by omega), if_neg (by omega)]
theorem firstGo_get : ∀ (f c : Nat) (xs : List Int) (b : Nat), 2 * (c + f) ≤ xs.length → c ≤ b → b < c + f →
    (firstGo f (2 * c) xs).getD (2 * b) 0 = (xs.getD (2 * b) 0 + xs.getD (2 * b + 1) 0) % 4294967296 ∧ (firstGo f (2 * c) xs).getD (2 * b + 1) 0 = (xs.getD (2 * b) 0 + 998244353 - xs.getD (2 * b + 1) 0) % 4294967296
  | 0, c, xs, b, _, h1, h2 => by omega
  | f + 1, c, xs, b, hl, h1, h2 => by
    rw [firstGo]
    by_cases hbc : b = c
    · subst hbc
      rw [firstGo_below f _ _ _ (by rw [firstOne_length]; omega) (by omega), firstGo_below f _ _ _ (by rw [firstOne_length]; omega) (by omega), firstOne_get _ _ _ (by omega), firstOne_get _ _ _ (by omega), if_neg (by omega), if_pos rfl, if_pos rfl]
      exact ⟨rfl, rfl⟩
    · have ih := firstGo_get f (c + 1) (firstOne xs (2 * c)) b (by rw [firstOne_length]; omega) (by omega) (by omega)
      rw [firstOne_get _ _ (2 * b) (by omega), firstOne_get _ _ (2 * b + 1) (by omega), if_neg (by omega), if_neg (by omega), if_neg (by omega), if_neg (by omega)] at ih
      exact ih

/-! ### the bits turned round -/
/-- Reversed up to i. -/
def vR (k i : Nat) (f : Nat → Int) (m : Nat) : Int := if m < i ∨ rev k m < i then f (rev k m) else f m
theorem vR_swap (k i : Nat) (f : Nat → Int) (hi : i < 2 ^ k) (hlt : i < rev k i) (m : Nat) (hm : m < 2 ^ k) :
    (if m = rev k i then vR k i f i else if m = i then vR k i f (rev k i) else vR k i f m) = vR k (i + 1) f m := by
  have hr := rev_lt k i
  have hrr : rev k (rev k i) = i := rev_rev k i hi
  have hrm : rev k (rev k m) = m := rev_rev k m hm
  unfold vR
  by_cases h1 : m = rev k i
  · subst h1
    rw [if_pos rfl, hrr, if_neg (by omega), if_pos (by omega)]
  · rw [if_neg h1]
    by_cases h2 : m = i
    · subst h2
      rw [if_pos rfl, hrr, if_neg (by omega), if_pos (by omega)]
    · rw [if_neg h2]
      have h3 : rev k m ≠ i := fun e => h1 (by rw [← e, hrm])
      by_cases h4 : m < i ∨ rev k m < i
      · rw [if_pos h4, if_pos (by omega)]
      · rw [if_neg h4, if_neg (by omega)]
theorem vR_skip (k i : Nat) (f : Nat → Int) (hi : i < 2 ^ k) (hlt : ¬ i < rev k i) (m : Nat) (hm : m < 2 ^ k) : vR k i f m = vR k (i + 1) f m := by
  have hrm : rev k (rev k m) = m := rev_rev k m hm
  unfold vR
  by_cases h2 : m = i
  · subst h2
    by_cases h4 : rev k m = m
    · rw [if_neg (by omega), if_pos (by omega), h4]
    · rw [if_pos (by omega), if_pos (by omega)]
  · by_cases h3 : rev k m = i
    · have e : m = rev k i := by rw [← h3, hrm]
      rw [if_pos (by omega), if_pos (by omega)]
    · by_cases h4 : m < i ∨ rev k m < i
      · rw [if_pos h4, if_pos (by omega)]
      · rw [if_neg h4, if_neg (by omega)]
theorem swap_get (xs : List Int) (i j m : Nat) (hi : i < xs.length) (hj : j < xs.length) : (swap xs i j).getD m 0 = if m = j then xs.getD i 0 else if m = i then xs.getD j 0 else xs.getD m 0 := by
  unfold swap
  rw [set_get _ _ _ _ (by rw [List.length_set]; exact hj), set_get _ _ _ _ hi]
theorem revGo_length (n : Nat) : ∀ (f i j : Nat) (xs : List Int), (revGo n f i j xs).length = xs.length
  | 0, _, _, _ => rfl
  | f + 1, i, j, xs => by
    rw [revGo, revGo_length n f]
    split
    · rw [Ntt.swap_length]
    · rfl
theorem revGo_get (k : Nat) (hk : k ≤ 64) (g : Nat → Int) : ∀ (f i j : Nat) (xs : List Int), i + f = 2 ^ k → (i < 2 ^ k → j = rev k i) → xs.length = 2 ^ k → (∀ m, m < 2 ^ k → xs.getD m 0 = vR k i g m) → ∀ m, m < 2 ^ k → (revGo (2 ^ k) f i j xs).getD m 0 = g (rev k m)
  | 0, i, j, xs, hif, _, _, h, m, hm => by
    rw [revGo, h m hm]
    unfold vR
    rw [if_pos (by omega)]
  | f + 1, i, j, xs, hif, hj, hl, h, m, hm => by
    have hi : i < 2 ^ k := by omega
    have hjr := hj hi
    have hr := rev_lt k i
    rw [revGo]
    refine revGo_get k hk g f (i + 1) _ _ (by omega) (fun h1 => by rw [hjr]; exact Fr.revNext_rev k i hk h1) ?_ ?_ m hm
    · split
      · rw [Ntt.swap_length, hl]
      · exact hl
    · intro q hq
      by_cases hlt : i < j
      · rw [if_pos hlt, swap_get _ _ _ _ (by omega) (by omega), h i hi, h j (by omega), h q hq, hjr]
        exact vR_swap k i g hi (by omega) q hq
      · rw [if_neg hlt, h q hq]
        exact vR_skip k i g hi (by omega) q hq
theorem rev_get (k : Nat) (hk : k ≤ 64) (xs : List Int) (hl : xs.length = 2 ^ k) (m : Nat) (hm : m < 2 ^ k) : (Ntt.rev xs).getD m 0 = xs.getD (rev k m) 0 := by
  unfold Ntt.rev
  rw [hl]
  refine revGo_get k hk (fun m => xs.getD m 0) (2 ^ k) 0 0 xs (by omega) (fun _ => ?_) hl (fun m _ => ?_) m hm
  · have : ∀ k, rev k 0 = 0 := fun k => by
      induction k with
      | zero => rfl
      | succ k ih => rw [rev]; simpa using ih
    rw [this]
  · unfold vR
    rw [if_neg (by omega)]
theorem rev_length (xs : List Int) : (Ntt.rev xs).length = xs.length := revGo_length _ _ _ _ _

/-! ### the table -/
theorem pow_mul_self (a : Int) (n : Nat) : a ^ n * a ^ n = a ^ (2 * n) := by rw [← Int.pow_add]; congr 1; omega
theorem facGo_get (w0 : Int) : ∀ (f a : Nat) (T : List Int) (w : Int), T.length = 2 ^ a → (∀ j, j < 2 ^ a → T.getD j 0 = w0 ^ j % 998244353) → Cg w (w0 ^ 2 ^ a) → 0 ≤ w → w < 998244353 →
    (facGo f T w).length = 2 ^ (a + f) ∧ ∀ j, j < 2 ^ (a + f) → (facGo f T w).getD j 0 = w0 ^ j % 998244353
  | 0, a, T, w, hl, h, _, _, _ => ⟨hl, h⟩
  | f + 1, a, T, w, hl, h, hw, w0', w1 => by
    rw [facGo, show a + (f + 1) = a + 1 + f by omega]
    have hb := Ntt.mulm_bd w w
    refine facGo_get w0 f (a + 1) _ _ (by rw [List.length_append, List.length_map, hl, Nat.pow_succ]; omega) (fun j hj => ?_) ?_ hb.1 (by omega)
    · rcases Nat.lt_or_ge j (2 ^ a) with h1 | h1
      · rw [List.getD_eq_getElem?_getD, List.getElem?_append_left (by omega), ← List.getD_eq_getElem?_getD, h j h1]
      · rw [Nat.pow_succ] at hj
        have hj2 : j - 2 ^ a < 2 ^ a := by omega
        rw [List.getD_eq_getElem?_getD, List.getElem?_append_right (by omega), List.getElem?_map, hl, List.getElem?_eq_getElem (by omega : j - 2 ^ a < T.length)]
        have e := h (j - 2 ^ a) hj2
        rw [List.getD_eq_getElem?_getD, List.getElem?_eq_getElem (by omega : j - 2 ^ a < T.length)] at e
        simp only [Option.map_some, Option.getD_some] at e ⊢
        rw [e]
        have b0 : 0 ≤ w0 ^ (j - 2 ^ a) % 998244353 := by omega
        have b1 : w0 ^ (j - 2 ^ a) % 998244353 < 4294967296 := by omega
        obtain ⟨t1, t2, t3⟩ := times_spec w0' w1 b0 b1
        obtain ⟨u1, u2, u3⟩ := fold_spec t2 t3
        refine Cg.eq (u1.trans (t1.trans ?_)) u2 u3 (by omega) (by omega)
        refine (hw.mul (Cg.emod _)).trans ?_
        rw [← Int.pow_add, show 2 ^ a + (j - 2 ^ a) = j by omega]
        exact (Cg.emod _).symm
    · refine (mulm_spec w w).trans ((hw.mul hw).trans ?_)
      rw [pow_mul_self, show 2 * 2 ^ a = 2 ^ (a + 1) by rw [Nat.pow_succ]; omega]
      exact Cg.refl _
theorem tab_get (k : Nat) (hk : 1 ≤ k) (w : Int) (h0 : 0 ≤ w) (h1 : w < 998244353) (j : Nat) (hj : j < 2 ^ (k - 1)) : (tab k w).getD j 0 = w ^ j % 998244353 := by
  unfold tab
  refine (facGo_get w (k - 1) 0 [1] w (by simp) (fun j hj => ?_) (by rw [Nat.pow_zero]; exact Cg.of (by rw [Int.pow_succ, Int.pow_zero, Int.one_mul])) h0 h1).2 j (by rw [Nat.zero_add]; exact hj)
  have : j = 0 := by simpa using hj
  subst this
  simp
end Go.Proofs.Ygctak.Nc
