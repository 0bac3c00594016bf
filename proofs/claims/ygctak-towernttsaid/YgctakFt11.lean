/-
  The products in doubles; the way back; what it comes to.
-/
import Derived.Test.YgctakFt10
set_option linter.unusedVariables false
set_option linter.unusedSimpArgs false
set_option exponentiation.threshold 3000
namespace Go.Proofs.Ygctak.Ft
open Fl Sh

theorem two_off {X e : Nat} {x y A B : Int} (hx : x.natAbs ≤ X) (hB : B.natAbs ≤ X) (h1 : (x - A).natAbs ≤ e) (h2 : (y - B).natAbs ≤ e) : (x * y - A * B).natAbs ≤ 2 * (X * e) := by
  have e0 : x * y - A * B = x * (y - B) + (x - A) * B := by grind
  have a1 : (x * (y - B)).natAbs ≤ X * e := by rw [Int.natAbs_mul]; exact Nat.mul_le_mul hx h2
  have a2 : ((x - A) * B).natAbs ≤ e * X := by rw [Int.natAbs_mul]; exact Nat.mul_le_mul h1 hB
  rw [Nat.mul_comm e X] at a2
  rw [e0]; omega

theorem prod_fin {U W ε X : Nat} {v c A G : Int} (hU0 : 0 < U) (hU : U = 2 ^ 50 * W) (h1 : 2 ^ 53 * ((U : Int) * v - c).natAbs ≤ 8 * (X * X * (U * U))) (h2 : (c - A).natAbs ≤ 4 * (X * U * (ε * W))) (h3 : 2 ^ 49 * (A - U * G).natAbs ≤ X * X * (U * U)) :
    (v - G).natAbs ≤ (3 * (X * X) + 4 * (X * ε)) * W := by
  have e0 : (U : Int) * (v - G) = ((U : Int) * v - c) + (c - A) + (A - U * G) := by grind
  have s := abs_scale U (v - G)
  have e1 : X * X * (U * U) = 2 ^ 50 * (X * X * W * U) := by
    have : X * X * (U * U) = X * X * (U * (2 ^ 50 * W)) := by rw [← hU]
    rw [this]; grind
  have e2 : X * U * (ε * W) = X * ε * W * U := by grind
  rw [e1] at h1 h3
  rw [e2] at h2
  have h5 : U * (v - G).natAbs ≤ U * ((3 * (X * X) + 4 * (X * ε)) * W) := by
    have a2 : U * ((3 * (X * X) + 4 * (X * ε)) * W) = 3 * (X * X * W * U) + 4 * (X * ε * W * U) := by grind
    rw [a2, ← s, e0]
    generalize X * X * W * U = p at *
    generalize X * ε * W * U = q at *
    omega
  exact Nat.le_of_mul_le_mul_left h5 hU0

/-- The bound of the products. -/
def ep (k : Nat) : Nat := 3 * (130561 * 130561) + 4 * (130561 * ef k)

theorem tms_near {k d : Nat} {xs ys : List Int} (h1 : 1 ≤ k) (h2 : k ≤ 10) (hd : d ≤ 255) (hx : Digs d xs) (hy : Digs d ys) (lx : xs.length ≤ 512) (ly : ys.length ≤ 512) (m j : Nat) (hj : j < 2 ^ k) :
    Near (ep k * WU) (zf (tms (fwd k d xs) (fwd k d ys) m) j) (Gb xs ys k j 0) := by
  have nx := fwd_near h1 h2 hd hx j hj
  have ny := fwd_near h1 h2 hd hy j hj
  have hz : zf (tms (fwd k d xs) (fwd k d ys) m) j = cmul (zf (fwd k d xs) j) (zf (fwd k d ys) j) := by
    unfold zf tms
    rw [List.getD_eq_getElem?_getD, List.getElem?_map, List.getElem?_range (by rw [fwd_length]; exact hj)]
    rfl
  rw [hz]
  obtain ⟨a1, a2⟩ := FA_bd (k := k) hd hx lx j
  obtain ⟨b1, b2⟩ := FA_bd (k := k) hd hy ly j
  have he : ef k * WU ≤ UU := by
    have := (ef_ok ⟨k, by omega⟩).2
    rw [WU_UU]
    exact Nat.mul_le_mul_right _ (Nat.le_trans this (by decide))
  have e0 : 130561 * UU = 130560 * UU + UU := by grind
  have big : ∀ {z R : Int}, R.natAbs ≤ 130560 * UU → (z - R).natAbs ≤ ef k * WU → z.natAbs ≤ 130561 * UU := fun g1 g2 => by omega
  have x1 := big a1 nx.d1
  have x2 := big a2 nx.d2
  have y1 := big b1 ny.d1
  have y2 := big b2 ny.d2
  have b1' : (FA ys k j).1.natAbs ≤ 130561 * UU := by omega
  have b2' : (FA ys k j).2.natAbs ≤ 130561 * UU := by omega
  have hXY : 130561 * UU * (130561 * UU) ≤ 2 ^ 120 * (UU * UU) := by
    have : 130561 * UU * (130561 * UU) = 17046174721 * (UU * UU) := by grind
    rw [this]
    exact Nat.mul_le_mul_right _ (by decide)
  obtain ⟨f1, f2, c1, c2⟩ := cmul_err nx.f1 nx.f2 ny.f1 ny.f2 x1 x2 y1 y2 hXY
  obtain ⟨m1, m2⟩ := FA_mul hd hx hy lx ly k j
  have hK := KK_small
  have pr : ∀ {a b : Int}, a.natAbs ≤ 130561 * UU → b.natAbs ≤ 130561 * UU → (a * b).natAbs ≤ 130561 * 130561 * (UU * UU) := fun g1 g2 => by
    rw [Int.natAbs_mul]
    have := Nat.mul_le_mul g1 g2
    have e : 130561 * UU * (130561 * UU) = 130561 * 130561 * (UU * UU) := by grind
    rw [e] at this; exact this
  have p11 := pr x1 y1
  have p22 := pr x2 y2
  have p12 := pr x1 y2
  have p21 := pr x2 y1
  have hQ : 0 < UU * UU := Nat.mul_pos UU_pos UU_pos
  have g1 : 2 ^ 53 * ((UU : Int) * V (cmul (zf (fwd k d xs) j) (zf (fwd k d ys) j)).1 - (V (zf (fwd k d xs) j).1 * V (zf (fwd k d ys) j).1 - V (zf (fwd k d xs) j).2 * V (zf (fwd k d ys) j).2)).natAbs ≤ 8 * (130561 * 130561 * (UU * UU)) := by omega
  have g2 : 2 ^ 53 * ((UU : Int) * V (cmul (zf (fwd k d xs) j) (zf (fwd k d ys) j)).2 - (V (zf (fwd k d xs) j).1 * V (zf (fwd k d ys) j).2 + V (zf (fwd k d xs) j).2 * V (zf (fwd k d ys) j).1)).natAbs ≤ 8 * (130561 * 130561 * (UU * UU)) := by omega
  have o11 := two_off x1 b1' nx.d1 ny.d1
  have o22 := two_off x2 b2' nx.d2 ny.d2
  have o12 := two_off x1 b2' nx.d1 ny.d2
  have o21 := two_off x2 b1' nx.d2 ny.d1
  have w1 : 2 ^ 49 * ((FA xs k j).1 * (FA ys k j).1 - (FA xs k j).2 * (FA ys k j).2 - UU * (Gb xs ys k j 0).1).natAbs ≤ 130561 * 130561 * (UU * UU) := Nat.le_trans m1 (Nat.mul_le_mul_right _ (by decide))
  have w2 : 2 ^ 49 * ((FA xs k j).1 * (FA ys k j).2 + (FA xs k j).2 * (FA ys k j).1 - UU * (Gb xs ys k j 0).2).natAbs ≤ 130561 * 130561 * (UU * UU) := Nat.le_trans m2 (Nat.mul_le_mul_right _ (by decide))
  refine ⟨f1, f2, ?_, ?_⟩
  · exact prod_fin UU_pos WU_UU g1 (by omega) w1
  · exact prod_fin UU_pos WU_UU g2 (by omega) w2

/-! ### sums of roots -/
theorem sm_pair {f : Nat → Int} {h : Nat} (hf : ∀ m, f (m + h) = -f m) : ∀ c, sm f (c * (2 * h)) = 0
  | 0 => by simp [sm]
  | c + 1 => by
    rw [Nat.add_mul, Nat.one_mul, sm_append, sm_pair hf c, Nat.two_mul, sm_append]
    have e : sm (fun m => f (c * (h + h) + (h + m))) h = -sm (fun m => f (c * (h + h) + m)) h := by
      rw [← sm_neg]
      refine sm_congr fun m _ => ?_
      rw [show c * (h + h) + (h + m) = c * (h + h) + m + h by omega, hf]
    rw [e]; omega

theorem odd_split : ∀ (k : Nat) (D : Int), D % ((2 ^ k : Nat) : Int) ≠ 0 → ∃ v, v < k ∧ ∃ o : Int, D = ((2 ^ v : Nat) : Int) * (2 * o + 1)
  | 0, D, h => by simp at h
  | k + 1, D, h => by
    by_cases h2 : D % 2 = 1
    · exact ⟨0, by omega, D / 2, by simp; omega⟩
    · obtain ⟨v, hv, o, e⟩ := odd_split k (D / 2) (fun h3 => h (by
        have e1 : ((2 ^ (k + 1) : Nat) : Int) = 2 * ((2 ^ k : Nat) : Int) := by rw [Nat.pow_succ]; omega
        have e2 : D = 2 * (D / 2) := by omega
        rw [e1, e2, Int.mul_emod_mul_of_pos _ _ (by omega), h3]; rfl))
      refine ⟨v + 1, by omega, o, ?_⟩
      have e1 : ((2 ^ (v + 1) : Nat) : Int) = 2 * ((2 ^ v : Nat) : Int) := by rw [Nat.pow_succ]; omega
      rw [e1, Int.mul_assoc, ← e]; omega

theorem ww_sum (k : Nat) (hk : k ≤ 10) (D : Int) :
    sm (fun m => (ww ((m : Int) * D * ((2 ^ (10 - k) : Nat) : Int))).1) (2 ^ k) = (if D % ((2 ^ k : Nat) : Int) = 0 then ((2 ^ k : Nat) : Int) * 2 ^ 62 else 0) ∧
    sm (fun m => (ww ((m : Int) * D * ((2 ^ (10 - k) : Nat) : Int))).2) (2 ^ k) = 0 := by
  have hp : ((2 ^ k : Nat) : Int) * ((2 ^ (10 - k) : Nat) : Int) = 1024 := by rw [← Int.natCast_mul, ← Nat.pow_add, show k + (10 - k) = 10 by omega]; rfl
  by_cases h : D % ((2 ^ k : Nat) : Int) = 0
  · rw [if_pos h]
    have e : ∀ m : Nat, ww ((m : Int) * D * ((2 ^ (10 - k) : Nat) : Int)) = (2 ^ 62, 0) := fun m => by
      obtain ⟨q, hq⟩ : ∃ q, D = ((2 ^ k : Nat) : Int) * q := ⟨D / ((2 ^ k : Nat) : Int), by have := Int.emod_add_mul_ediv D ((2 ^ k : Nat) : Int); omega⟩
      have e2 : (m : Int) * D * ((2 ^ (10 - k) : Nat) : Int) = 0 + 1024 * (m * q) := by
        rw [hq, ← hp]; grind
      rw [e2, ww_per, ww0]
    simp only [e]
    have c : ∀ (x : Int) (n : Nat), sm (fun _ => x) n = n * x := fun x n => by
      induction n with
      | zero => simp [sm]
      | succ n ih => simp only [sm]; rw [ih]; push_cast; grind
    rw [c, c]
    simp
  · rw [if_neg h]
    obtain ⟨v, hv, o, e⟩ := odd_split k D h
    have hpow : 2 ^ k = 2 ^ v * (2 * 2 ^ (k - 1 - v)) := by
      rw [show 2 * 2 ^ (k - 1 - v) = 2 ^ (k - 1 - v + 1) by rw [Nat.pow_succ, Nat.mul_comm], ← Nat.pow_add, show v + (k - 1 - v + 1) = k by omega]
    have h512 : ((2 ^ (k - 1 - v) : Nat) : Int) * ((2 ^ v : Nat) : Int) * ((2 ^ (10 - k) : Nat) : Int) = 512 := by
      rw [← Int.natCast_mul, ← Int.natCast_mul, ← Nat.pow_add, ← Nat.pow_add, show k - 1 - v + v + (10 - k) = 9 by omega]; rfl
    have key : ∀ m : Nat, ww (((m + 2 ^ (k - 1 - v) : Nat) : Int) * D * ((2 ^ (10 - k) : Nat) : Int)) = (-(ww ((m : Int) * D * ((2 ^ (10 - k) : Nat) : Int))).1, -(ww ((m : Int) * D * ((2 ^ (10 - k) : Nat) : Int))).2) := fun m => by
      have e2 : ((m + 2 ^ (k - 1 - v) : Nat) : Int) * D * ((2 ^ (10 - k) : Nat) : Int) = (m : Int) * D * ((2 ^ (10 - k) : Nat) : Int) + 512 + 1024 * o := by
        rw [Int.natCast_add]
        have e3 : ((m : Int) + ((2 ^ (k - 1 - v) : Nat) : Int)) * D * ((2 ^ (10 - k) : Nat) : Int) = (m : Int) * D * ((2 ^ (10 - k) : Nat) : Int) + ((2 ^ (k - 1 - v) : Nat) : Int) * D * ((2 ^ (10 - k) : Nat) : Int) := by grind
        have e4 : ((2 ^ (k - 1 - v) : Nat) : Int) * D * ((2 ^ (10 - k) : Nat) : Int) = ((2 ^ (k - 1 - v) : Nat) : Int) * ((2 ^ v : Nat) : Int) * ((2 ^ (10 - k) : Nat) : Int) * (2 * o + 1) := by rw [e]; grind
        rw [e3, e4, h512]; omega
      rw [e2, ww_per, ww_anti]
    rw [hpow]
    exact ⟨sm_pair (fun m => by rw [key]) _, sm_pair (fun m => by rw [key]) _⟩

/-- The i-th sum of the convolution, modulo 2^k. -/
def cv (xs ys : List Int) (k i : Nat) : Int := s2 xs ys k (fun n => if ((n : Int) - i) % ((2 ^ k : Nat) : Int) = 0 then 1 else 0)

theorem Gb_end (xs ys : List Int) (k i : Nat) (hk : k ≤ 10) : Rs (Gb xs ys k) (-1) (2 ^ k) 1 0 ((2 ^ (10 - k) : Nat) : Int) i 0 = (((2 ^ k : Nat) : Int) * UU * cv xs ys k i, 0) := by
  have e : ∀ m : Nat, Gb xs ys k (0 + m * 1) (-1 * ((m : Int) * i * ((2 ^ (10 - k) : Nat) : Int)) + 0) = (SC * s2 xs ys k (fun n => (ww ((m : Int) * ((n : Int) - i) * ((2 ^ (10 - k) : Nat) : Int))).1), SC * s2 xs ys k (fun n => (ww ((m : Int) * ((n : Int) - i) * ((2 ^ (10 - k) : Nat) : Int))).2)) := fun m => by
    rw [Gb_eq, Nat.zero_add, Nat.mul_one]
    have e2 : ∀ n : Nat, ((n * m * 2 ^ (10 - k) : Nat) : Int) + (-1 * ((m : Int) * i * ((2 ^ (10 - k) : Nat) : Int)) + 0) = (m : Int) * ((n : Int) - i) * ((2 ^ (10 - k) : Nat) : Int) := fun n => by
      rw [Int.natCast_mul, Int.natCast_mul]; grind
    simp only [e2]
  have sw : ∀ g : Nat → Nat → Int, sm (fun m => s2 xs ys k (fun n => g m n)) (2 ^ k) = s2 xs ys k (fun n => sm (fun m => g m n) (2 ^ k)) := by
    intro g
    unfold s2
    rw [sm_swap]
    refine sm_congr fun p _ => ?_
    rw [sm_swap]
    exact sm_congr fun q _ => by rw [← sm_mul]
  unfold Rs
  simp only [e]
  rw [sm_mul, sm_mul, sw (fun m n => (ww ((m : Int) * ((n : Int) - i) * ((2 ^ (10 - k) : Nat) : Int))).1), sw (fun m n => (ww ((m : Int) * ((n : Int) - i) * ((2 ^ (10 - k) : Nat) : Int))).2)]
  have h1 : ∀ n : Nat, sm (fun m => (ww ((m : Int) * ((n : Int) - i) * ((2 ^ (10 - k) : Nat) : Int))).1) (2 ^ k) = ((2 ^ k : Nat) : Int) * 2 ^ 62 * (if ((n : Int) - i) % ((2 ^ k : Nat) : Int) = 0 then 1 else 0) := fun n => by
    rw [(ww_sum k hk _).1]; split <;> simp
  have h2 : ∀ n : Nat, sm (fun m => (ww ((m : Int) * ((n : Int) - i) * ((2 ^ (10 - k) : Nat) : Int))).2) (2 ^ k) = 0 := fun n => (ww_sum k hk _).2
  simp only [h1, h2]
  have z : s2 xs ys k (fun _ => 0) = 0 := by
    unfold s2
    have : ∀ p, sm (fun q => dg xs p * dg ys q * 0) (2 ^ k) = 0 := fun p => by simp only [Int.mul_zero]; exact sm_zero _
    simp only [this]
    exact sm_zero _
  have f : ∀ (c : Int) (g : Nat → Int), s2 xs ys k (fun n => c * g n) = c * s2 xs ys k g := by
    intro c g
    unfold s2
    rw [← sm_mul]
    refine sm_congr fun p _ => ?_
    rw [← sm_mul]
    exact sm_congr fun q _ => by grind
  rw [z, f, SC_int, Int.mul_zero]
  unfold cv
  congr 1
  grind
end Go.Proofs.Ygctak.Ft
