/-
  Walks: eft.TwoSum, FastTwoSum.
-/
import Derived.Test.YgctakDoorAcc1
import Derived.Test.YgctakDoorIs
namespace Go.Proofs.YgctakDoor
open Go.RowKit
set_option linter.unusedVariables false
set_option linter.unusedSimpArgs false
attribute [local go_sem ↓] Go.wp_at_zero Go.wp_at_succ
namespace Shw
open Ac Rn Fl

theorem TwoSum_any (E x y : Nat) (w : World) (hE : E ≤ 1010) (hx : Dbl E x) (hy : Dbl E y) :
    Calls Takg.prog 41 #[.float .f64 x, .float .f64 y] w fun e w' => ∃ s t, e = .returned (.tuple #[.float .f64 s, .float .f64 t]) ∧ Dbl (E + 1) s ∧ Dbl E t ∧ V s = RN (V x + V y) ∧ V t = V x + V y - RN (V x + V y) ∧ w' = w := by
  obtain ⟨s, s1, s2, s3⟩ := hx.add hy (by omega)
  obtain ⟨bb, b1, b2, b3⟩ := s2.sub (hx.mono (show E ≤ E + 1 by omega)) (by omega)
  obtain ⟨aa, a1, a2, a3⟩ := (s2.mono (show E + 1 ≤ E + 2 by omega)).sub b2 (by omega)
  obtain ⟨db, d1, d2, d3⟩ := (hy.mono (show E ≤ E + 2 by omega)).sub b2 (by omega)
  obtain ⟨da, c1, c2, c3⟩ := (hx.mono (show E ≤ E + 3 by omega)).sub a2 (by omega)
  obtain ⟨t, t1, t2, t3⟩ := c2.add (d2.mono (show E + 3 ≤ E + 4 by omega)) (by omega)
  have hv : V t = V x + V y - RN (V x + V y) := by
    rw [t3, c3, d3, a3, b3, s3]
    exact two_sum hx.F hy.F
  have ht : Dbl E t := ⟨t2.fin, t2.lt, by rw [hv]; exact Nat.le_trans (err_le hx.F hy.F).1 hx.bd⟩
  have e1 := fun w => run_float_arith (P := Takg.prog) w .add 33 .f64 x y s s1
  have e2 := fun w => run_float_arith (P := Takg.prog) w .sub 33 .f64 s x bb b1
  have e3 := fun w => run_float_arith (P := Takg.prog) w .sub 33 .f64 s bb aa a1
  have e4 := fun w => run_float_arith (P := Takg.prog) w .sub 33 .f64 y bb db d1
  have e5 := fun w => run_float_arith (P := Takg.prog) w .sub 33 .f64 x aa da c1
  have e6 := fun w => run_float_arith (P := Takg.prog) w .add 33 .f64 da db t t1
  have H := hide (And.intro s2 (And.intro ht (And.intro s3 hv)))
  clear hx hy s1 s2 s3 b1 b2 b3 a1 a2 a3 d1 d2 d3 c1 c2 c3 t1 t2 t3 hv ht
  go_enter Takg.func41, Takg.ntmps41
  go_wp2_with fail
  go_ret2
  exact ⟨s, t, rfl, H.out.1, H.out.2.1, H.out.2.2.1, H.out.2.2.2, rfl⟩

theorem FastTwoSum_any (E x y : Nat) (w : World) (hE : E ≤ 1010) (hx : Dbl E x) (hy : Dbl E y) :
    Calls Takg.prog 42 #[.float .f64 x, .float .f64 y] w fun e w' => ∃ s t, e = .returned (.tuple #[.float .f64 s, .float .f64 t]) ∧ Dbl (E + 1) s ∧ Dbl (E + 3) t ∧ V s = RN (V x + V y) ∧ V t = RN (V y - RN (RN (V x + V y) - V x)) ∧ w' = w := by
  obtain ⟨s, s1, s2, s3⟩ := hx.add hy (by omega)
  obtain ⟨z, z1, z2, z3⟩ := s2.sub (hx.mono (show E ≤ E + 1 by omega)) (by omega)
  obtain ⟨t, t1, t2, t3⟩ := (hy.mono (show E ≤ E + 2 by omega)).sub z2 (by omega)
  have e1 := fun w => run_float_arith (P := Takg.prog) w .add 33 .f64 x y s s1
  have e2 := fun w => run_float_arith (P := Takg.prog) w .sub 33 .f64 s x z z1
  have e3 := fun w => run_float_arith (P := Takg.prog) w .sub 33 .f64 y z t t1
  have hv : V t = RN (V y - RN (RN (V x + V y) - V x)) := by rw [t3, z3, s3]
  have H := hide (And.intro s2 (And.intro t2 (And.intro s3 hv)))
  clear hx hy s1 s2 s3 z1 z2 z3 t1 t2 t3 hv
  go_enter Takg.func42, Takg.ntmps42
  go_wp2_with fail
  go_ret2
  exact ⟨s, t, rfl, H.out.1, H.out.2.1, H.out.2.2.1, H.out.2.2.2, rfl⟩

/-- Comparisons of finite doubles, by their values. -/
theorem eq_V {x y : Nat} (hx : Finite x) (hy : Finite y) : (FloatKind.f64.format.order x y == some .eq) = decide (V x = V y) := by
  show (Ieee.double.order x y == some .eq) = _
  rw [order_V hx hy]
  show (some (compareOfLessAndEq (V x) (V y)) == some .eq) = _
  unfold compareOfLessAndEq
  rcases Int.lt_trichotomy (V x) (V y) with h | h | h
  · rw [if_pos h, decide_eq_false (by omega)]; rfl
  · rw [if_neg (by omega), if_pos h, decide_eq_true h]; rfl
  · rw [if_neg (by omega), if_neg (by omega), decide_eq_false (by omega)]; rfl
theorem lt_V {x y : Nat} (hx : Finite x) (hy : Finite y) : (FloatKind.f64.format.order x y == some .lt) = decide (V x < V y) := by
  show (Ieee.double.order x y == some .lt) = _
  rw [order_V hx hy]
  show (some (compareOfLessAndEq (V x) (V y)) == some .lt) = _
  unfold compareOfLessAndEq
  rcases Int.lt_trichotomy (V x) (V y) with h | h | h
  · rw [if_pos h, decide_eq_true h]; rfl
  · rw [if_neg (by omega), if_pos h, decide_eq_false (by omega)]; rfl
  · rw [if_neg (by omega), if_neg (by omega), decide_eq_false (by omega)]; rfl
theorem gt_V {x y : Nat} (hx : Finite x) (hy : Finite y) : (FloatKind.f64.format.order x y == some .gt) = decide (V y < V x) := by
  show (Ieee.double.order x y == some .gt) = _
  rw [order_V hx hy]
  show (some (compareOfLessAndEq (V x) (V y)) == some .gt) = _
  unfold compareOfLessAndEq
  rcases Int.lt_trichotomy (V x) (V y) with h | h | h
  · rw [if_pos h, decide_eq_false (by omega)]; rfl
  · rw [if_neg (by omega), if_pos h, decide_eq_false (by omega)]; rfl
  · rw [if_neg (by omega), if_neg (by omega), decide_eq_true h]; rfl

theorem zero_fin : Finite 0 ∧ V 0 = 0 := by
  have := V_word false 0 (by omega)
  refine ⟨this.1, ?_⟩
  rw [show (0 : Nat) = Ieee.double.word false 0 from rfl, this.2]
  simp [valR]
theorem ne0_V {x : Nat} (hx : Finite x) : (FloatKind.f64.format.order x 0 != some .eq) = decide (V x ≠ 0) := by
  have := eq_V hx zero_fin.1
  rw [zero_fin.2] at this
  show (!(FloatKind.f64.format.order x 0 == some .eq)) = _
  rw [this]
  by_cases h : V x = 0 <;> simp [h]
end Shw
end Go.Proofs.YgctakDoor
