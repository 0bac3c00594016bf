/-
  Walk: Nearest.
-/
import Derived.Test.YgctakCx3
namespace Go.Proofs.Ygctak
open Go.RowKit
set_option linter.unusedVariables false
set_option linter.unusedSimpArgs false
attribute [local go_sem ↓] Go.wp_at_zero Go.wp_at_succ
set_option exponentiation.threshold 3000
namespace Cx
open Ac Fl Sh Ft Ieee

theorem sub_fl {v : Nat} (hv : Finite v) (r : Nat) (hr : r ≤ 2 ^ 34) (h : (V v - r * UU).natAbs ≤ UU) :
    ∃ d, double.sub v (floatOfInt .f64 r) = some d ∧ Finite d ∧ 2 ^ 18 * (V d - (V v - r * UU)).natAbs ≤ UU := by
  obtain ⟨a1, a2⟩ := fl_V r hr
  have hU := UU_pos
  have hb : (V v - V (floatOfInt .f64 r)).natAbs ≤ 2 ^ (1 + 1074) := by
    rw [pow_UU]
    generalize (r : Int) * UU = A at *
    omega
  obtain ⟨d, h1, h2, h3, h4⟩ := sub_spec v _ 1 hv a1 (by omega) hb
  refine ⟨d, h1, h2, ?_⟩
  rw [pow_UU] at hb
  generalize (r : Int) * UU = A at *
  omega

theorem near_plain {v c : Nat} (hv : Finite v) (hc : c ≤ 2 ^ 34) (h : 8 * (V v - UU * c).natAbs ≤ UU) :
    ∃ r d q : Nat, r ≤ 2 ^ 34 ∧ floatToIntVal .f64 v .i64 = some (r : Int) ∧ floatBits .sub .f64 v (floatOfInt .f64 r) = some d ∧ floatBits .sub .f64 v (floatOfInt .f64 c) = some q ∧ qtr q = true ∧
      (r = c ∧ d = q ∧ FloatKind.f64.format.order d 4602678819172646912 = some .lt ∧ FloatKind.f64.format.order d 13826050856027422720 = some .gt ∨ r + 1 = c ∧ FloatKind.f64.format.order d 4602678819172646912 = some .gt ∧ FloatKind.f64.format.order d 13826050856027422720 = some .gt) := by
  have hU := UU_pos
  rw [Int.mul_comm] at h
  have p1 := h_V
  have p2 := nh_V
  obtain ⟨q, q1, q2, q3⟩ := sub_fl hv c hc (by omega)
  have hq : qtr q = true := qtr_true q2 (by generalize (c : Int) * UU = A at *; omega)
  by_cases hlow : V v < c * UU ∧ 1 ≤ c
  · obtain ⟨r, rfl⟩ : ∃ r, c = r + 1 := ⟨c - 1, by omega⟩
    have e : ((r + 1 : Nat) : Int) * UU = r * UU + UU := by rw [show ((r + 1 : Nat) : Int) = (r : Int) + 1 by omega, Int.add_mul, Int.one_mul]
    rw [e] at h hlow
    have ht := trunc_V hv (r : Int) (by omega) (by omega) (.inr ⟨by generalize (r : Int) * UU = A at *; omega, by rw [Int.add_mul, Int.one_mul]; omega⟩)
    obtain ⟨d, d1, d2, d3⟩ := sub_fl hv r (by omega) (by generalize (r : Int) * UU = A at *; omega)
    refine ⟨r, d, q, by omega, ht, d1, q1, hq, .inr ⟨rfl, ord_gt d2 p1.1 ?_, ord_gt d2 p2.1 ?_⟩⟩
    · generalize (r : Int) * UU = A at *; omega
    · generalize (r : Int) * UU = A at *; omega
  · have ht := trunc_V hv (c : Int) (by omega) (by omega) (by
      rcases Nat.eq_zero_or_pos c with h0 | h0
      · subst h0; left; refine ⟨rfl, ?_⟩; simp at h; omega
      · right; rw [Int.add_mul, Int.one_mul]; generalize (c : Int) * UU = A at *; omega)
    refine ⟨c, q, q, by omega, ht, q1, q1, hq, .inl ⟨rfl, rfl, ord_lt q2 p1.1 ?_, ord_gt q2 p2.1 ?_⟩⟩
    · generalize (c : Int) * UU = A at *; omega
    · generalize (c : Int) * UU = A at *; omega

theorem Nearest_any (v c : Nat) (w : World) (hv : Finite v) (hc : c ≤ 2 ^ 34) (h : 8 * (V v - UU * c).natAbs ≤ UU) :
    Calls Takg.prog 116 #[.float .f64 v] w fun e w' => e = .returned (.tuple #[.int .i64 c, .bool true]) ∧ w' = w := by
  obtain ⟨r, d, q, hr, ht, hd, hq, hqq, hcase⟩ := near_plain hv hc h
  have hU := UU_pos
  have p1 := b_V
  have p2 := nb_V
  have hm : (c : Int) * UU ≤ 2 ^ 34 * UU := Int.mul_le_mul_of_nonneg_right (by omega) (by omega)
  have hm2 : 0 ≤ (c : Int) * UU := Int.mul_nonneg (by omega) (by omega)
  rw [Int.mul_comm] at h
  have o1 := ord_lt hv p1.1 (by generalize (c : Int) * UU = A at *; omega)
  have o2 := ord_gt hv p2.1 (by generalize (c : Int) * UU = A at *; omega)
  have R0 := fun w => run_convert_float_int (P := Takg.prog) w 122 2 .f64 .i64 v r (by rw [Takg.underlying122]; rfl) Takg.underlying2 ht
  obtain ⟨fr, hfr⟩ : ∃ f, f = floatOfInt .f64 (r : Int) := ⟨_, rfl⟩
  obtain ⟨fc, hfc⟩ : ∃ f, f = floatOfInt .f64 (c : Int) := ⟨_, rfl⟩
  rw [← hfr] at hd
  rw [← hfc] at hq
  have R1 := fun w => run_float_arith (P := Takg.prog) w .sub 122 .f64 v fr d hd
  have R2 := fun w => run_float_arith (P := Takg.prog) w .sub 122 .f64 v fc q hq
  have HQ := hide (fun W => hqq ▸ quarter_any q W)
  have hfr' := hfr.symm
  have hfc' := hfc.symm
  clear hqq hm hm2 p1 p2 h hv ht hd hq hfr hfc
  rcases hcase with ⟨rfl, rfl, c1, c2⟩ | ⟨hrc, c1, c2⟩
  · go_enter Takg.func116, Takg.ntmps116
    go_wp2_with fail
    refine (HQ.out _).mono ?_
    rintro e w' ⟨rfl, rfl⟩
    go_wp2_with fail
    go_ret2
    exact ⟨rfl, rfl⟩
  · subst hrc
    rw [show ((r + 1 : Nat) : Int) = (r : Int) + 1 by omega] at hfc' ⊢
    go_enter Takg.func116, Takg.ntmps116
    go_wp2_with fail
    refine (HQ.out _).mono ?_
    rintro e w' ⟨rfl, rfl⟩
    go_wp2_with fail
    go_ret2
    exact ⟨rfl, rfl⟩
end Cx
end Go.Proofs.Ygctak
