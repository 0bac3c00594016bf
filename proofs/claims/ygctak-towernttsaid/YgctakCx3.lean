/-
  Walks: quarter, Nearest.
-/
import Derived.Test.YgctakCx2
namespace Go.Proofs.Ygctak
open Go.RowKit
set_option linter.unusedVariables false
set_option linter.unusedSimpArgs false
attribute [local go_sem ↓] Go.wp_at_zero Go.wp_at_succ
set_option exponentiation.threshold 3000
namespace Cx
open Ac Fl Sh Ft Ieee

theorem ip2 (c : Nat) : (0 : Int) < 2 ^ c := by rw [← Fl.ipow]; exact Int.natCast_pos.2 (Nat.two_pow_pos c)

/-- The order of finite doubles. -/
theorem order_V {x y : Nat} (hx : Finite x) (hy : Finite y) : FloatKind.f64.format.order x y = some (compareOfLessAndEq (V x) (V y)) := by
  obtain ⟨s, m, i, hr, hi, hvx⟩ := finite_read hx
  obtain ⟨t, n, j, hq, hj, hvy⟩ := finite_read hy
  obtain ⟨base, hbase⟩ : ∃ b : Int, b = min i j := ⟨_, rfl⟩
  obtain ⟨c, hc⟩ : ∃ c : Nat, base + 1074 = c := ⟨(base + 1074).toNat, by omega⟩
  obtain ⟨u, hu⟩ : ∃ u : Nat, i - base = u := ⟨(i - base).toNat, by omega⟩
  obtain ⟨v, hv⟩ : ∃ v : Nat, j - base = v := ⟨(j - base).toNat, by omega⟩
  have e1 : V x = signed s m u * 2 ^ c := by
    rw [hvx, show (i + 1074).toNat = u + c by omega, Nat.pow_add, ← Nat.mul_assoc, Int.natCast_mul _ (2 ^ c), Fl.ipow, sg_scale, signed_eq]
  have e2 : V y = signed t n v * 2 ^ c := by
    rw [hvy, show (j + 1074).toNat = v + c by omega, Nat.pow_add, ← Nat.mul_assoc, Int.natCast_mul _ (2 ^ c), Fl.ipow, sg_scale, signed_eq]
  have ho : FloatKind.f64.format.order x y = some (compare (signed s m u) (signed t n v)) := by
    show double.order x y = _
    unfold Format.order
    rw [hr, hq]
    simp only [Datum.order, ← hbase]
    rw [show (i - base).toNat = u by omega, show (j - base).toNat = v by omega]
  rw [ho, e1, e2]
  congr 1
  have hp := ip2 c
  generalize signed s m u = a
  generalize signed t n v = b
  show compareOfLessAndEq a b = compareOfLessAndEq (a * 2 ^ c) (b * 2 ^ c)
  unfold compareOfLessAndEq
  rcases Int.lt_trichotomy a b with h | h | h
  · have h1 : a * 2 ^ c < b * 2 ^ c := Int.mul_lt_mul_of_pos_right h hp
    rw [if_pos h, if_pos h1]
  · subst h; rw [if_neg (by omega), if_pos rfl, if_neg (by omega), if_pos rfl]
  · have h1 : b * 2 ^ c < a * 2 ^ c := Int.mul_lt_mul_of_pos_right h hp
    rw [if_neg (by omega), if_neg (by omega), if_neg (by omega), if_neg (by omega)]
theorem ord_lt {x y : Nat} (hx : Finite x) (hy : Finite y) (h : V x < V y) : FloatKind.f64.format.order x y = some .lt := by
  rw [order_V hx hy]; unfold compareOfLessAndEq; rw [if_pos h]
theorem ord_gt {x y : Nat} (hx : Finite x) (hy : Finite y) (h : V y < V x) : FloatKind.f64.format.order x y = some .gt := by
  rw [order_V hx hy]; unfold compareOfLessAndEq; rw [if_neg (by omega), if_neg (by omega)]

/-- A power of two. -/
theorem V_two (neg : Bool) (e : Nat) (he : e + 1 < 2047) : Finite (double.word neg (e * 2 ^ 52 + 2 ^ 52)) ∧ V (double.word neg (e * 2 ^ 52 + 2 ^ 52)) = if neg then -((2 ^ (52 + e) : Nat) : Int) else ((2 ^ (52 + e) : Nat) : Int) := by
  have hR : e * 2 ^ 52 + 2 ^ 52 < 2047 * 2 ^ 52 := by omega
  have := V_word neg _ hR
  rw [valR_kept e (2 ^ 52) (by omega) (.inr (by omega)), ← Nat.pow_add] at this
  exact this
theorem q_V : Finite 4598175219545276416 ∧ 4 * V 4598175219545276416 = UU := by
  have h := V_two false 1020 (by omega)
  rw [show double.word false (1020 * 2 ^ 52 + 2 ^ 52) = 4598175219545276416 from rfl] at h
  refine ⟨h.1, ?_⟩
  rw [h.2, if_neg (by simp), UU_eq, pow_split 1074 2 (52 + 1020) (by omega), Int.natCast_mul]
  rfl
theorem nq_V : Finite 13821547256400052224 ∧ 4 * V 13821547256400052224 = -UU := by
  have h := V_two true 1020 (by omega)
  rw [show double.word true (1020 * 2 ^ 52 + 2 ^ 52) = 13821547256400052224 from rfl] at h
  refine ⟨h.1, ?_⟩
  rw [h.2, if_pos rfl, UU_eq, pow_split 1074 2 (52 + 1020) (by omega), Int.natCast_mul]
  generalize ((2 ^ (52 + 1020) : Nat) : Int) = A
  omega
theorem h_V : Finite 4602678819172646912 ∧ 2 * V 4602678819172646912 = UU := by
  have h := V_two false 1021 (by omega)
  rw [show double.word false (1021 * 2 ^ 52 + 2 ^ 52) = 4602678819172646912 from rfl] at h
  refine ⟨h.1, ?_⟩
  rw [h.2, if_neg (by simp), UU_eq, pow_split 1074 1 (52 + 1021) (by omega), Int.natCast_mul]
  rfl
theorem nh_V : Finite 13826050856027422720 ∧ 2 * V 13826050856027422720 = -UU := by
  have h := V_two true 1021 (by omega)
  rw [show double.word true (1021 * 2 ^ 52 + 2 ^ 52) = 13826050856027422720 from rfl] at h
  refine ⟨h.1, ?_⟩
  rw [h.2, if_pos rfl, UU_eq, pow_split 1074 1 (52 + 1021) (by omega), Int.natCast_mul]
  generalize ((2 ^ (52 + 1021) : Nat) : Int) = A
  omega
theorem b_V : Finite 4841369599423283200 ∧ V 4841369599423283200 = 2 ^ 52 * UU := by
  have h := V_two false 1074 (by omega)
  rw [show double.word false (1074 * 2 ^ 52 + 2 ^ 52) = 4841369599423283200 from rfl] at h
  refine ⟨h.1, ?_⟩
  rw [h.2, if_neg (by simp), Nat.pow_add, UU_eq, Int.natCast_mul]
  rfl
theorem nb_V : Finite 14064741636278059008 ∧ V 14064741636278059008 = -(2 ^ 52 * UU) := by
  have h := V_two true 1074 (by omega)
  rw [show double.word true (1074 * 2 ^ 52 + 2 ^ 52) = 14064741636278059008 from rfl] at h
  refine ⟨h.1, ?_⟩
  rw [h.2, if_pos rfl, Nat.pow_add, UU_eq, Int.natCast_mul]
  rfl

/-- quarter, plainly. -/
def qtr (x : Nat) : Bool := (FloatKind.f64.format.order x 4598175219545276416 == some .lt || FloatKind.f64.format.order x 4598175219545276416 == some .eq) && (FloatKind.f64.format.order x 13821547256400052224 == some .gt || FloatKind.f64.format.order x 13821547256400052224 == some .eq)

theorem qtr_true {x : Nat} (h : Finite x) (hb : 5 * (V x).natAbs ≤ UU) : qtr x = true := by
  have a := q_V
  have b := nq_V
  have := UU_pos
  unfold qtr
  rw [ord_lt h a.1 (by omega), ord_gt h b.1 (by omega)]
  rfl

theorem quarter_any (x : Nat) (w : World) :
    Calls Takg.prog 115 #[.float .f64 x] w fun e w' => e = .returned (.bool (qtr x)) ∧ w' = w := by
  obtain ⟨B, hB⟩ : ∃ B, B = (FloatKind.f64.format.order x 4598175219545276416 == some Ordering.lt || FloatKind.f64.format.order x 4598175219545276416 == some Ordering.eq) := ⟨_, rfl⟩
  obtain ⟨C, hC⟩ : ∃ C, C = (FloatKind.f64.format.order x 13821547256400052224 == some Ordering.gt || FloatKind.f64.format.order x 13821547256400052224 == some Ordering.eq) := ⟨_, rfl⟩
  have hq : qtr x = (B && C) := by rw [hB, hC]; rfl
  rw [hq]
  have hB' := hB.symm
  have hC' := hC.symm
  clear hq hB hC
  cases B
  · go_enter Takg.func115, Takg.ntmps115
    go_wp2_with fail
    go_ret
    exact ⟨by simp [hB', hC'], rfl⟩
  · go_enter Takg.func115, Takg.ntmps115
    go_wp2_with fail
    go_ret
    exact ⟨by simp [hB', hC'], rfl⟩

/-- int64 of a double: what is left of the point. -/
theorem cut_zero (s : Bool) (n d : Nat) : Toward.zero.cut s n d = n / 2 ^ d := by
  unfold Toward.cut
  simp only [Bool.toNat_false, Nat.add_zero, Nat.shiftLeft_eq, Nat.one_mul]
  rcases Nat.le_total d (n.log2 + 2) with h | h
  · rw [Nat.min_eq_left h]
  · rw [Nat.min_eq_right h]
    have h1 : n < 2 ^ (n.log2 + 1) := Nat.lt_log2_self
    have h2 : 2 ^ (n.log2 + 1) ≤ 2 ^ (n.log2 + 2) := pow_mono _ _ (by omega)
    have h3 : 2 ^ (n.log2 + 2) ≤ 2 ^ d := pow_mono _ _ h
    rw [Nat.div_eq_of_lt (by omega), Nat.div_eq_of_lt (by omega)]
theorem trunc_V {x : Nat} (h : Finite x) (r : Int) (hr : 0 ≤ r) (hr2 : r < 2 ^ 60) (h0 : r = 0 ∧ (V x).natAbs < UU ∨ r * UU ≤ V x ∧ V x < (r + 1) * UU) : floatToIntVal .f64 x .i64 = some r := by
  obtain ⟨s, m, p, hrd, hp, hv⟩ := finite_read h
  have hti : (FloatKind.f64.decode x).toInt .zero = some (signed s (m * 2 ^ p.toNat / 2 ^ (-p).toNat) 0) := by
    show (double.read x).toInt .zero = _
    rw [hrd]
    simp only [Datum.toInt, Datum.integral, cut_zero, Nat.shiftLeft_eq]
  have hdiv : m * 2 ^ p.toNat / 2 ^ (-p).toNat = m * 2 ^ (p + 1074).toNat / UU := by
    rw [UU_eq]
    rcases Int.le_total 0 p with h1 | h1
    · rw [show (-p).toNat = 0 by omega, show (p + 1074).toNat = p.toNat + 1074 by omega, Nat.pow_add, ← Nat.mul_assoc, Nat.mul_div_cancel _ (Nat.two_pow_pos 1074)]
      simp
    · rw [show p.toNat = 0 by omega, pow_split 1074 ((-p).toNat) ((p + 1074).toNat) (by omega), Nat.pow_zero, Nat.mul_one, Nat.mul_div_mul_right _ _ (Nat.two_pow_pos _)]
  rw [hdiv, signed_eq, Nat.pow_zero, Nat.mul_one] at hti
  generalize m * 2 ^ (p + 1074).toNat = X at *
  have hU := UU_pos
  have hres : sg s ((X / UU : Nat) : Int) = r := by
    rcases h0 with ⟨rfl, h1⟩ | ⟨h1, h2⟩
    · rw [hv, sg_abs] at h1
      rw [Nat.div_eq_of_lt h1]
      cases s <;> simp [sg]
    · obtain ⟨q, rfl⟩ : ∃ q : Nat, r = q := ⟨r.toNat, by omega⟩
      have hV0 : 0 ≤ V x := Int.le_trans (Int.mul_nonneg (by omega) (by omega)) h1
      have hX : V x = (X : Int) := by
        rw [hv] at hV0 ⊢
        cases s
        · rfl
        · simp only [sg, if_true] at hV0 ⊢; omega
      rw [hX] at h1 h2
      have h3 : q * UU ≤ X := by
        have : ((q * UU : Nat) : Int) ≤ X := by rw [Int.natCast_mul]; exact h1
        omega
      have h4 : X < (q + 1) * UU := by
        have : (X : Int) < (((q + 1) * UU : Nat) : Int) := by rw [Int.natCast_mul]; exact h2
        omega
      have hq : X / UU = q := by
        apply Nat.div_eq_of_lt_le
        · exact h3
        · exact h4
      rw [hq]
      have : s = false ∨ q = 0 := by
        cases s
        · exact .inl rfl
        · right
          rw [hv] at hV0
          simp only [sg, if_true] at hV0
          have : X = 0 := by omega
          subst this
          simpa using hq.symm
      rcases this with rfl | rfl
      · simp [sg]
      · cases s <;> simp [sg]
  rw [hres] at hti
  unfold floatToIntVal
  rw [hti]
  have : IntKind.i64.min ≤ r ∧ r ≤ IntKind.i64.max := by
    have e1 : IntKind.i64.min = -2 ^ 63 := by decide
    have e2 : IntKind.i64.max = 2 ^ 63 - 1 := by decide
    rw [e1, e2]; omega
  show (if IntKind.i64.min ≤ r ∧ r ≤ IntKind.i64.max then some r else none) = some r
  rw [if_pos this]

/-- float64 of a small integer. -/
theorem fl_V (n : Nat) (hn : n ≤ 2 ^ 34) : Finite (floatOfInt .f64 n) ∧ 2 ^ 19 * (V (floatOfInt .f64 n) - n * UU).natAbs ≤ UU := by
  have hX : n * 2 ^ 2148 ≤ 2 ^ (34 + 2148) := by rw [Nat.pow_add]; exact Nat.mul_le_mul_right _ hn
  obtain ⟨r, U, h1, h2, h3, h4, h5⟩ := write_spec false n 0 34 2148 (by omega) (by omega) hX
  have hw : floatOfInt .f64 n = r := by
    rw [← h1]
    show double.write (.number (decide ((n : Int) < 0)) (n : Int).natAbs 0) = _
    have : decide ((n : Int) < 0) = false := decide_eq_false (by omega)
    rw [this, Int.natAbs_natCast]
  rw [hw]
  refine ⟨h2, ?_⟩
  have h6 : 2 ^ 53 * U ≤ n * 2 ^ 2148 := by
    rcases h5 with h | ⟨_, h⟩
    · exact h
    · omega
  have h7 : V r * 2 ^ 1074 - sg false ((n * 2 ^ 2148 : Nat) : Int) = (V r - n * UU) * UU := by
    rw [UU_int, Int.sub_mul]
    simp only [sg, Bool.false_eq_true, if_false]
    rw [UU2, Int.natCast_mul, Int.natCast_mul, Int.mul_assoc]
  rw [h7, Int.natAbs_mul, Int.natAbs_natCast] at h4
  rw [UU2] at h6
  have h8 : 2 ^ 34 * (UU * UU) ≥ n * (UU * UU) := Nat.mul_le_mul_right _ hn
  have hU := UU_pos
  have h9 : 2 ^ 19 * (V r - n * UU).natAbs * UU ≤ UU * UU := by
    generalize UU * UU = A at *
    rw [Nat.mul_assoc]
    omega
  exact Nat.le_of_mul_le_mul_right h9 hU
end Cx
end Go.Proofs.Ygctak
