/-
  The operations on doubles, as integers with a bound on the error.
-/
import Derived.Test.YgctakFl
set_option linter.unusedVariables false
set_option linter.unusedSimpArgs false
namespace Go.Proofs.Ygctak.Fl
open Ieee

theorem read_place {x : Nat} {s : Bool} {m : Nat} {p : Int} (h : double.read x = .number s m p) : -1074 ≤ p := by
  unfold Format.read at h
  simp only [least] at h
  split at h
  · cases h; omega
  · split at h
    · cases h; omega
    · split at h <;> cases h

theorem V_of {x : Nat} {s : Bool} {m : Nat} {p : Int} (h : double.read x = .number s m p) (u : Nat) (hu : p + 1074 = u) : V x = if s then -((m * 2 ^ u : Nat) : Int) else ((m * 2 ^ u : Nat) : Int) := by
  unfold V
  rw [h]
  simp only [signed, Nat.shiftLeft_eq]
  rw [show (p + 1074).toNat = u by omega]

theorem ipow (n : Nat) : ((2 ^ n : Nat) : Int) = 2 ^ n := by rw [Int.natCast_pow]; rfl

/-- A sign put to a number. -/
def sg (s : Bool) (n : Int) : Int := if s then -n else n
theorem sg_mul (s t : Bool) (a b : Int) : sg s a * sg t b = sg (s ^^ t) (a * b) := by
  cases s <;> cases t <;> simp [sg, Int.neg_mul, Int.mul_neg]
theorem sg_abs (s : Bool) (n : Nat) : (sg s n).natAbs = n := by cases s <;> simp [sg]
theorem sg_scale (s : Bool) (a b : Int) : sg s (a * b) = sg s a * b := by cases s <;> simp [sg, Int.neg_mul]

/-- 'write' of a number: what comes of it, in integers: the exact value is sg neg (mag * 2^S) units of 2^-2148. -/
theorem write_spec (neg : Bool) (mag : Nat) (place : Int) (E S : Nat) (hE : E ≤ 1023) (hS : place + 2148 = S) (hX : mag * 2 ^ S ≤ 2 ^ (E + 2148)) :
    ∃ r U : Nat, double.write (.number neg mag place) = r ∧ Finite r ∧ (V r).natAbs ≤ 2 ^ (E + 1074) ∧
      (V r * 2 ^ 1074 - sg neg ((mag * 2 ^ S : Nat) : Int)).natAbs ≤ U ∧ (2 ^ 53 * U ≤ mag * 2 ^ S ∨ (U = 2 ^ 1073 ∧ place < -1074)) := by
  obtain ⟨R, U, h1, h2, h3, h4, h5, h6⟩ := nearest_spec neg mag place E S hE hS hX
  refine ⟨_, U, rfl, h1, ?_, ?_, h6⟩
  · show (V (double.nearest neg mag place)).natAbs ≤ _
    rw [h2]
    have := sg_abs neg R
    unfold sg at this
    rw [this]
    exact h3
  · show (V (double.nearest neg mag place) * 2 ^ 1074 - _).natAbs ≤ U
    rw [h2]
    rw [← ipow 1074]
    generalize (2 : Nat) ^ 1074 = A at *
    generalize mag * 2 ^ S = X at *
    have hA : ((R * A : Nat) : Int) = (R : Int) * A := Int.natCast_mul R A
    cases neg
    · simp only [sg, Bool.false_eq_true, if_false]
      rw [← hA]; omega
    · simp only [sg, if_true]
      rw [Int.neg_mul, ← hA]; omega

theorem signed_eq (s : Bool) (m u : Nat) : signed s m u = sg s ((m * 2 ^ u : Nat) : Int) := by simp [signed, sg, Nat.shiftLeft_eq]

/-- A sum: of whatever numbers that lie on the grid. -/
theorem sum_spec (x y : Datum) (s t : Bool) (m n : Nat) (i j : Int) (hx : x = .number s m i) (hy : y = .number t n j) (hi : -1074 ≤ i) (hj : -1074 ≤ j) (X Y : Int)
    (hX : X = sg s ((m * 2 ^ (i + 1074).toNat : Nat) : Int)) (hY : Y = sg t ((n * 2 ^ (j + 1074).toNat : Nat) : Int)) (E : Nat) (hE : E ≤ 1023) (h : (X + Y).natAbs ≤ 2 ^ (E + 1074)) :
    ∃ r, (x.sum y).map double.write = some r ∧ Finite r ∧ (V r).natAbs ≤ 2 ^ (E + 1074) ∧ 2 ^ 53 * (V r - (X + Y)).natAbs ≤ (X + Y).natAbs := by
  subst hx hy
  obtain ⟨base, hbase⟩ : ∃ b : Int, b = min i j := ⟨_, rfl⟩
  obtain ⟨c, hc⟩ : ∃ c : Nat, base + 1074 = c := ⟨(base + 1074).toNat, by omega⟩
  obtain ⟨u, hu⟩ : ∃ u : Nat, i - base = u := ⟨(i - base).toNat, by omega⟩
  obtain ⟨v, hv⟩ : ∃ v : Nat, j - base = v := ⟨(j - base).toNat, by omega⟩
  obtain ⟨total, htot⟩ : ∃ z, z = signed s m u + signed t n v := ⟨_, rfl⟩
  have hXY : X + Y = total * 2 ^ c := by
    have e1 : ((m * 2 ^ (i + 1074).toNat : Nat) : Int) = ((m * 2 ^ u : Nat) : Int) * 2 ^ c := by
      rw [show (i + 1074).toNat = u + c by omega, Nat.pow_add, ← Nat.mul_assoc, Int.natCast_mul _ (2 ^ c), Int.natCast_pow]; rfl
    have e2 : ((n * 2 ^ (j + 1074).toNat : Nat) : Int) = ((n * 2 ^ v : Nat) : Int) * 2 ^ c := by
      rw [show (j + 1074).toNat = v + c by omega, Nat.pow_add, ← Nat.mul_assoc, Int.natCast_mul _ (2 ^ c), Int.natCast_pow]; rfl
    rw [hX, hY, e1, e2, sg_scale, sg_scale, htot, signed_eq, signed_eq, Int.add_mul]
  have hsum : (Datum.number s m i).sum (Datum.number t n j) = some (.number (if total = 0 then s && t else total < 0) total.natAbs base) := by
    simp only [Datum.sum, ← hbase]
    rw [show (i - base).toNat = u by omega, show (j - base).toNat = v by omega, ← htot]
  rw [hsum]
  have hnat : total.natAbs * 2 ^ c = (X + Y).natAbs := by
    rw [hXY, Int.natAbs_mul, Int.natAbs_pow]; rfl
  have hmag : total.natAbs * 2 ^ (c + 1074) ≤ 2 ^ (E + 2148) := by
    rw [Nat.pow_add, ← Nat.mul_assoc, hnat, pow_split (E + 2148) (E + 1074) 1074 (by omega)]
    exact Nat.mul_le_mul_right _ h
  obtain ⟨neg, hneg⟩ : ∃ b : Bool, b = (if total = 0 then s && t else decide (total < 0)) := ⟨_, rfl⟩
  rw [← hneg]
  obtain ⟨r, U, h1, h2, h3, h4, h5⟩ := write_spec neg total.natAbs base E (c + 1074) hE (by omega) hmag
  refine ⟨r, by rw [← h1]; rfl, h2, h3, ?_⟩
  have hU : 2 ^ 53 * U ≤ total.natAbs * 2 ^ (c + 1074) := by
    rcases h5 with h5 | ⟨_, h5⟩
    · exact h5
    · omega
  have hsgn : sg neg ((total.natAbs * 2 ^ (c + 1074) : Nat) : Int) = (X + Y) * 2 ^ 1074 := by
    have e3 : sg neg (total.natAbs : Int) = total := by
      rw [hneg]
      by_cases hz : total = 0
      · rw [hz]; simp [sg]
      · rw [if_neg hz]
        by_cases hl : total < 0
        · simp [sg, hl]; omega
        · simp [sg, hl]; omega
    rw [Int.natCast_mul, sg_scale, e3, hXY, ipow, Int.pow_add, Int.mul_assoc]
  rw [hsgn, ← Int.sub_mul, Int.natAbs_mul, ← ipow 1074, Int.natAbs_natCast] at h4
  rw [pow_split (c + 1074) c 1074 rfl, ← Nat.mul_assoc, hnat] at hU
  have hA := Nat.two_pow_pos 1074
  generalize (2 : Nat) ^ 1074 = A at *
  have h6 : 2 ^ 53 * ((V r - (X + Y)).natAbs * A) ≤ (X + Y).natAbs * A := Nat.le_trans (Nat.mul_le_mul_left _ h4) hU
  rw [← Nat.mul_assoc] at h6
  exact Nat.le_of_mul_le_mul_right h6 hA

theorem finite_read {x : Nat} (h : Finite x) : ∃ s m p, double.read x = .number s m p ∧ -1074 ≤ p ∧ V x = sg s ((m * 2 ^ (p + 1074).toNat : Nat) : Int) := by
  obtain ⟨s, m, p, hr⟩ := h
  have hp := read_place hr
  refine ⟨s, m, p, hr, hp, ?_⟩
  rw [V_of hr (p + 1074).toNat (by omega)]
  rfl

theorem add_spec (x y E : Nat) (hx : Finite x) (hy : Finite y) (hE : E ≤ 1023) (h : (V x + V y).natAbs ≤ 2 ^ (E + 1074)) :
    ∃ r, double.add x y = some r ∧ Finite r ∧ (V r).natAbs ≤ 2 ^ (E + 1074) ∧ 2 ^ 53 * (V r - (V x + V y)).natAbs ≤ (V x + V y).natAbs := by
  obtain ⟨s, m, i, hr, hi, hvx⟩ := finite_read hx
  obtain ⟨t, n, j, hq, hj, hvy⟩ := finite_read hy
  exact sum_spec _ _ s t m n i j hr hq hi hj _ _ hvx hvy E hE h

theorem sub_spec (x y E : Nat) (hx : Finite x) (hy : Finite y) (hE : E ≤ 1023) (h : (V x - V y).natAbs ≤ 2 ^ (E + 1074)) :
    ∃ r, double.sub x y = some r ∧ Finite r ∧ (V r).natAbs ≤ 2 ^ (E + 1074) ∧ 2 ^ 53 * (V r - (V x - V y)).natAbs ≤ (V x - V y).natAbs := by
  obtain ⟨s, m, i, hr, hi, hvx⟩ := finite_read hx
  obtain ⟨t, n, j, hq, hj, hvy⟩ := finite_read hy
  have hneg : -V y = sg (!t) ((n * 2 ^ (j + 1074).toNat : Nat) : Int) := by rw [hvy]; cases t <;> simp [sg]
  rw [Int.sub_eq_add_neg] at *
  have := sum_spec (double.read x) (double.read y).opposite s (!t) m n i j hr (by rw [hq]; rfl) hi hj _ _ hvx hneg E hE h
  exact this

theorem mul_spec (x y E : Nat) (hx : Finite x) (hy : Finite y) (hE : E ≤ 1023) (h : (V x * V y).natAbs ≤ 2 ^ (E + 2148)) :
    ∃ r U, double.mul x y = some r ∧ Finite r ∧ (V r).natAbs ≤ 2 ^ (E + 1074) ∧ (V r * 2 ^ 1074 - V x * V y).natAbs ≤ U ∧ (2 ^ 53 * U ≤ (V x * V y).natAbs ∨ U = 2 ^ 1073) := by
  obtain ⟨s, m, i, hr, hi, hvx⟩ := finite_read hx
  obtain ⟨t, n, j, hq, hj, hvy⟩ := finite_read hy
  obtain ⟨u, hu⟩ : ∃ u : Nat, i + 1074 = u := ⟨(i + 1074).toNat, by omega⟩
  obtain ⟨v, hv⟩ : ∃ v : Nat, j + 1074 = v := ⟨(j + 1074).toNat, by omega⟩
  rw [show (i + 1074).toNat = u by omega] at hvx
  rw [show (j + 1074).toNat = v by omega] at hvy
  have hmul : V x * V y = sg (s ^^ t) ((m * n * 2 ^ (u + v) : Nat) : Int) := by
    rw [hvx, hvy, sg_mul, ← Int.natCast_mul, Nat.pow_add, Nat.mul_mul_mul_comm]
  have hprod : double.mul x y = some (double.write (.number (s ^^ t) (m * n) (i + j))) := by
    unfold Format.mul
    rw [hr, hq]
    rfl
  have hmag : m * n * 2 ^ (u + v) ≤ 2 ^ (E + 2148) := by rw [hmul, sg_abs] at h; exact h
  obtain ⟨r, U, h1, h2, h3, h4, h5⟩ := write_spec (s ^^ t) (m * n) (i + j) E (u + v) hE (by omega) hmag
  rw [hmul]
  refine ⟨r, U, by rw [hprod, h1], h2, h3, h4, ?_⟩
  rw [sg_abs]
  rcases h5 with h5 | ⟨h5, _⟩
  · exact .inl h5
  · exact .inr h5

end Go.Proofs.Ygctak.Fl
