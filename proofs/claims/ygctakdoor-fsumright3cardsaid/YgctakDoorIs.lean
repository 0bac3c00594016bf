/-
  A finite double other than a zero is known by its value.
-/
import Derived.Test.YgctakDoorSum
set_option linter.unusedVariables false
set_option linter.unusedSimpArgs false
namespace Go.Proofs.YgctakDoor.Rn
open Ieee Fl

theorem V_read {x : Nat} (h : Finite x) (hx : x < 2 ^ 64) : ∃ (neg : Bool) (R : Nat), R < 2047 * 2 ^ 52 ∧ x = double.word neg R ∧ V x = if neg then -(valR R : Int) else (valR R : Int) := by
  have hR : x % 2 ^ 63 < 2047 * 2 ^ 52 := by
    obtain ⟨s, m, p, hr⟩ := h
    rcases Nat.lt_or_ge (x % 2 ^ 63) (2047 * 2 ^ 52) with h1 | h1
    · exact h1
    · exfalso
      unfold Format.read at hr
      simp only [least] at hr
      split at hr
      · rename_i h2
        rw [sgnW, bin] at h2
        omega
      · split at hr
        · rename_i h2
          rw [sgnW, infR] at h2
          omega
        · split at hr <;> cases hr
  have hw : x = double.word (decide (2 ^ 63 ≤ x)) (x % 2 ^ 63) := by
    simp only [Format.word, sgnW]
    by_cases h1 : 2 ^ 63 ≤ x
    · rw [if_pos (by simpa using h1)]; omega
    · rw [if_neg (by simpa using h1)]; omega
  refine ⟨_, _, hR, hw, ?_⟩
  have := (V_word (decide (2 ^ 63 ≤ x)) _ hR).2
  rw [← hw] at this
  exact this

theorem valR_lt {R S : Nat} (h : R < S) : valR R < valR S := by
  unfold valR
  by_cases h2 : S < 2 ^ 52
  · rw [if_pos (by omega), if_pos h2]; exact h
  · rw [if_neg h2]
    have hS : 2 ^ 52 ≤ (2 ^ 52 + S % 2 ^ 52) * 2 ^ (S / 2 ^ 52 - 1) := by
      have := Nat.mul_le_mul (show 2 ^ 52 ≤ 2 ^ 52 + S % 2 ^ 52 by omega) (p2 (S / 2 ^ 52 - 1))
      omega
    by_cases h1 : R < 2 ^ 52
    · rw [if_pos h1]; omega
    · rw [if_neg h1]
      have hdiv : R / 2 ^ 52 ≤ S / 2 ^ 52 := Nat.div_le_div_right (Nat.le_of_lt h)
      by_cases he : R / 2 ^ 52 = S / 2 ^ 52
      · rw [he]
        exact Nat.mul_lt_mul_of_pos_right (by omega) (p2 _)
      · obtain ⟨d, hd⟩ : ∃ d, S / 2 ^ 52 - 1 = R / 2 ^ 52 - 1 + 1 + d := ⟨S / 2 ^ 52 - 1 - (R / 2 ^ 52 - 1) - 1, by omega⟩
        have h3 : (2 ^ 52 + R % 2 ^ 52) * 2 ^ (R / 2 ^ 52 - 1) < 2 ^ 53 * 2 ^ (R / 2 ^ 52 - 1) := Nat.mul_lt_mul_of_pos_right (by omega) (p2 _)
        have h4 : 2 ^ 52 * 2 ^ (R / 2 ^ 52 - 1 + 1) ≤ (2 ^ 52 + S % 2 ^ 52) * 2 ^ (S / 2 ^ 52 - 1) := by
          apply Nat.mul_le_mul (by omega)
          rw [hd]
          exact Nat.pow_le_pow_right (by omega) (by omega)
        have h5 : 2 ^ (R / 2 ^ 52 - 1 + 1) = 2 ^ (R / 2 ^ 52 - 1) * 2 := Nat.pow_succ _ _
        rw [h5] at h4
        generalize 2 ^ (R / 2 ^ 52 - 1) = A at *
        omega

theorem valR_inj {R S : Nat} (h : valR R = valR S) : R = S := by
  rcases Nat.lt_trichotomy R S with h1 | h1 | h1
  · have := valR_lt h1; omega
  · exact h1
  · have := valR_lt h1; omega

theorem V_inj {x y : Nat} (hx : Finite x) (hx2 : x < 2 ^ 64) (hy : Finite y) (hy2 : y < 2 ^ 64) (h : V x = V y) (h0 : V x ≠ 0) : x = y := by
  obtain ⟨s, R, hR, ex, vx⟩ := V_read hx hx2
  obtain ⟨t, S, hS, ey, vy⟩ := V_read hy hy2
  rw [vx, vy] at h
  rw [vx] at h0
  have : s = t ∧ valR R = valR S := by
    cases s <;> cases t <;> simp at h h0 ⊢ <;> omega
  rw [ex, ey, this.1, valR_inj this.2]

/-- r is the word of the exact sum S, rounded; of a zero sum, +0. -/
structure Is (r : Nat) (S : Int) : Prop where
  fin : Finite r
  lt : r < 2 ^ 64
  val : V r = RN S
  zero : S = 0 → r = 0

theorem Is.unique {r q : Nat} {S : Int} (h : Is r S) (h' : Is q S) : r = q := by
  by_cases h0 : S = 0
  · rw [h.zero h0, h'.zero h0]
  · exact V_inj h.fin h.lt h'.fin h'.lt (by rw [h.val, h'.val]) (by rw [h.val]; exact fun h1 => h0 (RN_eq_zero h1))

/-- Finite, and at most 2^E in magnitude. -/
structure Dbl (E : Nat) (x : Nat) : Prop where
  fin : Finite x
  lt : x < 2 ^ 64
  bd : (V x).natAbs ≤ 2 ^ (E + 1074)

theorem Dbl.mono {E G x : Nat} (h : Dbl E x) (hg : E ≤ G) : Dbl G x := ⟨h.fin, h.lt, Nat.le_trans h.bd (pow_mono _ _ (by omega))⟩
theorem Dbl.F {E x : Nat} (h : Dbl E x) : F (V x) := V_F h.fin

theorem F_pow (e : Nat) : Rn.F ((2 ^ e : Nat) : Int) := ⟨1, e, by rw [Int.one_mul, ipow], by decide⟩

theorem RN_bd {z : Int} {e : Nat} (h : z.natAbs ≤ 2 ^ e) : (RN z).natAbs ≤ 2 ^ e := by
  have := RN_le (z := z) (F_pow e) (by rw [Int.natAbs_natCast]; exact h)
  rwa [Int.natAbs_natCast] at this

theorem add_bd {x y : Int} {E : Nat} (hx : x.natAbs ≤ 2 ^ (E + 1074)) (hy : y.natAbs ≤ 2 ^ (E + 1074)) : (x + y).natAbs ≤ 2 ^ (E + 1 + 1074) ∧ (x - y).natAbs ≤ 2 ^ (E + 1 + 1074) := by
  have h3 : 2 ^ (E + 1 + 1074) = 2 ^ (E + 1074) * 2 ^ 1 := pow_split (E + 1 + 1074) (E + 1074) 1 (by omega)
  rw [h3]
  generalize 2 ^ (E + 1074) = A at *
  omega

theorem Dbl.add {E x y : Nat} (hx : Dbl E x) (hy : Dbl E y) (h : E + 1 ≤ 1023) : ∃ r, double.add x y = some r ∧ Dbl (E + 1) r ∧ V r = RN (V x + V y) := by
  have hb := (add_bd hx.bd hy.bd).1
  obtain ⟨r, h1, h2, h3, h4⟩ := add_rn x y hx.fin hy.fin (Nat.le_trans hb (pow_mono (E + 1 + 1074) 2097 (by omega)))
  exact ⟨r, h1, ⟨h2, h4, by rw [h3]; exact RN_bd hb⟩, h3⟩
theorem Dbl.sub {E x y : Nat} (hx : Dbl E x) (hy : Dbl E y) (h : E + 1 ≤ 1023) : ∃ r, double.sub x y = some r ∧ Dbl (E + 1) r ∧ V r = RN (V x - V y) := by
  have hb := (add_bd hx.bd hy.bd).2
  obtain ⟨r, h1, h2, h3, h4⟩ := sub_rn x y hx.fin hy.fin (Nat.le_trans hb (pow_mono (E + 1 + 1074) 2097 (by omega)))
  exact ⟨r, h1, ⟨h2, h4, by rw [h3]; exact RN_bd hb⟩, h3⟩
theorem Dbl.twice {E x : Nat} (hx : Dbl E x) (h : E + 1 ≤ 1023) : ∃ r, double.mul 4611686018427387904 x = some r ∧ Dbl (E + 1) r ∧ V r = 2 * V x := by
  obtain ⟨r, h1, h2, h3, h4⟩ := mul2_rn x hx.fin (Nat.le_trans hx.bd (pow_mono (E + 1074) 2096 (by omega)))
  refine ⟨r, h1, ⟨h2, h4, ?_⟩, h3⟩
  have hb := (add_bd hx.bd hx.bd).1
  rw [h3, show 2 * V x = V x + V x by omega]
  exact hb

/-- The order of finite doubles. -/
theorem order_V {x y : Nat} (hx : Finite x) (hy : Finite y) : double.order x y = some (compare (V x) (V y)) := by
  obtain ⟨s, m, i, hr, hi, hvx⟩ := finite_read hx
  obtain ⟨t, n, j, hq, hj, hvy⟩ := finite_read hy
  obtain ⟨base, hbase⟩ : ∃ b : Int, b = min i j := ⟨_, rfl⟩
  obtain ⟨c, hc⟩ : ∃ c : Nat, base + 1074 = c := ⟨(base + 1074).toNat, by omega⟩
  obtain ⟨u, hu⟩ : ∃ u : Nat, i - base = u := ⟨(i - base).toNat, by omega⟩
  obtain ⟨v, hv⟩ : ∃ v : Nat, j - base = v := ⟨(j - base).toNat, by omega⟩
  have e1 : V x = signed s m u * 2 ^ c := by
    rw [hvx, show (i + 1074).toNat = u + c by omega, Nat.pow_add, ← Nat.mul_assoc, Int.natCast_mul _ (2 ^ c), Fl.ipow, sg_scale, signed_eq]
  have e2 : V y = signed t n v * 2 ^ c := by
    rw [hvy, show (j + 1074).toNat = v + c by omega, Nat.pow_add, ← Nat.mul_assoc, Int.natCast_mul _ (2 ^ c), Fl.ipow, sg_scale, signed_eq]
  have ho : double.order x y = some (compare (signed s m u) (signed t n v)) := by
    unfold Format.order
    rw [hr, hq]
    simp only [Datum.order, ← hbase]
    rw [show (i - base).toNat = u by omega, show (j - base).toNat = v by omega]
  rw [ho, e1, e2]
  congr 1
  have hp := ip2 c
  generalize signed s m u = a
  generalize signed t n v = b
  show compareOfLessAndEq a b = compareOfLessAndEq (a * 2 ^ c) (b * 2 ^ c)
  unfold compareOfLessAndEq
  rcases Int.lt_trichotomy a b with h | h | h
  · have h1 : a * 2 ^ c < b * 2 ^ c := Int.mul_lt_mul_of_pos_right h hp
    rw [if_pos h, if_pos h1]
  · subst h; rw [if_neg (by omega), if_pos rfl, if_neg (by omega), if_pos rfl]
  · have h1 : b * 2 ^ c < a * 2 ^ c := Int.mul_lt_mul_of_pos_right h hp
    rw [if_neg (by omega), if_neg (by omega), if_neg (by omega), if_neg (by omega)]

end Go.Proofs.YgctakDoor.Rn
