/-
  The division by the number of points; every word is below 2^64.
-/
import Derived.Test.YgctakHp2
open Ieee
namespace Go.Proofs.Ygctak
set_option linter.unusedVariables false
set_option linter.unusedSimpArgs false
namespace Ft
open Fl Sh

set_option exponentiation.threshold 3000 in
theorem quo_fine (x k : Nat) (hk : k ≤ 10) (hx : Finite x) (hb : (V x).natAbs ≤ 2 ^ 100 * UU) : Finite (fquo x (dbl ((2 ^ k : Nat) : Int))) ∧ (((2 ^ k : Nat) : Int) * V (fquo x (dbl ((2 ^ k : Nat) : Int))) - V x).natAbs ≤ 2 ^ k := by
  obtain ⟨s, m, i, hr⟩ := hx
  have hp := read_place hr
  have hr2 := read_pow ⟨k, by omega⟩
  simp only at hr2
  have hm : m < 2 ^ 53 := by
    unfold Ieee.Format.read at hr
    simp only [least] at hr
    split at hr
    · rename_i h1
      cases hr
      rw [bin] at h1
      omega
    · split at hr
      · injection hr with h1 h2 h3
        rw [bin] at h2
        have := Nat.mod_lt (x % Ieee.double.signWeight) (show 0 < 2 ^ 52 by decide)
        omega
      · split at hr <;> cases hr
  have hlog : m.log2 ≤ 52 := by
    by_cases h0 : m = 0
    · subst h0; decide
    · have := (Nat.log2_lt h0).2 hm
      omega
  obtain ⟨mo, hmo⟩ : ∃ mo, mo = 106 - m.log2 := ⟨_, rfl⟩
  have hmo2 : 54 ≤ mo := by omega
  -- what is written
  have hq : fquo x (dbl ((2 ^ k : Nat) : Int)) = Ieee.double.nearest s (2 * (m * 2 ^ (mo - 52))) (i - ((k : Int) - 52) - mo - 1) := by
    unfold fquo
    have : floatBits .quo .f64 x (dbl ((2 ^ k : Nat) : Int)) = some (Ieee.double.nearest s (2 * (m * 2 ^ (mo - 52))) (i - ((k : Int) - 52) - mo - 1)) := by
      show Ieee.double.div x (dbl ((2 ^ k : Nat) : Int)) = _
      unfold Ieee.Format.div
      rw [hr, hr2]
      simp only [Ieee.Datum.quotient]
      rw [if_neg (by decide)]
      have hl2 : (2 ^ 52 : Nat).log2 = 52 := by decide
      have hmm : Ieee.double.fractionBits + 2 + (2 ^ 52 : Nat).log2 - m.log2 = mo := by rw [frac, hl2, hmo]
      rw [hmm, Nat.shiftLeft_eq]
      have e1 : m * 2 ^ mo = 2 ^ 52 * (m * 2 ^ (mo - 52)) := by
        rw [show 2 ^ mo = 2 ^ 52 * 2 ^ (mo - 52) by rw [← Nat.pow_add, show 52 + (mo - 52) = mo by omega]]; grind
      rw [e1, Nat.mul_div_cancel_left _ (by decide), Nat.mul_mod_right]
      have hsx : (s ^^ false) = s := by cases s <;> rfl
      rw [hsx]
      rfl
    rw [this]; rfl
  obtain ⟨S, hS⟩ : ∃ S : Nat, i - ((k : Int) - 52) - mo - 1 + 2148 = S := ⟨(i - ((k : Int) - 52) - mo - 1 + 2148).toNat, by omega⟩
  obtain ⟨u, hu⟩ : ∃ u : Nat, i + 1074 = u := ⟨(i + 1074).toNat, by omega⟩
  have hV := V_of hr u hu
  have hVn : (V x).natAbs = m * 2 ^ u := by rw [hV]; generalize m * 2 ^ u = n; cases s <;> simp
  -- the exact quotient
  have hexact : 2 * (m * 2 ^ (mo - 52)) * 2 ^ S * 2 ^ k = m * 2 ^ u * UU := by
    rw [UU_eq]
    have e1 : 2 * (m * 2 ^ (mo - 52)) * 2 ^ S * 2 ^ k = m * (2 * 2 ^ (mo - 52) * 2 ^ S * 2 ^ k) := by grind
    have e2 : 2 * 2 ^ (mo - 52) * 2 ^ S * 2 ^ k = 2 ^ (u + 1074) := by
      rw [show 2 * 2 ^ (mo - 52) = 2 ^ (mo - 52 + 1) by rw [Nat.pow_succ, Nat.mul_comm], ← Nat.pow_add, ← Nat.pow_add]
      congr 1; omega
    rw [e1, e2, Nat.pow_add, Nat.mul_assoc]
  have hX : 2 * (m * 2 ^ (mo - 52)) * 2 ^ S ≤ 2 ^ (100 + 2148) := by
    rw [pow_UU2]
    have h1 : 2 * (m * 2 ^ (mo - 52)) * 2 ^ S ≤ 2 * (m * 2 ^ (mo - 52)) * 2 ^ S * 2 ^ k := Nat.le_mul_of_pos_right _ (Nat.two_pow_pos k)
    rw [hexact] at h1
    refine Nat.le_trans h1 ?_
    rw [← hVn, ← Nat.mul_assoc]
    exact Nat.mul_le_mul_right _ hb
  have hmag : 2 * (m * 2 ^ (mo - 52)) = m * 2 ^ (mo - 51) := by
    rw [show mo - 51 = mo - 52 + 1 by omega, Nat.pow_succ]
    grind
  obtain ⟨R, f, v, n1, n2⟩ := nearest_fine s (2 * (m * 2 ^ (mo - 52))) m (mo - 51) _ 100 S hmag hm (by omega) hS hX
  rw [← hq] at f v
  refine ⟨f, ?_⟩
  have hA : (2 ^ 1074 : Nat) = UU := UU_eq.symm
  have hH : 2 * 2 ^ 1073 = UU := by rw [UU_eq, Nat.mul_comm]
  rw [hA] at n1 n2
  have d1 : 2 * (2 ^ k * R * UU) ≤ 2 * ((V x).natAbs * UU) + 2 ^ k * UU ∧ 2 * ((V x).natAbs * UU) ≤ 2 * (2 ^ k * R * UU) + 2 ^ k * UU := by
    have a1 := Nat.mul_le_mul_right (2 ^ k) n1
    have a2 := Nat.mul_le_mul_right (2 ^ k) n2
    rw [Nat.add_mul, hexact, ← hVn] at a1
    rw [Nat.add_mul, hexact, ← hVn] at a2
    have e : R * UU * 2 ^ k = 2 ^ k * R * UU := by grind
    rw [e] at a1 a2
    have e2 : 2 ^ k * UU = 2 * (2 ^ 1073 * 2 ^ k) := by rw [← hH, Nat.mul_comm, Nat.mul_assoc]
    rw [e2]
    generalize 2 ^ 1073 * 2 ^ k = t at *
    generalize 2 ^ k * R * UU = t1 at *
    generalize (V x).natAbs * UU = t2 at *
    omega
  have habs : (((2 ^ k : Nat) : Int) * V (fquo x (dbl ((2 ^ k : Nat) : Int))) - V x).natAbs = (((2 ^ k * R : Nat) : Int) - ((V x).natAbs : Int)).natAbs := by
    rw [v, hVn, hV]
    have e : ((2 ^ k * R : Nat) : Int) = ((2 ^ k : Nat) : Int) * R := Int.natCast_mul _ _
    cases s
    · simp only [Bool.false_eq_true, if_false]; rw [e]
    · simp only [if_true]
      have : ((2 ^ k : Nat) : Int) * -(R : Int) - -((m * 2 ^ u : Nat) : Int) = -(((2 ^ k * R : Nat) : Int) - ((m * 2 ^ u : Nat) : Int)) := by rw [e]; grind
      rw [this, Int.natAbs_neg]
  rw [habs]
  have hfin : (((2 ^ k * R : Nat) : Int) - ((V x).natAbs : Int)).natAbs * UU ≤ 2 ^ k * UU := by
    have s1 : (((2 ^ k * R : Nat) : Int) - ((V x).natAbs : Int)).natAbs * UU = (((2 ^ k * R * UU : Nat) : Int) - (((V x).natAbs * UU : Nat) : Int)).natAbs := by
      rw [Int.natCast_mul (2 ^ k * R) UU, Int.natCast_mul (V x).natAbs UU, ← Int.sub_mul, Int.natAbs_mul]; rfl
    rw [s1]
    generalize 2 ^ k * R * UU = A at *
    generalize (V x).natAbs * UU = B at *
    generalize 2 ^ k * UU = D at *
    omega
  exact Nat.le_of_mul_le_mul_right hfin UU_pos
end Ft

namespace Hp
open Fl Sh
def Lt64 (z : Nat × Nat) : Prop := z.1 < 2 ^ 64 ∧ z.2 < 2 ^ 64
theorem z64 : Lt64 (0, 0) := ⟨by decide, by decide⟩
theorem sum_lt (op : BinOp) (h : op = .add ∨ op = .sub) (x y : Nat × Nat) : Lt64 ((cSumBits op .f64 x.1 x.2 y.1 y.2).getD (0, 0)) := by
  have hb : ∀ a b r, floatBits op .f64 a b = some r → r < 2 ^ 64 := fun a b r hr => by
    have := bits_lt a b
    rcases h with rfl | rfl
    · have h1 := this.1; rw [hr] at h1; exact h1
    · have h1 := this.2.1; rw [hr] at h1; exact h1
  unfold cSumBits
  cases h1 : floatBits op .f64 x.1 y.1 with
  | none => exact z64
  | some a =>
    cases h2 : floatBits op .f64 x.2 y.2 with
    | none => exact z64
    | some b => exact ⟨hb _ _ _ h1, hb _ _ _ h2⟩
theorem cadd_lt (x y : Nat × Nat) : Lt64 (cadd x y) := sum_lt .add (.inl rfl) x y
theorem csub_lt (x y : Nat × Nat) : Lt64 (csub x y) := sum_lt .sub (.inr rfl) x y
theorem cmul_lt (x y : Nat × Nat) : Lt64 (cmul x y) := by
  unfold cmul cMulBits
  cases h1 : floatBits .mul .f64 x.1 y.1 with
  | none => exact z64
  | some a =>
    cases h2 : floatBits .mul .f64 x.2 y.2 with
    | none => exact z64
    | some b =>
      simp only [Option.bind_some]
      cases h3 : floatBits .sub .f64 a b with
      | none => exact z64
      | some r =>
        simp only [Option.bind_some]
        cases h4 : floatBits .mul .f64 x.1 y.2 with
        | none => exact z64
        | some c =>
          simp only [Option.bind_some]
          cases h5 : floatBits .mul .f64 x.2 y.1 with
          | none => exact z64
          | some d =>
            simp only [Option.bind_some]
            cases h6 : floatBits .add .f64 c d with
            | none => exact z64
            | some e =>
              have g1 := (bits_lt a b).2.1
              have g2 := (bits_lt c d).1
              rw [h3] at g1
              rw [h6] at g2
              exact ⟨g1, g2⟩
theorem fquo_lt (x y : Nat) : fquo x y < 2 ^ 64 := (bits_lt x y).2.2.2
theorem stg_lt (x : List P) (T : List (Nat × Nat)) (half step : Nat) (own : Int) (i : Nat) (hi : i < x.length) : Lt64 ((stg x T half step own).getD i p0).1 := by
  unfold stg
  rw [List.getD_eq_getElem?_getD, List.getElem?_map, List.getElem?_range hi]
  simp only [Option.map_some, Option.getD_some, bf]
  split
  · exact cadd_lt _ _
  · exact csub_lt _ _
theorem tms_lt (x y : List P) (m i : Nat) (hi : i < x.length) : Lt64 ((tms x y m).getD i p0).1 := by
  unfold tms
  rw [List.getD_eq_getElem?_getD, List.getElem?_map, List.getElem?_range hi]
  exact cmul_lt _ _
theorem dvs_lt (k : Nat) (x : List P) (i : Nat) (hi : i < x.length) : Lt64 ((dvs k x).getD i p0).1 := by
  unfold dvs
  rw [List.getD_eq_getElem?_getD, List.getElem?_map, List.getElem?_range hi]
  exact ⟨fquo_lt _ _, fquo_lt _ _⟩
end Hp
end Go.Proofs.Ygctak
