/-
  One stage keeps the invariant.
-/
import Derived.Test.YgctakHp4
namespace Go.Proofs.Ygctak
set_option linter.unusedVariables false
set_option linter.unusedSimpArgs false
namespace Hp
open Ac Fl Sh Ex
open Ft (abs_scale UU UU_pos UU_eq UU_int SC SC_UU Root butterfly Bfly zf)

/-- A root: its word, its parts times 2^62. -/
structure Rt (z : Nat × Nat) (r : Q) : Prop where
  root : Root z (SC * r.1, SC * r.2)
  pl : pla z = true → r.1.natAbs + r.2.natAbs ≤ 2 ^ 62
  sp : 16384 * (r.1.natAbs + r.2.natAbs) ≤ 23171 * 2 ^ 62
/-- A float of that size. -/
structure Bd (M : Nat) (z : Nat × Nat) : Prop where
  f1 : Finite z.1
  f2 : Finite z.2
  b1 : (V z.1).natAbs ≤ M * UU
  b2 : (V z.2).natAbs ≤ M * UU

/-- What a bound passes on. -/
def fN (pl : Bool) (ev : Nat) : Nat := if pl then ev else (ev * 23171 + 16383) / 2 ^ 14
theorem joi_nat (u v : Int) (pl : Bool) (m : Nat) (u0 : 0 ≤ u) (v0 : 0 ≤ v) : joi u v pl ((m : Int) * 2 ^ 32 + 1) = ((fN pl v.toNat + u.toNat + m * 2 ^ 32 + 1 : Nat) : Int) := by
  unfold joi fN spr
  cases pl
  · simp only [Bool.false_eq_true, if_false]; omega
  · simp only [if_true]; omega
theorem fN_ok {z : Nat × Nat} {r : Q} (h : Rt z r) (ev : Nat) : ev * (r.1.natAbs + r.2.natAbs) ≤ fN (pla z) ev * 2 ^ 62 := by
  unfold fN
  cases hp : pla z
  · simp only [Bool.false_eq_true, if_false]
    have h1 := Nat.mul_le_mul_left ev h.sp
    have h2 : ev * 23171 ≤ (ev * 23171 + 16383) / 2 ^ 14 * 16384 := by omega
    have h3 := Nat.mul_le_mul_right (2 ^ 62) h2
    have e1 : ev * (16384 * (r.1.natAbs + r.2.natAbs)) = 16384 * (ev * (r.1.natAbs + r.2.natAbs)) := by grind
    have e2 : ev * (23171 * 2 ^ 62) = ev * 23171 * 2 ^ 62 := by grind
    rw [e1, e2] at h1
    have e3 : (ev * 23171 + 16383) / 2 ^ 14 * 16384 * 2 ^ 62 = 16384 * ((ev * 23171 + 16383) / 2 ^ 14 * 2 ^ 62) := by grind
    rw [e3] at h3
    exact Nat.le_of_mul_le_mul_left (Nat.le_trans h1 h3) (by decide)
  · simp only [if_true]
    exact Nat.mul_le_mul_left _ (h.pl hp)

theorem pair_inv {S M m : Nat} {u v : P} {qu qv r : Q} {z : Nat × Nat} (hu : Inv S u qu) (hv : Inv S v qv) (bu : Bd M u.1) (bv : Bd M v.1) (hr : Rt z r) (hM0 : 1 ≤ M) (hM1 : M ≤ 2 ^ 60) (hM : M ≤ 4 * m) :
    (Finite (cadd u.1 (cmul v.1 z)).1 ∧ Finite (cadd u.1 (cmul v.1 z)).2 ∧ Inv (S * 2 ^ 62) (cadd u.1 (cmul v.1 z), joi u.2 v.2 (pla z) ((m : Int) * 2 ^ 32 + 1)) (addq qu (mulq qv r))) ∧
    (Finite (csub u.1 (cmul v.1 z)).1 ∧ Finite (csub u.1 (cmul v.1 z)).2 ∧ Inv (S * 2 ^ 62) (csub u.1 (cmul v.1 z), joi u.2 v.2 (pla z) ((m : Int) * 2 ^ 32 + 1)) (subq qu (mulq qv r))) := by
  have hrr := hr.root
  obtain ⟨ba, bs⟩ := butterfly hM0 hM1 bu.f1 bu.f2 bv.f1 bv.f2 hrr.f1 hrr.f2 bu.b1 bu.b2 bv.b1 bv.b2 hrr.b1 hrr.b2 hrr.bs
  have v1 : V z.1 = SC * r.1 := hrr.v1
  have v2 : V z.2 = SC * r.2 := hrr.v2
  have hj := joi_nat u.2 v.2 (pla z) m hu.e0 hv.e0
  have hfn := fN_ok hr v.2.toNat
  have hfn2 : v.2.toNat * (r.2.natAbs + (-r.1).natAbs) ≤ fN (pla z) v.2.toNat * 2 ^ 62 := by rw [Int.natAbs_neg, Nat.add_comm]; exact hfn
  have hcast : ((S * 2 ^ 62 : Nat) : Int) = (S : Int) * 2 ^ 62 := by rw [Int.natCast_mul]; rfl
  have core : ∀ (o : Nat × Nat) (s : Int) (E : Q), (s = 1 ∨ s = -1) → Bfly M u.1 v.1 z o s → E.1 = qu.1 * 2 ^ 62 + s * (qv.1 * r.1 - qv.2 * r.2) → E.2 = qu.2 * 2 ^ 62 + s * (qv.1 * r.2 - qv.2 * -r.1) →
      Finite o.1 ∧ Finite o.2 ∧ Inv (S * 2 ^ 62) (o, joi u.2 v.2 (pla z) ((m : Int) * 2 ^ 32 + 1)) E := by
    intro o s E hs hb hE1 hE2
    refine ⟨hb.f1, hb.f2, ?_⟩
    have h1 := hb.e1
    have h2 := hb.e2
    rw [v1, v2] at h1 h2
    have e2 : V v.1.1 * (SC * r.2) + V v.1.2 * (SC * r.1) = V v.1.1 * (SC * r.2) - V v.1.2 * (SC * -r.1) := by grind
    rw [e2] at h2
    have g1 := stage_part SC_UU DD_UU SC_pos hs h1 hu.re hv.re hv.im hM hfn
    have g2 := stage_part SC_UU DD_UU SC_pos hs h2 hu.im hv.re hv.im hM hfn2
    refine ⟨?_, ?_, ?_⟩
    · show 0 ≤ joi u.2 v.2 (pla z) ((m : Int) * 2 ^ 32 + 1)
      rw [hj]; exact Int.natCast_nonneg _
    · show (V o.1 * ((S * 2 ^ 62 : Nat) : Int) - E.1 * (UU : Int)).natAbs ≤ (joi u.2 v.2 (pla z) ((m : Int) * 2 ^ 32 + 1)).toNat * DD * (S * 2 ^ 62)
      rw [hj, hcast, hE1, Int.toNat_natCast]
      exact g1
    · show (V o.2 * ((S * 2 ^ 62 : Nat) : Int) - E.2 * (UU : Int)).natAbs ≤ (joi u.2 v.2 (pla z) ((m : Int) * 2 ^ 32 + 1)).toNat * DD * (S * 2 ^ 62)
      rw [hj, hcast, hE2, Int.toNat_natCast]
      exact g2
  constructor
  · exact core _ 1 _ (.inl rfl) ba (by simp only [addq, mulq]; grind) (by simp only [addq, mulq]; grind)
  · exact core _ (-1) _ (.inr rfl) bs (by simp only [subq, mulq]; grind) (by simp only [subq, mulq]; grind)

theorem stage_inv {k t S M m step : Nat} {X : List P} {Y : List Q} {T : List (Nat × Nat)} {r : Nat → Q} (ht : t < k) (hX : X.length = 2 ^ k) (hY : Y.length = 2 ^ k) (hI : ∀ i, i < 2 ^ k → Inv S (X.getD i p0) (Y.getD i q0))
    (hB : ∀ i, i < 2 ^ k → Bd M (X.getD i p0).1) (hr : ∀ j, j < 2 ^ t → Rt (T.getD (j * step) (0, 0)) (r j)) (hM0 : 1 ≤ M) (hM1 : M ≤ 2 ^ 60) (hM : M ≤ 4 * m) (i : Nat) (hi : i < 2 ^ k) :
    Finite ((stg X T (2 ^ t) step ((m : Int) * 2 ^ 32 + 1)).getD i p0).1.1 ∧ Finite ((stg X T (2 ^ t) step ((m : Int) * 2 ^ 32 + 1)).getD i p0).1.2 ∧
    Inv (S * 2 ^ 62) ((stg X T (2 ^ t) step ((m : Int) * 2 ^ 32 + 1)).getD i p0) ((esL Y r (2 ^ t)).getD i q0) := by
  have hp : 0 < 2 ^ t := Nat.two_pow_pos t
  rw [esL_get _ _ _ _ (by rw [hY]; exact hi)]
  have hs : (stg X T (2 ^ t) step ((m : Int) * 2 ^ 32 + 1)).getD i p0 = bf X T (2 ^ t) step ((m : Int) * 2 ^ 32 + 1) i := by
    unfold stg
    rw [List.getD_eq_getElem?_getD, List.getElem?_map, List.getElem?_range (by rw [hX]; exact hi)]
    rfl
  rw [hs]
  have hj := hr (i % 2 ^ t) (Nat.mod_lt _ hp)
  unfold bf est
  simp only
  by_cases h : i % (2 * 2 ^ t) < 2 ^ t
  · rw [if_pos h, if_pos h]
    have hq := Fr.in_block k t i ht h hi
    exact (pair_inv (hI i hi) (hI _ hq) (hB i hi) (hB _ hq) hj hM0 hM1 hM).1
  · rw [if_neg h, if_neg h]
    have hq : i - 2 ^ t < 2 ^ k := Nat.lt_of_le_of_lt (Nat.sub_le _ _) hi
    exact (pair_inv (hI _ hq) (hI i hi) (hB _ hq) (hB i hi) hj hM0 hM1 hM).2
end Hp
end Go.Proofs.Ygctak
