/-
  The invariant: a point lies within its bound of the exact one; one stage keeps it.
-/
import Derived.Test.YgctakHp3
namespace Go.Proofs.Ygctak
set_option linter.unusedVariables false
set_option linter.unusedSimpArgs false
namespace Hp
open Ac Fl Sh Ex
open Ft (abs_scale UU UU_pos UU_eq UU_int SC SC_UU Root butterfly Bfly zf)

/-- 2^-80, in units of 2^-1074. -/
@[irreducible] def DD : Nat := 2 ^ 994
theorem DD_eq : DD = 2 ^ 994 := by unfold DD; rfl
theorem DD_UU : UU = 2 ^ 80 * DD := by
  rw [UU_eq]; unfold DD
  exact pow_split 1074 80 994 (by omega)
theorem DD_pos : 0 < DD := by unfold DD; exact Nat.two_pow_pos 994
theorem SC_pos : 0 < SC := by
  have h := UU_pos
  rw [SC_UU] at h
  rcases Nat.eq_zero_or_pos SC with h0 | h0
  · rw [h0] at h; simp at h
  · exact h0

/-- One part within its bound; S is the scale. -/
def Ip (S : Nat) (v : Nat) (q : Int) (e : Nat) : Prop := (V v * (S : Int) - q * (UU : Int)).natAbs ≤ e * DD * S
structure Inv (S : Nat) (p : P) (q : Q) : Prop where
  e0 : 0 ≤ p.2
  re : Ip S p.1.1 q.1 p.2.toNat
  im : Ip S p.1.2 q.2 p.2.toNat

theorem pow_int (n : Nat) : (2 : Int) ^ n = ((2 ^ n : Nat) : Int) := (Fl.ipow n).symm

theorem part_of {v e sc : Nat} {q : Int} (hs : sc ≤ 1900) (hf : Finite v) (hl : v < 2 ^ 64) (hb : (V v).natAbs ≤ 2 ^ 100 * UU) (he : e ≤ 2 ^ 150) (h : Ip (2 ^ sc) v q e) : Part sc v q e := by
  have hS : 2 ^ sc ≤ 2 ^ 1900 := pow_mono sc 1900 hs
  unfold Ip at h
  have hDU := DD_UU
  have hU2 : (2 : Int) ^ 2148 = ((UU * UU : Nat) : Int) := by rw [pow_int, Ft.UU2]
  obtain ⟨S, eS⟩ : ∃ S, S = 2 ^ sc := ⟨_, rfl⟩
  rw [← eS] at h hS
  have hav : av v * 2 ^ sc = V v * ((UU * S : Nat) : Int) := by
    unfold av
    rw [UU_int, pow_int, ← eS, Int.mul_assoc, Int.natCast_mul]
  have h4200 : 2 ^ 4200 = 2 ^ 152 * (UU * UU) * 2 ^ 1900 := by
    rw [pow_split 4200 2300 1900 (by omega), pow_split 2300 152 2148 (by omega), Ft.UU2]
  obtain ⟨B, eB⟩ : ∃ B, B = 2 ^ 1900 := ⟨_, rfl⟩
  rw [← eB] at h4200 hS
  obtain ⟨G, eG⟩ : ∃ B, B = 2 ^ 4200 := ⟨_, rfl⟩
  rw [← eG] at h4200
  have hq : q.natAbs ≤ 2 ^ 101 * S := by
    have h1 : q.natAbs * UU ≤ (V v).natAbs * S + e * DD * S := by
      have a1 := abs_sc UU q
      have a2 := abs_sc S (V v)
      omega
    have h2 : e * DD ≤ 2 ^ 70 * UU := by
      have := Nat.mul_le_mul_right DD he
      rw [hDU]
      omega
    have h3 : (V v).natAbs * S + e * DD * S ≤ 2 ^ 101 * S * UU := by
      have a1 := Nat.mul_le_mul_right S hb
      have a2 := Nat.mul_le_mul_right S h2
      have e1 : 2 ^ 101 * S * UU = 2 ^ 100 * UU * S + 2 ^ 100 * UU * S := by grind
      have e2 : 2 ^ 70 * UU * S ≤ 2 ^ 100 * UU * S := Nat.mul_le_mul_right _ (Nat.mul_le_mul_right _ (by decide))
      omega
    exact Nat.le_of_mul_le_mul_right (Nat.le_trans h1 h3) UU_pos
  refine ⟨hf, hl, ?_, ?_, ?_⟩
  · rw [hav, abs_sc, ← eG, h4200]
    have e1 : 2 ^ 152 * (UU * UU) * B = 2 ^ 152 * UU * (UU * B) := by grind
    rw [e1]
    exact Nat.mul_le_mul (Nat.le_trans hb (Nat.mul_le_mul_right _ (by decide))) (Nat.mul_le_mul_left _ hS)
  · rw [hU2, abs_sc, ← eG, h4200]
    have e1 : 2 ^ 152 * (UU * UU) * B = 2 ^ 152 * B * (UU * UU) := by grind
    rw [e1]
    exact Nat.mul_le_mul_right _ (Nat.le_trans hq (Nat.mul_le_mul (by decide) hS))
  · rw [hav, hU2]
    have e1 : V v * ((UU * S : Nat) : Int) - q * ((UU * UU : Nat) : Int) = (V v * (S : Int) - q * (UU : Int)) * (UU : Int) := by rw [Int.natCast_mul, Int.natCast_mul]; grind
    rw [e1, abs_sc]
    have e2 : (e : Int) * 2 ^ (2068 + sc) = ((e * DD * S * UU : Nat) : Int) := by
      have : 2 ^ (2068 + sc) = DD * S * UU := by
        rw [Nat.pow_add, pow_split 2068 994 1074 (by omega), ← UU_eq, ← DD_eq, ← eS]
        exact Nat.mul_right_comm _ _ _
      rw [pow_int, this, ← Int.natCast_mul, ← Nat.mul_assoc, ← Nat.mul_assoc]
    rw [e2]
    exact Int.ofNat_le.2 (Nat.mul_le_mul_right _ h)

theorem holds_of {sc : Nat} {p : P} {q : Q} (hs : sc ≤ 1900) (h : Inv (2 ^ sc) p q) (hl : Lt64 p.1) (f1 : Finite p.1.1) (f2 : Finite p.1.2) (b1 : (V p.1.1).natAbs ≤ 2 ^ 100 * UU) (b2 : (V p.1.2).natAbs ≤ 2 ^ 100 * UU) (he : p.2 ≤ 2 ^ 150) : Holds sc p q := by
  have h0 := h.e0
  have e : ((p.2.toNat : Nat) : Int) = p.2 := Int.toNat_of_nonneg h0
  have hen : p.2.toNat ≤ 2 ^ 150 := by omega
  have r1 := part_of hs f1 hl.1 b1 hen h.re
  have r2 := part_of hs f2 hl.2 b2 hen h.im
  rw [e] at r1 r2
  exact ⟨h0, he, r1, r2⟩
end Hp
end Go.Proofs.Ygctak
