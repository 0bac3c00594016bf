/-
  The products hold: the end.
-/
import Derived.Test.YgctakHp7
namespace Go.Proofs.Ygctak
set_option linter.unusedVariables false
set_option linter.unusedSimpArgs false
namespace Hp
open Ac Fl Sh Ex
open Ft (abs_scale UU UU_pos zf WU WU_UU ef ef_ok KK KK_small cmul_err)

theorem ter_nat (m : Nat) (u v : Int) (u0 : 0 ≤ u) (v0 : 0 ≤ v) : ter m u v = ((((u.toNat + v.toNat) * m * 23171 + 16383) / 2 ^ 14 + m * m * 2 ^ 30 + 1 : Nat) : Int) := by
  obtain ⟨a, rfl⟩ : ∃ a : Nat, u = a := ⟨u.toNat, by omega⟩
  obtain ⟨b, rfl⟩ : ∃ b : Nat, v = b := ⟨v.toNat, by omega⟩
  unfold ter spr
  simp only [Int.toNat_natCast]
  have e1 : ((a : Int) + b) * m = (((a + b) * m : Nat) : Int) := by rw [Int.natCast_mul, Int.natCast_add]
  have e2 : (m : Int) * m = ((m * m : Nat) : Int) := (Int.natCast_mul m m).symm
  rw [e1, e2]
  generalize (a + b) * m = c
  generalize m * m = d
  omega

theorem prod_inv {P m ε : Nat} {x y : Sh.P} {a b : Q} (hm : 1 ≤ m) (hm2 : m ≤ 130561) (hx : Inv P x a) (hy : Inv P y b) (bx : Bd m x.1) (bY : Bd m y.1) (ex : x.2.toNat ≤ 2 ^ 78) (hε : 2 ^ 16 * ε ≤ UU)
    (sx : 16384 * ((V x.1.1).natAbs + (V x.1.2).natAbs) ≤ 23171 * ((m - 1) * UU) + 32768 * ε) (sy : 16384 * ((V y.1.1).natAbs + (V y.1.2).natAbs) ≤ 23171 * ((m - 1) * UU) + 32768 * ε) :
    Finite (cmul x.1 y.1).1 ∧ Finite (cmul x.1 y.1).2 ∧ Inv (P * P) (cmul x.1 y.1, ter m x.2 y.2) (pq a b) := by
  have hXY : m * UU * (m * UU) ≤ 2 ^ 120 * (UU * UU) := by
    have e : m * UU * (m * UU) = m * m * (UU * UU) := by grind
    rw [e]
    refine Nat.mul_le_mul_right _ ?_
    exact Nat.le_trans (Nat.mul_le_mul hm2 hm2) (by decide)
  obtain ⟨f1, f2, c1, c2⟩ := cmul_err bx.f1 bx.f2 bY.f1 bY.f2 bx.b1 bx.b2 bY.b1 bY.b2 hXY
  have hK := KK_small
  have hQ : 0 < UU * UU := Nat.mul_pos UU_pos UU_pos
  have hmm : UU * UU ≤ m * m * (UU * UU) := Nat.le_mul_of_pos_left _ (Nat.mul_pos hm hm)
  have pr : ∀ {a b : Int}, a.natAbs ≤ m * UU → b.natAbs ≤ m * UU → (a * b).natAbs ≤ m * m * (UU * UU) := fun g1 g2 => by
    rw [Int.natAbs_mul]
    have := Nat.mul_le_mul g1 g2
    have e : m * UU * (m * UU) = m * m * (UU * UU) := by grind
    rw [e] at this; exact this
  have p11 := pr bx.b1 bY.b1
  have p22 := pr bx.b2 bY.b2
  have p12 := pr bx.b1 bY.b2
  have p21 := pr bx.b2 bY.b1
  have g1 : 2 ^ 50 * ((UU : Int) * V (cmul x.1 y.1).1 - (V x.1.1 * V y.1.1 - V x.1.2 * V y.1.2)).natAbs ≤ m * m * (UU * UU) := by
    generalize m * m * (UU * UU) = q at *
    generalize UU * UU = q2 at *
    omega
  have g2 : 2 ^ 50 * ((UU : Int) * V (cmul x.1 y.1).2 - (V x.1.1 * V y.1.2 - V x.1.2 * -V y.1.1)).natAbs ≤ m * m * (UU * UU) := by
    have e : V x.1.1 * V y.1.2 - V x.1.2 * -V y.1.1 = V x.1.1 * V y.1.2 + V x.1.2 * V y.1.1 := by grind
    rw [e]
    generalize m * m * (UU * UU) = q at *
    generalize UU * UU = q2 at *
    omega
  have hmU : (m - 1 + 1) * UU * P = m * UU * P := by rw [show m - 1 + 1 = m by omega]
  have hA := exact_sum DD_UU ex hε hx.re hx.im sx
  rw [hmU] at hA
  have hY : 16384 * ((V y.1.1).natAbs + (V y.1.2).natAbs) ≤ 23171 * (m * UU) := by
    have e : m * UU = (m - 1) * UU + UU := by rw [← Nat.succ_mul]; congr 1; omega
    rw [e]
    generalize (m - 1) * UU = q at *
    omega
  have hY2 : 16384 * ((V y.1.2).natAbs + (-V y.1.1).natAbs) ≤ 23171 * (m * UU) := by rw [Int.natAbs_neg, Nat.add_comm (V y.1.2).natAbs]; exact hY
  obtain ⟨F, hF⟩ : ∃ F, F = ((x.2.toNat + y.2.toNat) * m * 23171 + 16383) / 2 ^ 14 := ⟨_, rfl⟩
  have hFb : 23171 * ((x.2.toNat + y.2.toNat) * m) ≤ 16384 * F := by
    rw [hF]
    generalize (x.2.toNat + y.2.toNat) * m = c
    omega
  have ht := ter_nat m x.2 y.2 hx.e0 hy.e0
  rw [← hF] at ht
  have iy2 : (-V y.1.1 * (P : Int) - -b.1 * (UU : Int)).natAbs ≤ y.2.toNat * DD * P := by
    have h := hy.re
    unfold Ip at h
    have e : -V y.1.1 * (P : Int) - -b.1 * (UU : Int) = -(V y.1.1 * (P : Int) - b.1 * (UU : Int)) := by grind
    rw [e, Int.natAbs_neg]
    exact h
  have r1 := times_part UU_pos DD_UU g1 hx.re hx.im hy.re hy.im hY hA hFb
  have r2 := times_part UU_pos DD_UU g2 hx.re hx.im hy.im iy2 hY2 hA hFb
  have hcast : ((P * P : Nat) : Int) = (P : Int) * P := Int.natCast_mul P P
  refine ⟨f1, f2, ?_, ?_, ?_⟩
  · show 0 ≤ ter m x.2 y.2
    rw [ht]; exact Int.natCast_nonneg _
  · show (V (cmul x.1 y.1).1 * ((P * P : Nat) : Int) - (pq a b).1 * (UU : Int)).natAbs ≤ (ter m x.2 y.2).toNat * DD * (P * P)
    have e : (pq a b).1 = a.1 * b.1 - a.2 * b.2 := by simp only [pq]; grind
    rw [ht, hcast, Int.toNat_natCast, e]
    exact r1
  · show (V (cmul x.1 y.1).2 * ((P * P : Nat) : Int) - (pq a b).2 * (UU : Int)).natAbs ≤ (ter m x.2 y.2).toNat * DD * (P * P)
    have e : (pq a b).2 = a.1 * b.2 - a.2 * -b.1 := by simp only [pq]; grind
    rw [ht, hcast, Int.toNat_natCast, e]
    exact r2

theorem ef_small (k : Nat) (h : k ≤ 10) : 2 ^ 16 * (ef k * WU) ≤ UU := by
  have := (ef_ok ⟨k, by omega⟩).2
  simp only at this
  rw [WU_UU, ← Nat.mul_assoc]
  exact Nat.mul_le_mul_right _ (by omega)

theorem mid_inv {k : Nat} {xs ys : List Int} (h1 : 1 ≤ k) (h2 : k ≤ 10) (hx : Digs 255 xs) (hy : Digs 255 ys) (lx : xs.length ≤ 512) (ly : ys.length ≤ 512) (i : Nat) (hi : i < 2 ^ k) :
    Finite ((mid k xs ys).getD i p0).1.1 ∧ Finite ((mid k xs ys).getD i p0).1.2 ∧ Inv (2 ^ (124 * k)) ((mid k xs ys).getD i p0) ((exM k xs ys).getD i q0) := by
  have e1 : (mid k xs ys).getD i p0 = tmf (fwd k 255 xs) (fwd k 255 ys) (most (k + 1) 255) i := by
    show (tms _ _ _).getD i p0 = _
    unfold tms
    rw [List.getD_eq_getElem?_getD, List.getElem?_map, List.getElem?_range (by rw [fwd_length]; exact hi)]
    rfl
  have e2 : (exM k xs ys).getD i q0 = pq ((exF k xs k).getD i q0) ((exF k ys k).getD i q0) := etL_get _ _ _ (by rw [exF_length]; exact hi)
  obtain ⟨bx, sx⟩ := fwd_bd h1 h2 hx lx i hi
  obtain ⟨bY, sy⟩ := fwd_bd h1 h2 hy ly i hi
  have ix := fw_inv h1 h2 hx k (Nat.le_refl _) i hi
  have iy := fw_inv h1 h2 hy k (Nat.le_refl _) i hi
  rw [fwA_fwd] at ix iy
  have hm := most_le (k + 1) 255 (by omega)
  have hm1 := (dg_most (k := k) hx lx).2
  have := prod_inv (by omega) hm ix iy bx bY (fwd_err h2 i) (ef_small k h2) sx sy
  rw [e1, e2, show 124 * k = 62 * k + 62 * k by omega, Nat.pow_add]
  exact this

theorem pow_lt_int (a b : Nat) (h : a < b) : ((2 ^ a : Nat) : Int) < ((2 ^ b : Nat) : Int) := Int.ofNat_lt.2 (Nat.pow_lt_pow_right (by omega) h)
/-- The exact points of the transform fit. -/
theorem ex_fits {k : Nat} {xs : List Int} (h1 : 1 ≤ k) (h2 : k ≤ 10) (h : Digs 255 xs) (i : Nat) (hi : i < 2 ^ k) : Fits ((exF k xs k).getD i q0).1 ∧ Fits ((exF k xs k).getD i q0).2 := by
  have hh := fw_holds h1 h2 h k h1 (Nat.le_refl _) i hi
  have key : ∀ q : Int, (q * 2 ^ 2148).natAbs ≤ 2 ^ 4200 → Fits q := fun q hq => by
    have hu : (2 : Int) ^ 2148 = ((UU * UU : Nat) : Int) := by rw [pow_int, Ft.UU2]
    rw [hu, abs_sc] at hq
    have h3 : q.natAbs ≤ 2 ^ 4200 := Nat.le_trans (Nat.le_mul_of_pos_right _ (Nat.mul_pos UU_pos UU_pos)) hq
    have h4 : ((2 ^ 4200 : Nat) : Int) < half := by
      unfold half
      rw [pow_int]
      exact pow_lt_int 4200 4351 (by omega)
    obtain ⟨G, eG⟩ : ∃ G, G = 2 ^ 4200 := ⟨_, rfl⟩
    rw [← eG] at h3 h4
    exact ⟨by omega, by omega⟩
  exact ⟨key _ hh.re.b2, key _ hh.im.b2⟩
end Hp
end Go.Proofs.Ygctak
