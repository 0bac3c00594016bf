/-
  ShadowHolds, plainly: the arithmetic of one butterfly, one product, one division.
-/
import Derived.Test.YgctakHo24
namespace Go.Proofs.Ygctak
set_option linter.unusedVariables false
set_option linter.unusedSimpArgs false
namespace Hp
open Ft (abs_scale)

theorem abs_sc (U : Nat) (x : Int) : (x * (U : Int)).natAbs = x.natAbs * U := by rw [Int.natAbs_mul]; rfl
theorem two_terms {x y a b : Int} {E : Nat} (hx : x.natAbs ≤ E) (hy : y.natAbs ≤ E) : (x * a - y * b).natAbs ≤ E * (a.natAbs + b.natAbs) := by
  have h1 : (x * a).natAbs ≤ E * a.natAbs := by rw [Int.natAbs_mul]; exact Nat.mul_le_mul_right _ hx
  have h2 : (y * b).natAbs ≤ E * b.natAbs := by rw [Int.natAbs_mul]; exact Nat.mul_le_mul_right _ hy
  rw [Nat.mul_add]
  omega

theorem stage_part {U SC D P M m eu ev f : Nat} {o u v1 v2 q w1 w2 r1 r2 s : Int}
    (hU : U = 2 ^ 62 * SC) (hD : U = 2 ^ 80 * D) (hSC : 0 < SC) (hs : s = 1 ∨ s = -1)
    (hb : 2 ^ 50 * ((U : Int) * o - ((U : Int) * u + s * (v1 * (SC * r1) - v2 * (SC * r2)))).natAbs ≤ M * (U * U))
    (iu : (u * P - q * U).natAbs ≤ eu * D * P) (iv1 : (v1 * P - w1 * U).natAbs ≤ ev * D * P) (iv2 : (v2 * P - w2 * U).natAbs ≤ ev * D * P)
    (hM : M ≤ 4 * m) (hf : ev * (r1.natAbs + r2.natAbs) ≤ f * 2 ^ 62) :
    (o * (P * 2 ^ 62) - (q * 2 ^ 62 + s * (w1 * r1 - w2 * r2)) * U).natAbs ≤ (f + eu + m * 2 ^ 32 + 1) * D * (P * 2 ^ 62) := by
  obtain ⟨Δ, hΔ⟩ : ∃ d, d = (U : Int) * o - ((U : Int) * u + s * (v1 * (SC * r1) - v2 * (SC * r2))) := ⟨_, rfl⟩
  obtain ⟨X, hX⟩ : ∃ d, d = o * (P * 2 ^ 62) - (q * 2 ^ 62 + s * (w1 * r1 - w2 * r2)) * U := ⟨_, rfl⟩
  obtain ⟨Y, hY⟩ : ∃ d, d = (v1 * P - w1 * U) * r1 - (v2 * P - w2 * U) * r2 := ⟨_, rfl⟩
  have id : (SC : Int) * X = P * Δ + U * (u * P - q * U) + s * (SC * Y) := by
    have hUi : (U : Int) = 2 ^ 62 * (SC : Int) := by rw [hU, Int.natCast_mul]; rfl
    rw [hX, hΔ, hY, hUi]
    grind
  rw [← hΔ] at hb
  rw [← hX]
  have y1 : Y.natAbs ≤ ev * D * P * (r1.natAbs + r2.natAbs) := by rw [hY]; exact two_terms iv1 iv2
  have y2 : (s * (SC * Y)).natAbs ≤ SC * (ev * D * P * (r1.natAbs + r2.natAbs)) := by
    have : (s * (SC * Y)).natAbs = SC * Y.natAbs := by
      rcases hs with h | h
      · rw [h, Int.one_mul, abs_scale]
      · rw [h, Int.neg_mul, Int.one_mul, Int.natAbs_neg, abs_scale]
    rw [this]
    exact Nat.mul_le_mul_left _ y1
  have y3 : SC * (ev * D * P * (r1.natAbs + r2.natAbs)) ≤ f * (U * D * P) := by
    have e1 : SC * (ev * D * P * (r1.natAbs + r2.natAbs)) = SC * D * P * (ev * (r1.natAbs + r2.natAbs)) := by grind
    have e2 : f * (U * D * P) = SC * D * P * (f * 2 ^ 62) := by rw [hU]; grind
    rw [e1, e2]
    exact Nat.mul_le_mul_left _ hf
  have a2 : (U * (u * P - q * U)).natAbs ≤ eu * (U * D * P) := by
    rw [abs_scale]
    have e1 : eu * (U * D * P) = U * (eu * D * P) := by grind
    rw [e1]
    exact Nat.mul_le_mul_left _ iu
  have a1 : (P * Δ).natAbs ≤ 2 ^ 32 * (m * (U * D * P)) := by
    rw [abs_scale]
    have h1 : 2 ^ 50 * (P * Δ.natAbs) ≤ 2 ^ 82 * (m * (U * D * P)) := by
      have e1 : 2 ^ 50 * (P * Δ.natAbs) = P * (2 ^ 50 * Δ.natAbs) := by grind
      have e2 : 2 ^ 82 * (m * (U * D * P)) = P * (4 * m * (U * (2 ^ 80 * D))) := by grind
      rw [e1, e2, ← hD]
      exact Nat.mul_le_mul_left _ (Nat.le_trans hb (Nat.mul_le_mul_right _ hM))
    generalize P * Δ.natAbs = a at *
    generalize m * (U * D * P) = b at *
    omega
  have fin : SC * X.natAbs ≤ SC * ((f + eu + m * 2 ^ 32 + 1) * D * (P * 2 ^ 62)) := by
    have e1 : SC * ((f + eu + m * 2 ^ 32 + 1) * D * (P * 2 ^ 62)) = f * (U * D * P) + eu * (U * D * P) + 2 ^ 32 * (m * (U * D * P)) + U * D * P := by rw [hU]; grind
    rw [e1, ← abs_scale, id]
    generalize 2 ^ 32 * (m * (U * D * P)) = t1 at *
    generalize eu * (U * D * P) = t2 at *
    generalize f * (U * D * P) = t3 at *
    generalize U * D * P = t4 at *
    omega
  exact Nat.le_of_mul_le_mul_left fin hSC

theorem times_part {U D P m ex ey F : Nat} {o x1 x2 y1 y2 a1 a2 b1 b2 : Int} (hU0 : 0 < U) (hD : U = 2 ^ 80 * D)
    (hb : 2 ^ 50 * ((U : Int) * o - (x1 * y1 - x2 * y2)).natAbs ≤ m * m * (U * U))
    (ix1 : (x1 * P - a1 * U).natAbs ≤ ex * D * P) (ix2 : (x2 * P - a2 * U).natAbs ≤ ex * D * P) (iy1 : (y1 * P - b1 * U).natAbs ≤ ey * D * P) (iy2 : (y2 * P - b2 * U).natAbs ≤ ey * D * P)
    (hY : 16384 * (y1.natAbs + y2.natAbs) ≤ 23171 * (m * U)) (hA : 16384 * ((a1.natAbs + a2.natAbs) * U) ≤ 23171 * (m * U * P)) (hF : 23171 * ((ex + ey) * m) ≤ 16384 * F) :
    (o * (P * P) - (a1 * b1 - a2 * b2) * U).natAbs ≤ (F + m * m * 2 ^ 30 + 1) * D * (P * P) := by
  obtain ⟨Δ, hΔ⟩ : ∃ d, d = (U : Int) * o - (x1 * y1 - x2 * y2) := ⟨_, rfl⟩
  obtain ⟨X, hX⟩ : ∃ d, d = o * (P * P) - (a1 * b1 - a2 * b2) * U := ⟨_, rfl⟩
  obtain ⟨Y, hY2⟩ : ∃ d, d = (x1 * P - a1 * U) * y1 - (x2 * P - a2 * U) * y2 := ⟨_, rfl⟩
  obtain ⟨Z, hZ⟩ : ∃ d, d = (y1 * P - b1 * U) * a1 - (y2 * P - b2 * U) * a2 := ⟨_, rfl⟩
  have id : (U : Int) * X = ((P * P : Nat) : Int) * Δ + P * Y + U * Z := by
    rw [hX, hΔ, hY2, hZ, Int.natCast_mul]
    grind
  rw [← hΔ] at hb
  rw [← hX]
  have p1 : Y.natAbs ≤ ex * D * P * (y1.natAbs + y2.natAbs) := by rw [hY2]; exact two_terms ix1 ix2
  have p2 : Z.natAbs ≤ ey * D * P * (a1.natAbs + a2.natAbs) := by rw [hZ]; exact two_terms iy1 iy2
  have t1 : (((P * P : Nat) : Int) * Δ).natAbs ≤ 2 ^ 30 * (m * m * (U * D * (P * P))) := by
    rw [abs_scale]
    have h1 : 2 ^ 50 * (P * P * Δ.natAbs) ≤ 2 ^ 80 * (m * m * (U * D * (P * P))) := by
      have e1 : 2 ^ 50 * (P * P * Δ.natAbs) = P * P * (2 ^ 50 * Δ.natAbs) := by grind
      have e2 : 2 ^ 80 * (m * m * (U * D * (P * P))) = P * P * (m * m * (U * (2 ^ 80 * D))) := by grind
      rw [e1, e2, ← hD]
      exact Nat.mul_le_mul_left _ hb
    generalize P * P * Δ.natAbs = a at *
    generalize m * m * (U * D * (P * P)) = b at *
    omega
  have t2 : 16384 * ((P : Int) * Y).natAbs ≤ 23171 * (ex * m * (U * D * (P * P))) := by
    rw [abs_scale]
    have e1 : 23171 * (ex * m * (U * D * (P * P))) = P * (ex * D * P * (23171 * (m * U))) := by grind
    have e2 : 16384 * (P * Y.natAbs) = P * (16384 * Y.natAbs) := by grind
    rw [e1, e2]
    refine Nat.mul_le_mul_left _ ?_
    have e3 : 16384 * (ex * D * P * (y1.natAbs + y2.natAbs)) = ex * D * P * (16384 * (y1.natAbs + y2.natAbs)) := by grind
    have h3 := Nat.mul_le_mul_left 16384 p1
    rw [e3] at h3
    exact Nat.le_trans h3 (Nat.mul_le_mul_left _ hY)
  have t3 : 16384 * ((U : Int) * Z).natAbs ≤ 23171 * (ey * m * (U * D * (P * P))) := by
    rw [abs_scale]
    have e1 : 23171 * (ey * m * (U * D * (P * P))) = ey * D * P * (23171 * (m * U * P)) := by grind
    rw [e1]
    have h3 := Nat.mul_le_mul_left (16384 * U) p2
    have e2 : 16384 * U * (ey * D * P * (a1.natAbs + a2.natAbs)) = ey * D * P * (16384 * ((a1.natAbs + a2.natAbs) * U)) := by grind
    rw [e2] at h3
    rw [← Nat.mul_assoc]
    exact Nat.le_trans h3 (Nat.mul_le_mul_left _ hA)
  have t4 : 23171 * (ex * m * (U * D * (P * P))) + 23171 * (ey * m * (U * D * (P * P))) ≤ 16384 * (F * (U * D * (P * P))) := by
    have h3 := Nat.mul_le_mul_right (U * D * (P * P)) hF
    have e1 : 23171 * ((ex + ey) * m) * (U * D * (P * P)) = 23171 * (ex * m * (U * D * (P * P))) + 23171 * (ey * m * (U * D * (P * P))) := by grind
    rw [e1, Nat.mul_assoc 16384 F] at h3
    exact h3
  have fin : U * X.natAbs ≤ U * ((F + m * m * 2 ^ 30 + 1) * D * (P * P)) := by
    have e1 : U * ((F + m * m * 2 ^ 30 + 1) * D * (P * P)) = F * (U * D * (P * P)) + 2 ^ 30 * (m * m * (U * D * (P * P))) + U * D * (P * P) := by grind
    rw [e1, ← abs_scale, id]
    generalize ex * m * (U * D * (P * P)) = g1 at *
    generalize ey * m * (U * D * (P * P)) = g2 at *
    generalize m * m * (U * D * (P * P)) = g3 at *
    generalize F * (U * D * (P * P)) = g4 at *
    generalize U * D * (P * P) = g5 at *
    omega
  exact Nat.le_of_mul_le_mul_left fin hU0

/-- The exact point is no greater than the float and its bound. -/
theorem exact_sum {U D P m e ε : Nat} {x1 x2 a1 a2 : Int} (hD : U = 2 ^ 80 * D) (he : e ≤ 2 ^ 78) (hε : 2 ^ 16 * ε ≤ U) (ix1 : (x1 * P - a1 * U).natAbs ≤ e * D * P) (ix2 : (x2 * P - a2 * U).natAbs ≤ e * D * P)
    (hX : 16384 * (x1.natAbs + x2.natAbs) ≤ 23171 * (m * U) + 32768 * ε) : 16384 * ((a1.natAbs + a2.natAbs) * U) ≤ 23171 * ((m + 1) * U * P) := by
  have h1 : ∀ {x a : Int}, (x * P - a * U).natAbs ≤ e * D * P → a.natAbs * U ≤ x.natAbs * P + e * D * P := fun {x a} h => by
    have e1 := abs_sc U a
    have e2 := abs_sc P x
    omega
  have g1 := h1 ix1
  have g2 := h1 ix2
  have g3 : 4 * (e * D * P) ≤ U * P := by
    have : 4 * (e * D) ≤ U := by
      have h := Nat.mul_le_mul_right D he
      rw [hD]
      omega
    calc 4 * (e * D * P) = 4 * (e * D) * P := by grind
      _ ≤ U * P := Nat.mul_le_mul_right _ this
  have g4 : 16384 * ((x1.natAbs + x2.natAbs) * P) ≤ 23171 * (m * U * P) + 32768 * (ε * P) := by
    have h := Nat.mul_le_mul_right P hX
    have e1 : 16384 * (x1.natAbs + x2.natAbs) * P = 16384 * ((x1.natAbs + x2.natAbs) * P) := Nat.mul_assoc _ _ _
    have e2 : (23171 * (m * U) + 32768 * ε) * P = 23171 * (m * U * P) + 32768 * (ε * P) := by grind
    rw [e1, e2] at h
    exact h
  have g5 : 2 ^ 16 * (ε * P) ≤ U * P := by
    rw [← Nat.mul_assoc]; exact Nat.mul_le_mul_right _ hε
  rw [Nat.add_mul] at g4 ⊢
  have e3 : (m + 1) * U * P = m * U * P + U * P := by grind
  rw [e3]
  generalize a1.natAbs * U = t1 at *
  generalize a2.natAbs * U = t2 at *
  generalize x1.natAbs * P = t3 at *
  generalize x2.natAbs * P = t4 at *
  generalize e * D * P = t5 at *
  generalize m * U * P = t6 at *
  generalize U * P = t7 at *
  generalize ε * P = t8 at *
  omega

theorem div_part {U D P n e e' : Nat} {v v' q : Int} (hD0 : 1 ≤ D) (hv : ((n : Int) * v' - v).natAbs ≤ n) (iv : (v * P - q * U).natAbs ≤ e * D * P) (he : e + n ≤ e' * n) :
    (v' * (P * n) - q * U).natAbs ≤ e' * D * (P * n) := by
  have id : v' * (P * n) - q * U = ((n : Int) * v' - v) * P + (v * P - q * U) := by grind
  have h1 : (((n : Int) * v' - v) * P).natAbs ≤ n * D * P := by
    rw [abs_sc]
    exact Nat.mul_le_mul_right _ (Nat.le_trans hv (Nat.le_mul_of_pos_right _ hD0))
  have h2 : e * D * P + n * D * P ≤ e' * D * (P * n) := by
    have h := Nat.mul_le_mul_right (D * P) he
    have e1 : (e + n) * (D * P) = e * D * P + n * D * P := by grind
    have e2 : e' * n * (D * P) = e' * D * (P * n) := by grind
    rw [e1, e2] at h
    exact h
  rw [id]
  generalize e * D * P = t1 at *
  generalize n * D * P = t2 at *
  generalize e' * D * (P * n) = t3 at *
  omega
end Hp
end Go.Proofs.Ygctak
