/-
  One butterfly and its sums; all stages.
-/
import Derived.Test.YgctakFt5
set_option linter.unusedVariables false
set_option linter.unusedSimpArgs false
namespace Go.Proofs.Ygctak.Ft
open Fl Sh

theorem fin_step {U W n L e : Nat} {X T1 T2 T3 T4 : Int} (hU0 : 0 < U) (hU : U = 2 ^ 50 * W) (hX : (U : Int) * X = T1 + (U : Int) * T2 + T3 + T4) (h1 : 2 ^ 50 * T1.natAbs ≤ 2 * n * L * (U * U)) (h2 : T2.natAbs ≤ e) (h3 : 16384 * T3.natAbs ≤ 23171 * U * e) (h4 : 2 ^ 49 * T4.natAbs ≤ n * (L * (U * U))) :
    16384 * X.natAbs ≤ 39555 * e + 65536 * (n * L * W) := by
  have s1 := abs_scale U X
  have s2 := abs_scale U T2
  have k2 : U * T2.natAbs ≤ U * e := Nat.mul_le_mul_left _ h2
  have e1 : 2 * n * L * (U * U) = 2 ^ 51 * (n * L * W * U) := by
    have : 2 * n * L * (U * U) = 2 * n * L * (U * (2 ^ 50 * W)) := by rw [← hU]
    rw [this]; grind
  have e2 : n * (L * (U * U)) = 2 ^ 50 * (n * L * W * U) := by
    have : n * (L * (U * U)) = n * (L * (U * (2 ^ 50 * W))) := by rw [← hU]
    rw [this]; grind
  have e3 : 23171 * U * e = 23171 * (U * e) := Nat.mul_assoc _ _ _
  rw [e1] at h1
  rw [e2] at h4
  rw [e3] at h3
  have h5 : U * (16384 * X.natAbs) ≤ U * (39555 * e + 65536 * (n * L * W)) := by
    have a1 : U * (16384 * X.natAbs) = 16384 * (U * X.natAbs) := by grind
    have a2 : U * (39555 * e + 65536 * (n * L * W)) = 39555 * (U * e) + 65536 * (n * L * W * U) := by grind
    rw [a1, a2, ← s1, hX]
    generalize (U : Int) * T2 = t2 at *
    generalize U * T2.natAbs = t2n at *
    generalize U * e = ue at *
    generalize n * L * W * U = nl at *
    omega
  exact Nat.le_of_mul_le_mul_left h5 hU0

/-- The next bound. -/
def nxt (e n L : Nat) : Nat := e * 39555 / 16384 + 4 * (n * L) + 1
theorem nxt_ok {e n L W : Nat} {x : Nat} (h : 16384 * x ≤ 39555 * (e * W) + 65536 * (n * L * W)) : x ≤ nxt e n L * W := by
  have h1 : 39555 * (e * W) + 65536 * (n * L * W) = (39555 * e + 65536 * (n * L)) * W := by grind
  rw [h1] at h
  have h2 : 39555 * e + 65536 * (n * L) ≤ 16384 * nxt e n L := by unfold nxt; omega
  have h3 := Nat.mul_le_mul_right W h2
  rw [Nat.mul_assoc 16384] at h3
  omega

/-- A root's word. -/
structure Root (r : Nat × Nat) (v : Int × Int) : Prop where
  f1 : Finite r.1
  f2 : Finite r.2
  v1 : V r.1 = v.1
  v2 : V r.2 = v.2
  b1 : (V r.1).natAbs ≤ UU
  b2 : (V r.2).natAbs ≤ UU
  bs : 16384 * ((V r.1).natAbs + (V r.2).natAbs) ≤ 23171 * UU

theorem near_bfly {G : Nat → Int → Int × Int} {rv : Int → Int × Int} {s : Int} {N L : Nat} (h : Fam G rv s N L) {n q r0 c j e : Nat} {u v r : Nat × Nat} (hn : 1 ≤ n) (hL : 1 ≤ L) (hnL : 2 * n * L ≤ 2 ^ 60) (hc : n * c = 512) (he : e * WU ≤ n * (L * UU))
    (hr0 : ∀ m, m < n → r0 + m * (2 * q) < N) (hr1 : ∀ m, m < n → r0 + q + m * (2 * q) < N)
    (hu : Near (e * WU) u (Rs G s n (2 * q) r0 (2 * c) j 0)) (hv : Near (e * WU) v (Rs G s n (2 * q) (r0 + q) (2 * c) j 0)) (hr : Root r (rv (j * c))) :
    Near (nxt e n L * WU) (cadd u (cmul v r)) (Rs G s (2 * n) q r0 c j 0) ∧ Near (nxt e n L * WU) (csub u (cmul v r)) (Rs G s (2 * n) q r0 c (j + n) 0) := by
  obtain ⟨bu1, bu2⟩ := Rs_bd h n (2 * q) r0 (2 * c) j 0 hr0
  obtain ⟨bv1, bv2⟩ := Rs_bd h n (2 * q) (r0 + q) (2 * c) j 0 hr1
  obtain ⟨m1, m2⟩ := Rs_shift h n (2 * q) (r0 + q) (2 * c) j (j * c) hr1
  obtain ⟨t1, t2⟩ := Rs_two G s n q r0 c j
  obtain ⟨t3, t4⟩ := Rs_two G s n q r0 c (j + n)
  obtain ⟨k1, k2⟩ := Rs_up h n (2 * q) r0 c j hc
  obtain ⟨_, k4⟩ := Rs_up h n (2 * q) (r0 + q) c j hc
  rw [k1] at t3 t4
  rw [k4] at t3 t4
  simp only at t3 t4
  have eM : n * (L * UU) + n * (L * UU) = 2 * n * L * UU := by grind
  have big : ∀ {z R : Int}, R.natAbs ≤ n * (L * UU) → (z - R).natAbs ≤ e * WU → z.natAbs ≤ 2 * n * L * UU := fun h1 h2 => by omega
  have hM1 : 1 ≤ 2 * n * L := by
    have : 1 ≤ n * L := Nat.mul_pos hn hL
    have : 2 * n * L = 2 * (n * L) := by grind
    omega
  obtain ⟨B1, B2⟩ := butterfly hM1 hnL hu.f1 hu.f2 hv.f1 hv.f2 hr.f1 hr.f2 (big bu1 hu.d1) (big bu2 hu.d2) (big bv1 hv.d1) (big bv2 hv.d2) hr.b1 hr.b2 hr.bs
  obtain ⟨p1, _⟩ := prod_le (x1 := V r.1) (x2 := V r.2) hv.d1 hv.d2
  obtain ⟨_, p2⟩ := prod_le (x1 := V r.1) (x2 := V r.2) hv.d1 hv.d2
  have q0 : 16384 * (((V r.1).natAbs + (V r.2).natAbs) * (e * WU)) ≤ 23171 * UU * (e * WU) := by
    have := Nat.mul_le_mul_right (e * WU) hr.bs
    rw [Nat.mul_assoc 16384] at this
    exact this
  have q1 := Nat.le_trans (Nat.mul_le_mul_left 16384 p1) q0
  have q2 := Nat.le_trans (Nat.mul_le_mul_left 16384 p2) q0
  rw [← hr.v1, ← hr.v2] at m1 m2
  have hu1 := hu.d1
  have hu2 := hu.d2
  have hW := WU_UU
  have hU0 := UU_pos
  generalize (Rs G s n (2 * q) r0 (2 * c) j 0).1 = A1 at *
  generalize (Rs G s n (2 * q) r0 (2 * c) j 0).2 = A2 at *
  generalize (Rs G s n (2 * q) (r0 + q) (2 * c) j 0).1 = C1 at *
  generalize (Rs G s n (2 * q) (r0 + q) (2 * c) j 0).2 = C2 at *
  generalize (Rs G s n (2 * q) (r0 + q) (2 * c) j (s * (j * c))).1 = D1 at *
  generalize (Rs G s n (2 * q) (r0 + q) (2 * c) j (s * (j * c))).2 = D2 at *
  refine ⟨⟨B1.f1, B1.f2, ?_, ?_⟩, ⟨B2.f1, B2.f2, ?_, ?_⟩⟩
  · rw [t1]
    exact nxt_ok (fin_step hU0 hW (T2 := V u.1 - A1) (T3 := V r.1 * (V v.1 - C1) - V r.2 * (V v.2 - C2)) (T4 := V r.1 * C1 - V r.2 * C2 - UU * D1) (by grind) B1.e1 hu1 q1 m1)
  · rw [t2]
    exact nxt_ok (fin_step hU0 hW (T2 := V u.2 - A2) (T3 := V r.1 * (V v.2 - C2) + V r.2 * (V v.1 - C1)) (T4 := V r.1 * C2 + V r.2 * C1 - UU * D2) (by grind) B1.e2 hu2 q2 m2)
  · rw [t3]
    exact nxt_ok (fin_step hU0 hW (T2 := V u.1 - A1) (T3 := -(V r.1 * (V v.1 - C1) - V r.2 * (V v.2 - C2))) (T4 := -(V r.1 * C1 - V r.2 * C2 - UU * D1)) (by grind) B2.e1 hu1 (by rw [Int.natAbs_neg]; exact q1) (by rw [Int.natAbs_neg]; exact m1))
  · rw [t4]
    exact nxt_ok (fin_step hU0 hW (T2 := V u.2 - A2) (T3 := -(V r.1 * (V v.2 - C2) + V r.2 * (V v.1 - C1))) (T4 := -(V r.1 * C2 + V r.2 * C1 - UU * D2)) (by grind) B2.e2 hu2 (by rw [Int.natAbs_neg]; exact q2) (by rw [Int.natAbs_neg]; exact m2))
end Go.Proofs.Ygctak.Ft
