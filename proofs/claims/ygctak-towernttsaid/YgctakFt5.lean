/-
  A stage of butterflies, and all of them: how near the doubles come to the sums that they stand for.
-/
import Derived.Test.YgctakFt4
set_option linter.unusedVariables false
set_option linter.unusedSimpArgs false
namespace Go.Proofs.Ygctak.Ft
open Fl Sh

/-- 2^-50, in units of 2^-1074. -/
@[irreducible] def WU : Nat := 2 ^ 1024
theorem WU_UU : UU = 2 ^ 50 * WU := by
  rw [UU_eq]; unfold WU
  exact pow_split 1074 50 1024 (by omega)
theorem WU_pos : 0 < WU := by
  have h := UU_pos
  rw [WU_UU] at h
  exact Nat.pos_of_mul_pos_left h |> fun _ => by
    rcases Nat.eq_zero_or_pos WU with h0 | h0
    · rw [h0] at h; simp at h
    · exact h0

/-- The doubles z lie within e of R. -/
structure Near (e : Nat) (z : Nat × Nat) (R : Int × Int) : Prop where
  f1 : Finite z.1
  f2 : Finite z.2
  d1 : (V z.1 - R.1).natAbs ≤ e
  d2 : (V z.2 - R.2).natAbs ≤ e

/-- What the sums are made of: index i, phase p. -/
structure Fam (G : Nat → Int → Int × Int) (rv : Int → Int × Int) (s : Int) (N L : Nat) : Prop where
  sgn : s = 1 ∨ s = -1
  per : ∀ i p q, G i (p + 1024 * q) = G i p
  anti : ∀ i p, G i (p + 512) = (-(G i p).1, -(G i p).2)
  b1 : ∀ i p, i < N → (G i p).1.natAbs ≤ L * UU
  b2 : ∀ i p, i < N → (G i p).2.natAbs ≤ L * UU
  m1 : ∀ i p a, i < N → 2 ^ 49 * ((rv a).1 * (G i p).1 - (rv a).2 * (G i p).2 - UU * (G i (p + s * a)).1).natAbs ≤ L * (UU * UU)
  m2 : ∀ i p a, i < N → 2 ^ 49 * ((rv a).1 * (G i p).2 + (rv a).2 * (G i p).1 - UU * (G i (p + s * a)).2).natAbs ≤ L * (UU * UU)

/-- n terms from r0 on, every q-th, the phase going up by s*j*u, from p0 on. -/
def Rs (G : Nat → Int → Int × Int) (s : Int) (n q r0 : Nat) (u : Int) (j : Nat) (p : Int) : Int × Int :=
  (sm (fun m => (G (r0 + m * q) (s * (m * j * u) + p)).1) n, sm (fun m => (G (r0 + m * q) (s * (m * j * u) + p)).2) n)

theorem Rs_bd {G : Nat → Int → Int × Int} {rv : Int → Int × Int} {s : Int} {N L : Nat} (h : Fam G rv s N L) (n q r0 : Nat) (u : Int) (j : Nat) (p : Int) (hr : ∀ m, m < n → r0 + m * q < N) :
    (Rs G s n q r0 u j p).1.natAbs ≤ n * (L * UU) ∧ (Rs G s n q r0 u j p).2.natAbs ≤ n * (L * UU) :=
  ⟨sm_bound fun m hm => h.b1 _ _ (hr m hm), sm_bound fun m hm => h.b2 _ _ (hr m hm)⟩

/-- The root times a sum is near the shifted sum. -/
theorem Rs_shift {G : Nat → Int → Int × Int} {rv : Int → Int × Int} {s : Int} {N L : Nat} (h : Fam G rv s N L) (n q r0 : Nat) (u : Int) (j : Nat) (a : Int) (hr : ∀ m, m < n → r0 + m * q < N) :
    2 ^ 49 * ((rv a).1 * (Rs G s n q r0 u j 0).1 - (rv a).2 * (Rs G s n q r0 u j 0).2 - UU * (Rs G s n q r0 u j (s * a)).1).natAbs ≤ n * (L * (UU * UU)) ∧
    2 ^ 49 * ((rv a).1 * (Rs G s n q r0 u j 0).2 + (rv a).2 * (Rs G s n q r0 u j 0).1 - UU * (Rs G s n q r0 u j (s * a)).2).natAbs ≤ n * (L * (UU * UU)) := by
  have key : ∀ (c : Int) (f : Nat → Int) (g : Nat → Int) (d : Int) (o : Nat → Int), c * sm f n - d * sm g n - UU * sm o n = sm (fun m => c * f m - d * g m - UU * o m) n := by
    intro c f g d o
    rw [sm_sub (fun m => c * f m - d * g m) (fun m => UU * o m), sm_sub (fun m => c * f m) (fun m => d * g m), sm_mul, sm_mul, sm_mul]
  have key2 : ∀ (c : Int) (f : Nat → Int) (g : Nat → Int) (d : Int) (o : Nat → Int), c * sm f n + d * sm g n - UU * sm o n = sm (fun m => c * f m + d * g m - UU * o m) n := by
    intro c f g d o
    rw [sm_sub (fun m => c * f m + d * g m) (fun m => UU * o m), sm_add (fun m => c * f m) (fun m => d * g m), sm_mul, sm_mul, sm_mul]
  have fin : ∀ (f : Nat → Int) (B : Nat), (∀ m, m < n → 2 ^ 49 * (f m).natAbs ≤ B) → 2 ^ 49 * (sm f n).natAbs ≤ n * B := by
    intro f B hf
    have h1 : (sm (fun m => (2 ^ 49 : Int) * f m) n).natAbs ≤ n * B := sm_bound fun m hm => by
      rw [Int.natAbs_mul]; exact hf m hm
    rw [sm_mul, Int.natAbs_mul] at h1
    exact h1
  unfold Rs
  constructor
  · simp only
    rw [key]
    refine fin _ _ fun m hm => ?_
    have := h.m1 (r0 + m * q) (s * (m * j * u) + 0) a (hr m hm)
    rw [show s * (m * j * u) + 0 + s * a = s * (m * j * u) + s * a by omega] at this
    exact this
  · simp only
    rw [key2]
    refine fin _ _ fun m hm => ?_
    have := h.m2 (r0 + m * q) (s * (m * j * u) + 0) a (hr m hm)
    rw [show s * (m * j * u) + 0 + s * a = s * (m * j * u) + s * a by omega] at this
    exact this

/-- Twice as many terms: the even ones and the odd ones. -/
theorem Rs_two (G : Nat → Int → Int × Int) (s : Int) (n q r0 : Nat) (u : Int) (j : Nat) :
    (Rs G s (2 * n) q r0 u j 0).1 = (Rs G s n (2 * q) r0 (2 * u) j 0).1 + (Rs G s n (2 * q) (r0 + q) (2 * u) j (s * (j * u))).1 ∧
    (Rs G s (2 * n) q r0 u j 0).2 = (Rs G s n (2 * q) r0 (2 * u) j 0).2 + (Rs G s n (2 * q) (r0 + q) (2 * u) j (s * (j * u))).2 := by
  have e1 : ∀ m : Nat, r0 + 2 * m * q = r0 + m * (2 * q) := fun m => by grind
  have e2 : ∀ m : Nat, r0 + (2 * m + 1) * q = r0 + q + m * (2 * q) := fun m => by grind
  have e3 : ∀ m : Nat, s * (((2 * m : Nat) : Int) * j * u) + 0 = s * ((m : Int) * j * (2 * u)) + 0 := fun m => by push_cast; grind
  have e4 : ∀ m : Nat, s * (((2 * m + 1 : Nat) : Int) * j * u) + 0 = s * ((m : Int) * j * (2 * u)) + s * (j * u) := fun m => by push_cast; grind
  unfold Rs
  constructor
  · simp only
    rw [sm_two]
    congr 1
    · exact sm_congr fun m _ => by rw [e1, e3]
    · exact sm_congr fun m _ => by rw [e2, e4]
  · simp only
    rw [sm_two]
    congr 1
    · exact sm_congr fun m _ => by rw [e1, e3]
    · exact sm_congr fun m _ => by rw [e2, e4]

/-- The upper half of a block: the even terms are the same, the odd ones turn their sign. -/
theorem Rs_up {G : Nat → Int → Int × Int} {rv : Int → Int × Int} {s : Int} {N L : Nat} (h : Fam G rv s N L) (n q r0 c : Nat) (j : Nat) (hc : n * c = 512) :
    Rs G s n q r0 (2 * c) (j + n) 0 = Rs G s n q r0 (2 * c) j 0 ∧ Rs G s n q r0 (2 * c) (j + n) (s * ((j + n : Nat) * c)) = (-(Rs G s n q r0 (2 * c) j (s * (j * c))).1, -(Rs G s n q r0 (2 * c) j (s * (j * c))).2) := by
  have hnc : (n : Int) * c = 512 := by rw [← Int.natCast_mul, hc]; rfl
  have a1 : ∀ m : Nat, s * ((m : Int) * ((j + n : Nat) : Int) * (2 * c)) + 0 = s * ((m : Int) * j * (2 * c)) + 0 + 1024 * (s * m) := fun m => by
    push_cast
    have : s * ((m : Int) * (j + n) * (2 * c)) = s * ((m : Int) * j * (2 * c)) + 2 * (s * m) * (n * c) := by grind
    rw [this, hnc]; omega
  have a2 : ∀ (m : Nat) i, G i (s * ((m : Int) * ((j + n : Nat) : Int) * (2 * c)) + s * (((j + n : Nat) : Int) * c)) = (-(G i (s * ((m : Int) * j * (2 * c)) + s * (j * c))).1, -(G i (s * ((m : Int) * j * (2 * c)) + s * (j * c))).2) := fun m i => by
    push_cast
    have : s * ((m : Int) * (j + n) * (2 * c)) + s * ((j + n) * c) = s * ((m : Int) * j * (2 * c)) + s * (j * c) + 2 * (s * m) * (n * c) + s * (n * c) := by grind
    rw [this, hnc]
    rcases h.sgn with hs | hs
    · rw [hs, ← h.anti, ← h.per i (1 * ((m : Int) * j * (2 * c)) + 1 * (j * c) + 512) (1 * m)]
      congr 1; omega
    · rw [hs, ← h.anti, ← h.per i (-1 * ((m : Int) * j * (2 * c)) + -1 * (j * c) + 512) (-1 * m - 1)]
      congr 1; omega
  constructor
  · unfold Rs
    congr 1
    · exact sm_congr fun m _ => by rw [a1, h.per]
    · exact sm_congr fun m _ => by rw [a1, h.per]
  · unfold Rs
    rw [← sm_neg, ← sm_neg]
    congr 1
    · exact sm_congr fun m _ => by rw [a2]
    · exact sm_congr fun m _ => by rw [a2]
end Go.Proofs.Ygctak.Ft
