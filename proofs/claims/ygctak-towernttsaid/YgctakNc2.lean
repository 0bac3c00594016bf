/-
  The modular transform, plainly: the passes; what transform leaves.
-/
import Derived.Test.YgctakNc1
set_option linter.unusedVariables false
set_option linter.unusedSimpArgs false
namespace Go.Proofs.Ygctak.Nc
open Ntt (mulm fold rat times cut2 last swap revGo revNext firstOne firstGo facGo blkOne blkGo passGo pick passesGo tab trans fwd bwd root inv)
open Ft (sm sm_congr sm_add sm_sub sm_mul sm_neg sm_zero sm_two sm_append sm_swap rev rev_lt rev_rev odd_split)

/-- What t passes have made of block b, entry j; s passes are left. -/
def Rt (x : Nat → Int) (w : Int) (t s b j : Nat) : Int := sm (fun m => x (rev s b + m * 2 ^ s) * w ^ (m * j * 2 ^ s)) (2 ^ t)
theorem Rt_low (x : Nat → Int) (w : Int) (t s b j : Nat) : Rt x w (t + 1) s b j = Rt x w t (s + 1) (2 * b) j + w ^ (j * 2 ^ s) * Rt x w t (s + 1) (2 * b + 1) j := by
  unfold Rt
  rw [Nat.pow_succ 2 t, Nat.mul_comm (2 ^ t) 2, sm_two, ← sm_mul]
  have r0 : rev (s + 1) (2 * b) = rev s b := by
    rw [rev, show 2 * b % 2 = 0 by omega, show 2 * b / 2 = b by omega]; omega
  have r1 : rev (s + 1) (2 * b + 1) = 2 ^ s + rev s b := by
    rw [rev, show (2 * b + 1) % 2 = 1 by omega, show (2 * b + 1) / 2 = b by omega]; omega
  rw [r0, r1]
  congr 1
  · refine sm_congr fun m _ => ?_
    rw [show 2 * m * 2 ^ s = m * 2 ^ (s + 1) by rw [Nat.pow_succ]; grind, show 2 * m * j * 2 ^ s = m * j * 2 ^ (s + 1) by rw [Nat.pow_succ]; grind]
  · refine sm_congr fun m _ => ?_
    rw [show rev s b + (2 * m + 1) * 2 ^ s = 2 ^ s + rev s b + m * 2 ^ (s + 1) by rw [Nat.pow_succ]; grind, show (2 * m + 1) * j * 2 ^ s = j * 2 ^ s + m * j * 2 ^ (s + 1) by rw [Nat.pow_succ]; grind, Int.pow_add]
    grind
theorem Rt_high (x : Nat → Int) (w : Int) (t s b j : Nat) (hw : Cg (w ^ 2 ^ (t + s)) (-1)) : Cg (Rt x w (t + 1) s b (j + 2 ^ t)) (Rt x w t (s + 1) (2 * b) j - w ^ (j * 2 ^ s) * Rt x w t (s + 1) (2 * b + 1) j) := by
  rw [Rt_low]
  have h1 : ∀ c, Cg (Rt x w t (s + 1) c (j + 2 ^ t)) (Rt x w t (s + 1) c j) := fun c => by
    unfold Rt
    refine Cg.sm fun m _ => (Cg.refl _).mul ?_
    have e : m * (j + 2 ^ t) * 2 ^ (s + 1) = m * j * 2 ^ (s + 1) + 2 ^ (t + s) * (2 * m) := by rw [Nat.pow_succ, Nat.pow_add]; grind
    have e5 : w ^ (2 ^ (t + s) * (2 * m)) = (w ^ 2 ^ (t + s)) ^ (2 * m) := Int.pow_mul
    rw [e, Int.pow_add, e5]
    have h2 := hw.pow (2 * m)
    have h3 : (-1 : Int) ^ (2 * m) = 1 := by rw [Int.pow_mul]; rw [show (-1 : Int) ^ 2 = 1 by rfl, Int.one_pow]
    rw [h3] at h2
    have := (Cg.refl (w ^ (m * j * 2 ^ (s + 1)))).mul h2
    rwa [Int.mul_one] at this
  have h4 : Cg (w ^ ((j + 2 ^ t) * 2 ^ s)) (-w ^ (j * 2 ^ s)) := by
    rw [show (j + 2 ^ t) * 2 ^ s = j * 2 ^ s + 2 ^ (t + s) by rw [Nat.pow_add, Nat.add_mul], Int.pow_add]
    have := (Cg.refl (w ^ (j * 2 ^ s))).mul hw
    rwa [Int.mul_neg, Int.mul_one] at this
  have h5 := (h1 (2 * b)).add (h4.mul (h1 (2 * b + 1)))
  rw [Int.neg_mul, ← Int.sub_eq_add_neg] at h5
  exact h5

theorem lo_spec {r u v : Int} (r0 : 0 ≤ r) (r1 : r < 998244353) (u0 : 0 ≤ u) (u1 : u < 3992977412) (v0 : 0 ≤ v) (v1 : v < 3992977412) : Cg (lo r u v) (u + r * v) ∧ 0 ≤ lo r u v ∧ lo r u v < 3992977412 := by
  obtain ⟨a1, a2, a3⟩ := cut2_spec u0 u1
  obtain ⟨b1, b2, b3⟩ := times_spec r0 r1 v0 (by omega)
  have e : lo r u v = cut2 u + times r (rat r) v := by unfold lo; omega
  rw [e]
  exact ⟨a1.add b1, by omega, by omega⟩
theorem hi_spec {r u v : Int} (r0 : 0 ≤ r) (r1 : r < 998244353) (u0 : 0 ≤ u) (u1 : u < 3992977412) (v0 : 0 ≤ v) (v1 : v < 3992977412) : Cg (hi r u v) (u - r * v) ∧ 0 ≤ hi r u v ∧ hi r u v < 3992977412 := by
  obtain ⟨a1, a2, a3⟩ := cut2_spec u0 u1
  obtain ⟨b1, b2, b3⟩ := times_spec r0 r1 v0 (by omega)
  have e : hi r u v = cut2 u - times r (rat r) v + 1996488706 := by unfold hi; omega
  rw [e]
  have h2 : Cg 1996488706 0 := ⟨2, by omega⟩
  have := (a1.sub b1).add h2
  rw [Int.add_zero] at this
  exact ⟨this, by omega, by omega⟩

/-- After t passes. -/
def Inv (x : Nat → Int) (w : Int) (t s : Nat) (xs : List Int) : Prop :=
  xs.length = 2 ^ (t + s) ∧ ∀ b j, b < 2 ^ s → j < 2 ^ t → 0 ≤ xs.getD (b * 2 ^ t + j) 0 ∧ xs.getD (b * 2 ^ t + j) 0 < 3992977412 ∧ Cg (xs.getD (b * 2 ^ t + j) 0) (Rt x w t s b j)

theorem pick_get (T : List Int) (half step j : Nat) (hj : j < half) : (pick T half step).getD j 0 = T.getD (j * step) 0 := by
  unfold pick
  rw [List.getD_eq_getElem?_getD, List.getElem?_map, List.getElem?_range hj]; rfl

theorem pass_inv (x : Nat → Int) (w : Int) (k t s : Nat) (hk : t + 1 + s = k) (w0 : 0 ≤ w) (w1 : w < 998244353) (hw : Cg (w ^ 2 ^ (k - 1)) (-1)) (xs : List Int) (h : Inv x w t (s + 1) xs) :
    Inv x w (t + 1) s (passGo (pick (tab k w) (2 ^ t) (2 ^ s)) (2 ^ t) (2 ^ s) 0 xs) := by
  obtain ⟨hl, hv⟩ := h
  have hp : 0 < 2 ^ t := Nat.two_pow_pos t
  refine ⟨by rw [passGo_length, hl]; congr 1; omega, fun b j hb hj => ?_⟩
  have hlen : (0 + 2 ^ s) * (2 * 2 ^ t) ≤ xs.length := by
    rw [hl, Nat.zero_add, show t + (s + 1) = s + (t + 1) by omega, Nat.pow_add, Nat.pow_succ 2 t, Nat.mul_comm 2]; exact Nat.le_refl _
  have hR : ∀ q, q < 2 ^ t → (pick (tab k w) (2 ^ t) (2 ^ s)).getD q 0 = w ^ (q * 2 ^ s) % 998244353 := fun q hq => by
    rw [pick_get _ _ _ _ hq]
    refine tab_get k (by omega) w w0 w1 _ ?_
    have : (q + 1) * 2 ^ s ≤ 2 ^ t * 2 ^ s := Nat.mul_le_mul_right _ (by omega)
    rw [← Nat.pow_add, show t + s = k - 1 by omega, Nat.add_mul] at this
    have := Nat.two_pow_pos s
    omega
  have hb2 : ∀ c, c < 2 → 2 * b + c < 2 ^ (s + 1) := fun c hc => by rw [Nat.pow_succ]; omega
  have core : ∀ q, q < 2 ^ t → (0 ≤ (passGo (pick (tab k w) (2 ^ t) (2 ^ s)) (2 ^ t) (2 ^ s) 0 xs).getD (b * 2 ^ (t + 1) + q) 0 ∧ (passGo (pick (tab k w) (2 ^ t) (2 ^ s)) (2 ^ t) (2 ^ s) 0 xs).getD (b * 2 ^ (t + 1) + q) 0 < 3992977412 ∧ Cg ((passGo (pick (tab k w) (2 ^ t) (2 ^ s)) (2 ^ t) (2 ^ s) 0 xs).getD (b * 2 ^ (t + 1) + q) 0) (Rt x w (t + 1) s b q)) ∧
      (0 ≤ (passGo (pick (tab k w) (2 ^ t) (2 ^ s)) (2 ^ t) (2 ^ s) 0 xs).getD (b * 2 ^ (t + 1) + (q + 2 ^ t)) 0 ∧ (passGo (pick (tab k w) (2 ^ t) (2 ^ s)) (2 ^ t) (2 ^ s) 0 xs).getD (b * 2 ^ (t + 1) + (q + 2 ^ t)) 0 < 3992977412 ∧ Cg ((passGo (pick (tab k w) (2 ^ t) (2 ^ s)) (2 ^ t) (2 ^ s) 0 xs).getD (b * 2 ^ (t + 1) + (q + 2 ^ t)) 0) (Rt x w (t + 1) s b (q + 2 ^ t))) := fun q hq => by
    obtain ⟨g1, g2⟩ := passGo_get (pick (tab k w) (2 ^ t) (2 ^ s)) (2 ^ t) hp (2 ^ s) 0 xs b q hlen hq (Nat.zero_le _) (by omega)
    rw [Nat.zero_mul] at g1 g2
    have i1 : b * (2 * 2 ^ t) + q = 2 * b * 2 ^ t + q := by grind
    have i2 : b * (2 * 2 ^ t) + 2 ^ t + q = (2 * b + 1) * 2 ^ t + q := by grind
    have i3 : b * 2 ^ (t + 1) + q = 2 * b * 2 ^ t + q := by rw [Nat.pow_succ]; grind
    have i4 : b * 2 ^ (t + 1) + (q + 2 ^ t) = (2 * b + 1) * 2 ^ t + q := by rw [Nat.pow_succ]; grind
    rw [i1, i2] at g1 g2
    rw [i3, i4]
    obtain ⟨u0, u1, u2⟩ := hv (2 * b) q (hb2 0 (by omega)) hq
    obtain ⟨v0, v1, v2⟩ := hv (2 * b + 1) q (hb2 1 (by omega)) hq
    rw [hR q hq] at g1 g2
    have r0 : 0 ≤ w ^ (q * 2 ^ s) % 998244353 := by omega
    have r1 : w ^ (q * 2 ^ s) % 998244353 < 998244353 := by omega
    obtain ⟨l1, l2, l3⟩ := lo_spec r0 r1 u0 u1 v0 v1
    obtain ⟨m1, m2, m3⟩ := hi_spec r0 r1 u0 u1 v0 v1
    rw [g1, g2]
    refine ⟨⟨l2, l3, l1.trans ?_⟩, ⟨m2, m3, m1.trans ?_⟩⟩
    · rw [Rt_low]
      exact u2.add ((Cg.emod _).mul v2)
    · exact (u2.sub ((Cg.emod _).mul v2)).trans (Rt_high x w t s b q (by rw [show t + s = k - 1 by omega]; exact hw)).symm
  rcases Nat.lt_or_ge j (2 ^ t) with h1 | h1
  · exact (core j h1).1
  · have := (core (j - 2 ^ t) (by rw [Nat.pow_succ] at hj; omega)).2
    rw [show j - 2 ^ t + 2 ^ t = j by omega] at this
    exact this

theorem passes_inv (x : Nat → Int) (w : Int) (k : Nat) (w0 : 0 ≤ w) (w1 : w < 998244353) (hw : Cg (w ^ 2 ^ (k - 1)) (-1)) : ∀ (f t : Nat) (xs : List Int), t + f = k → Inv x w t f xs → Inv x w k 0 (passesGo (tab k w) k f (t + 1) xs)
  | 0, t, xs, h, hi => by
    rw [passesGo]
    have : t = k := by omega
    subst this
    exact hi
  | f + 1, t, xs, h, hi => by
    rw [passesGo, Nat.add_sub_cancel, show k - (t + 1) = f by omega]
    exact passes_inv x w k w0 w1 hw f (t + 1) _ (by omega) (pass_inv x w k t f (by omega) w0 w1 hw xs hi)

theorem first_inv (w : Int) (k : Nat) (h1 : 1 ≤ k) (hk : k ≤ 64) (hw : Cg (w ^ 2 ^ (k - 1)) (-1)) (xs : List Int) (hl : xs.length = 2 ^ k) (hx : ∀ i, i < 2 ^ k → 0 ≤ xs.getD i 0 ∧ xs.getD i 0 < 998244353) :
    Inv (fun i => xs.getD i 0) w 1 (k - 1) (firstGo (xs.length / 2) 0 (Ntt.rev xs)) := by
  have e2 : 2 ^ k = 2 * 2 ^ (k - 1) := by conv => lhs; rw [show k = (k - 1) + 1 by omega, Nat.pow_succ, Nat.mul_comm]
  refine ⟨by rw [firstGo_length, rev_length, hl]; congr 1; omega, fun b j hb hj => ?_⟩
  have hh : xs.length / 2 = 2 ^ (k - 1) := by rw [hl, e2]; omega
  obtain ⟨g1, g2⟩ := firstGo_get (2 ^ (k - 1)) 0 (Ntt.rev xs) b (by rw [rev_length, hl]; omega) (Nat.zero_le _) (by omega)
  rw [Nat.mul_zero, rev_get k hk xs hl _ (by omega), rev_get k hk xs hl _ (by omega)] at g1 g2
  rw [hh]
  obtain ⟨p0, p1⟩ := hx (rev k (2 * b)) (rev_lt _ _)
  obtain ⟨q0, q1⟩ := hx (rev k (2 * b + 1)) (rev_lt _ _)
  have hz : ∀ c, Rt (fun i => xs.getD i 0) w 0 (k - 1 + 1) c 0 = xs.getD (rev k c) 0 := fun c => by
    unfold Rt
    rw [Nat.pow_zero, show k - 1 + 1 = k by omega]
    simp [sm]
  have j2 : j = 0 ∨ j = 1 := by simp at hj; omega
  rcases j2 with rfl | rfl
  · rw [show b * 2 ^ 1 + 0 = 2 * b by omega, g1]
    refine ⟨by omega, by omega, ?_⟩
    have := Rt_low (fun i => xs.getD i 0) w 0 (k - 1) b 0
    rw [hz, hz, Nat.zero_mul, Int.pow_zero, Int.one_mul] at this
    rw [this]
    exact Cg.of (by omega)
  · rw [show b * 2 ^ 1 + 1 = 2 * b + 1 by omega, g2]
    refine ⟨by omega, by omega, ?_⟩
    have := Rt_high (fun i => xs.getD i 0) w 0 (k - 1) b 0 (by rw [Nat.zero_add]; exact hw)
    rw [hz, hz, Nat.zero_mul, Int.pow_zero, Int.one_mul, Nat.pow_zero, Nat.zero_add] at this
    refine Cg.trans ?_ this.symm
    exact ⟨1, by omega⟩

/-- WHAT transform LEAVES. -/
theorem trans_get (w : Int) (k : Nat) (h1 : 1 ≤ k) (hk : k ≤ 64) (w0 : 0 ≤ w) (w1 : w < 998244353) (hw : Cg (w ^ 2 ^ (k - 1)) (-1)) (xs : List Int) (hl : xs.length = 2 ^ k) (hx : ∀ i, i < 2 ^ k → 0 ≤ xs.getD i 0 ∧ xs.getD i 0 < 998244353) (j : Nat) (hj : j < 2 ^ k) :
    0 ≤ (Ntt.trans xs k w).getD j 0 ∧ (Ntt.trans xs k w).getD j 0 < 998244353 ∧ Cg ((Ntt.trans xs k w).getD j 0) (sm (fun m => xs.getD m 0 * w ^ (m * j)) (2 ^ k)) := by
  have h := passes_inv (fun i => xs.getD i 0) w k w0 w1 hw (k - 1) 1 _ (by omega) (first_inv w k h1 hk hw xs hl hx)
  obtain ⟨hl2, hv⟩ := h
  obtain ⟨a1, a2, a3⟩ := hv 0 j (by decide) hj
  rw [Nat.zero_mul, Nat.zero_add] at a1 a2 a3
  unfold Ntt.trans
  have e : ((passesGo (tab k w) k (k - 1) 2 (firstGo (xs.length / 2) 0 (Ntt.rev xs))).map last).getD j 0 = last ((passesGo (tab k w) k (k - 1) 2 (firstGo (xs.length / 2) 0 (Ntt.rev xs))).getD j 0) := by
    rw [List.getD_eq_getElem?_getD, List.getElem?_map, List.getD_eq_getElem?_getD, List.getElem?_eq_getElem (by rw [hl2, Nat.add_zero]; exact hj)]
    rfl
  rw [e]
  obtain ⟨b1, b2, b3⟩ := last_spec a1 a2
  refine ⟨b2, b3, b1.trans (a3.trans (Cg.of ?_))⟩
  unfold Rt
  refine sm_congr fun m _ => ?_
  rw [rev, Nat.pow_zero, Nat.zero_add, Nat.mul_one, Nat.mul_one]
end Go.Proofs.Ygctak.Nc
