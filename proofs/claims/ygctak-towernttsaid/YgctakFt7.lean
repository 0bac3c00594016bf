/-
  All stages; the families of sums.
-/
import Derived.Test.YgctakFt6
set_option linter.unusedVariables false
set_option linter.unusedSimpArgs false
namespace Go.Proofs.Ygctak.Ft
open Fl Sh

/-- One stage on the points alone. -/
def zst (z : Nat → Nat × Nat) (r : Nat → Nat × Nat) (half i : Nat) : Nat × Nat :=
  if i % (2 * half) < half then cadd (z i) (cmul (z (i + half)) (r (i % half))) else csub (z (i - half)) (cmul (z i) (r (i % half)))

/-- The points behind t stages. -/
def At (G : Nat → Int → Int × Int) (s : Int) (k t e : Nat) (z : Nat → Nat × Nat) : Prop :=
  ∀ b j, b < 2 ^ (k - t) → j < 2 ^ t → Near (e * WU) (z (b * 2 ^ t + j)) (Rs G s (2 ^ t) (2 ^ (k - t)) (rev (k - t) b) ((2 ^ (10 - t) : Nat) : Int) j 0)

theorem stage_all {G : Nat → Int → Int × Int} {rv : Int → Int × Int} {s : Int} {k L t e : Nat} {z r : Nat → Nat × Nat} (h : Fam G rv s (2 ^ k) L) (hk : k ≤ 10) (ht : t < k) (hL : 1 ≤ L) (hL2 : L ≤ 2 ^ 40) (he : e ≤ 2 ^ t * L * 2 ^ 50)
    (hz : At G s k t e z) (hr : ∀ j, j < 2 ^ t → Root (r j) (rv ((j : Int) * ((2 ^ (9 - t) : Nat) : Int)))) : At G s k (t + 1) (nxt e (2 ^ t) L) (zst z r (2 ^ t)) := by
  intro b j hb hj
  obtain ⟨q', hq'⟩ : ∃ q', q' = k - t - 1 := ⟨_, rfl⟩
  have e1 : k - (t + 1) = q' := by omega
  have e2 : k - t = q' + 1 := by omega
  rw [e1] at hb ⊢
  have hp1 : 2 ^ (q' + 1) = 2 * 2 ^ q' := by rw [Nat.pow_succ, Nat.mul_comm]
  have hp2 : 2 ^ (t + 1) = 2 * 2 ^ t := by rw [Nat.pow_succ, Nat.mul_comm]
  have hp3 : 10 - t = 9 - t + 1 := by omega
  have hc : 2 ^ t * 2 ^ (9 - t) = 512 := by rw [← Nat.pow_add, show t + (9 - t) = 9 by omega]
  have hN : 2 ^ k = 2 ^ t * (2 * 2 ^ q') := by rw [← hp1, ← Nat.pow_add, show t + (q' + 1) = k by omega]
  have ht10 : 2 ^ t ≤ 512 := by
    have := Nat.pow_le_pow_right (n := 2) (by omega) (show t ≤ 9 by omega)
    omega
  have hnL : 2 * 2 ^ t * L ≤ 2 ^ 60 := by
    have : 2 * 2 ^ t * L ≤ 1024 * 2 ^ 40 := Nat.mul_le_mul (by omega) hL2
    omega
  have he2 : e * WU ≤ 2 ^ t * (L * UU) := by
    have := Nat.mul_le_mul_right WU he
    have e5 : 2 ^ t * L * 2 ^ 50 * WU = 2 ^ t * (L * (2 ^ 50 * WU)) := by grind
    rw [WU_UU, ← e5]; exact this
  have hrl := rev_lt q' b
  have hle : ∀ m, m < 2 ^ t → m * (2 * 2 ^ q') + 2 * 2 ^ q' ≤ 2 ^ k := fun m hm => by
    rw [hN]
    have := Nat.mul_le_mul_right (2 * 2 ^ q') (show m + 1 ≤ 2 ^ t by omega)
    rw [Nat.add_mul, Nat.one_mul] at this
    exact this
  have u0 := hz (2 * b) 
  have u1 := hz (2 * b + 1)
  rw [e2, hp1] at u0 u1
  rw [show rev (q' + 1) (2 * b) = rev q' b by simp only [rev]; rw [show 2 * b % 2 = 0 by omega, show 2 * b / 2 = b by omega, Nat.zero_mul, Nat.zero_add]] at u0
  rw [show rev (q' + 1) (2 * b + 1) = rev q' b + 2 ^ q' by simp only [rev]; rw [show (2 * b + 1) % 2 = 1 by omega, show (2 * b + 1) / 2 = b by omega, Nat.one_mul, Nat.add_comm]] at u1
  have hph : ((2 ^ (10 - t) : Nat) : Int) = 2 * ((2 ^ (9 - t) : Nat) : Int) := by rw [hp3, Nat.pow_succ]; omega
  rw [hph] at u0 u1
  have key : ∀ i, i < 2 ^ t → Near (nxt e (2 ^ t) L * WU) (cadd (z (2 * b * 2 ^ t + i)) (cmul (z ((2 * b + 1) * 2 ^ t + i)) (r i))) (Rs G s (2 * 2 ^ t) (2 ^ q') (rev q' b) ((2 ^ (9 - t) : Nat) : Int) i 0) ∧
      Near (nxt e (2 ^ t) L * WU) (csub (z (2 * b * 2 ^ t + i)) (cmul (z ((2 * b + 1) * 2 ^ t + i)) (r i))) (Rs G s (2 * 2 ^ t) (2 ^ q') (rev q' b) ((2 ^ (9 - t) : Nat) : Int) (i + 2 ^ t) 0) := fun i hi =>
    near_bfly h (Nat.two_pow_pos t) hL hnL hc he2 (fun m hm => by have := hle m hm; omega) (fun m hm => by have := hle m hm; omega) (u0 i (by omega) hi) (u1 i (by omega) hi) (hr i hi)
  have hpos : b * 2 ^ (t + 1) = 2 * b * 2 ^ t := by rw [hp2]; grind
  have hpos2 : (2 * b + 1) * 2 ^ t = 2 * b * 2 ^ t + 2 ^ t := by rw [Nat.add_mul, Nat.one_mul]
  have hph2 : ((2 ^ (10 - (t + 1)) : Nat) : Int) = ((2 ^ (9 - t) : Nat) : Int) := by rw [show 10 - (t + 1) = 9 - t by omega]
  rw [hph2, hpos, hp2]
  unfold zst
  rw [hp2] at hj
  have hmod : (2 * b * 2 ^ t + j) % (2 * 2 ^ t) = j := by
    rw [show 2 * b * 2 ^ t = 2 * 2 ^ t * b by grind, Nat.mul_add_mod, Nat.mod_eq_of_lt hj]
  rw [hmod]
  by_cases hlt : j < 2 ^ t
  · have k1 := (key j hlt).1
    have hm2 : (2 * b * 2 ^ t + j) % 2 ^ t = j := by
      rw [show 2 * b * 2 ^ t = 2 ^ t * (2 * b) by grind, Nat.mul_add_mod, Nat.mod_eq_of_lt hlt]
    rw [if_pos hlt, hm2, show 2 * b * 2 ^ t + j + 2 ^ t = (2 * b + 1) * 2 ^ t + j by rw [hpos2]; omega]
    exact k1
  · obtain ⟨i, rfl⟩ : ∃ i, j = i + 2 ^ t := ⟨j - 2 ^ t, by omega⟩
    have k1 := (key i (by omega)).2
    have hm2 : (2 * b * 2 ^ t + (i + 2 ^ t)) % 2 ^ t = i := by
      rw [show 2 * b * 2 ^ t + (i + 2 ^ t) = 2 ^ t * (2 * b + 1) + i by grind, Nat.mul_add_mod, Nat.mod_eq_of_lt (by omega)]
    rw [if_neg hlt, hm2, show 2 * b * 2 ^ t + (i + 2 ^ t) - 2 ^ t = 2 * b * 2 ^ t + i by omega, show 2 * b * 2 ^ t + (i + 2 ^ t) = (2 * b + 1) * 2 ^ t + i by rw [hpos2]; omega]
    exact k1

/-! ### the families -/
/-- 2^-62, in units of 2^-1074. -/
@[irreducible] def SC : Nat := 2 ^ 1012
theorem SC_UU : UU = 2 ^ 62 * SC := by
  rw [UU_eq]; unfold SC
  exact pow_split 1074 62 1012 (by omega)

theorem SC_int : (UU : Int) = 2 ^ 62 * (SC : Int) := by rw [SC_UU, Int.natCast_mul, Int.natCast_pow]; rfl

/-- K terms: weights w i n, phases f i n. -/
def Gf (K : Nat) (w : Nat → Nat → Int) (f : Nat → Nat → Int) (i : Nat) (p : Int) : Int × Int :=
  (SC * sm (fun n => w i n * (ww (f i n + p)).1) K, SC * sm (fun n => w i n * (ww (f i n + p)).2) K)
/-- The roots, and their conjugates. -/
def rf (a : Int) : Int × Int := (SC * (ww a).1, SC * (ww a).2)
def rb (a : Int) : Int × Int := (SC * (ww a).1, SC * -(ww a).2)

theorem ww_per (p q : Int) : ww (p + 1024 * q) = ww p := cir_mod _ _ _ (by omega)
theorem ww_anti (p : Int) : ww (p + 512) = (-(ww p).1, -(ww p).2) := cir_anti _ _

theorem wsum {K L : Nat} {w : Nat → Int} {g : Nat → Int} {B : Nat} (hw : sm (fun n => ((w n).natAbs : Int)) K ≤ L) (hg : ∀ n, n < K → (g n).natAbs ≤ B) : (sm (fun n => w n * g n) K).natAbs ≤ L * B := by
  have h1 := sm_le (f := fun n => w n * g n) (g := fun n => (w n).natAbs * B) (n := K) (fun n hn => by rw [Int.natAbs_mul]; exact Nat.mul_le_mul_left _ (hg n hn))
  have h2 : sm (fun n => (((w n).natAbs * B : Nat) : Int)) K = (B : Int) * sm (fun n => ((w n).natAbs : Int)) K := by
    rw [← sm_mul]
    exact sm_congr fun n _ => by push_cast; grind
  rw [h2] at h1
  refine Nat.le_trans h1 ?_
  have h3 : (B : Int) * sm (fun n => ((w n).natAbs : Int)) K ≤ B * L := Int.mul_le_mul_of_nonneg_left hw (by omega)
  have h4 : (B : Int) * L = ((L * B : Nat) : Int) := by push_cast; grind
  rw [h4] at h3
  omega

theorem fam_core {K L : Nat} {w : Nat → Int} {x1 x2 g1 g2 o : Nat → Int} {a1 a2 : Int} (hw : sm (fun n => ((w n).natAbs : Int)) K ≤ L) (h : ∀ n, n < K → (a1 * g1 n - a2 * g2 n - 2 ^ 62 * o n).natAbs ≤ 2 ^ 75) :
    2 ^ 49 * ((SC * a1) * (SC * sm (fun n => w n * g1 n) K) - (SC * a2) * (SC * sm (fun n => w n * g2 n) K) - UU * (SC * sm (fun n => w n * o n) K)).natAbs ≤ L * (UU * UU) := by
  have e : (SC * a1 : Int) * (SC * sm (fun n => w n * g1 n) K) - (SC * a2) * (SC * sm (fun n => w n * g2 n) K) - UU * (SC * sm (fun n => w n * o n) K) = ((SC * SC : Nat) : Int) * sm (fun n => w n * (a1 * g1 n - a2 * g2 n - 2 ^ 62 * o n)) K := by
    have e1 : sm (fun n => w n * (a1 * g1 n - a2 * g2 n - 2 ^ 62 * o n)) K = a1 * sm (fun n => w n * g1 n) K - a2 * sm (fun n => w n * g2 n) K - 2 ^ 62 * sm (fun n => w n * o n) K := by
      rw [← sm_mul, ← sm_mul, ← sm_mul, ← sm_sub, ← sm_sub]
      exact sm_congr fun n _ => by grind
    rw [e1, SC_int, Int.natCast_mul]
    grind
  rw [e, abs_scale]
  have h1 := wsum (L := L) (w := w) hw h
  have h2 : UU * UU = 2 ^ 49 * (SC * SC) * 2 ^ 75 := by rw [SC_UU]; grind
  rw [h2]
  have h3 := Nat.mul_le_mul_left (2 ^ 49 * (SC * SC)) h1
  have e3 : 2 ^ 49 * (SC * SC) * (L * 2 ^ 75) = L * (2 ^ 49 * (SC * SC) * 2 ^ 75) := by grind
  rw [e3] at h3
  rw [← Nat.mul_assoc]
  exact h3

theorem Gf_fam {K N L : Nat} {w f : Nat → Nat → Int} (hw : ∀ i, i < N → sm (fun n => ((w i n).natAbs : Int)) K ≤ L) :
    Fam (Gf K w f) rf 1 N L ∧ Fam (Gf K w f) rb (-1) N L := by
  have hb : ∀ i p, i < N → (Gf K w f i p).1.natAbs ≤ L * UU ∧ (Gf K w f i p).2.natAbs ≤ L * UU := fun i p hi => by
    have h1 := wsum (w := w i) (g := fun n => (ww (f i n + p)).1) (hw i hi) (fun n _ => (ok_all (f i n + p)).r1)
    have h2 := wsum (w := w i) (g := fun n => (ww (f i n + p)).2) (hw i hi) (fun n _ => (ok_all (f i n + p)).r2)
    have e : L * UU = SC * (L * 2 ^ 62) := by rw [SC_UU]; grind
    unfold Gf
    rw [e]
    simp only
    rw [abs_scale, abs_scale]
    exact ⟨Nat.mul_le_mul_left _ h1, Nat.mul_le_mul_left _ h2⟩
  have hper : ∀ i p q, Gf K w f i (p + 1024 * q) = Gf K w f i p := fun i p q => by
    unfold Gf
    have : ∀ n, ww (f i n + (p + 1024 * q)) = ww (f i n + p) := fun n => by rw [← Int.add_assoc, ww_per]
    simp only [this]
  have hanti : ∀ i p, Gf K w f i (p + 512) = (-(Gf K w f i p).1, -(Gf K w f i p).2) := fun i p => by
    unfold Gf
    have : ∀ n, ww (f i n + (p + 512)) = (-(ww (f i n + p)).1, -(ww (f i n + p)).2) := fun n => by rw [← Int.add_assoc, ww_anti]
    simp only [this]
    rw [← Int.mul_neg, ← Int.mul_neg, ← sm_neg, ← sm_neg]
    congr 2 <;> exact sm_congr fun n _ => by grind
  refine ⟨⟨.inl rfl, hper, hanti, fun i p hi => (hb i p hi).1, fun i p hi => (hb i p hi).2, fun i p a hi => ?_, fun i p a hi => ?_⟩, ⟨.inr rfl, hper, hanti, fun i p hi => (hb i p hi).1, fun i p hi => (hb i p hi).2, fun i p a hi => ?_, fun i p a hi => ?_⟩⟩
  · refine fam_core (x1 := fun _ => 0) (x2 := fun _ => 0) (hw i hi) fun n _ => ?_
    have := (w_mul a (f i n + p)).1
    rwa [show a + (f i n + p) = f i n + (p + 1 * a) by omega] at this
  · have := fam_core (x1 := fun _ => 0) (x2 := fun _ => 0) (a1 := (ww a).1) (a2 := -(ww a).2) (g1 := fun n => (ww (f i n + p)).2) (g2 := fun n => (ww (f i n + p)).1) (o := fun n => (ww (f i n + (p + 1 * a))).2) (hw i hi) fun n _ => by
      have := (w_mul a (f i n + p)).2
      rw [show a + (f i n + p) = f i n + (p + 1 * a) by omega] at this
      rw [Int.neg_mul, Int.sub_neg]; exact this
    rw [Int.mul_neg, Int.neg_mul, Int.sub_neg] at this
    exact this
  · refine fam_core (x1 := fun _ => 0) (x2 := fun _ => 0) (hw i hi) fun n _ => ?_
    have := (w_conj a (f i n + p)).1
    rwa [show f i n + p - a = f i n + (p + -1 * a) by omega] at this
  · have := fam_core (x1 := fun _ => 0) (x2 := fun _ => 0) (a1 := (ww a).1) (a2 := (ww a).2) (g1 := fun n => (ww (f i n + p)).2) (g2 := fun n => (ww (f i n + p)).1) (o := fun n => (ww (f i n + (p + -1 * a))).2) (hw i hi) fun n _ => by
      have := (w_conj a (f i n + p)).2
      rw [show f i n + p - a = f i n + (p + -1 * a) by omega] at this
      rw [Int.neg_mul, ← Int.sub_eq_add_neg] at this
      exact this
    have e : ∀ x y z : Int, x * y - SC * (ww a).2 * z = x * y + SC * -(ww a).2 * z := fun x y z => by grind
    rw [e] at this
    exact this
end Go.Proofs.Ygctak.Ft
