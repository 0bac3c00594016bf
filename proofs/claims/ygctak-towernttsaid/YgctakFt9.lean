/-
  Forward, the products, and back.
-/
import Derived.Test.YgctakFt8
set_option linter.unusedVariables false
set_option linter.unusedSimpArgs false
set_option exponentiation.threshold 3000
namespace Go.Proofs.Ygctak.Ft
open Fl Sh

theorem dbl_ok : ∀ v : Fin 256, isR (dbl (v.val : Int)) ((v.val : Int) * 2 ^ 62) = true := by decide +kernel
theorem dbl_V (v : Int) (h0 : 0 ≤ v) (h1 : v ≤ 255) : Finite (dbl v) ∧ V (dbl v) = UU * v := by
  obtain ⟨a, b⟩ := isR_V (dbl_ok ⟨v.toNat, by omega⟩)
  simp only at a b
  rw [show ((v.toNat : Nat) : Int) = v by omega] at a b
  refine ⟨a, ?_⟩
  rw [b, SC_int]; grind
theorem zero_V : Finite 0 ∧ V 0 = 0 := by
  have := V_word false 0 (by omega)
  refine ⟨this.1, ?_⟩
  rw [show (0 : Nat) = Ieee.double.word false 0 from rfl, this.2]
  simp [valR]
theorem ww0 : ww 0 = (2 ^ 62, 0) := by
  have := cir_small RT 0 (by omega)
  rw [RT0] at this
  exact this

/-- The digits, as a function. -/
def dg (xs : List Int) (m : Nat) : Int := xs.getD m 0
theorem dg_bd {d : Nat} {xs : List Int} (hd : d ≤ 255) (h : Digs d xs) (m : Nat) : 0 ≤ dg xs m ∧ dg xs m ≤ 255 := by
  unfold dg
  by_cases hm : m < xs.length
  · have := h m hm; omega
  · rw [List.getD_eq_getElem?_getD, List.getElem?_eq_none (by omega)]; simp
theorem dg_sum {d : Nat} {xs : List Int} (hd : d ≤ 255) (h : Digs d xs) : ∀ n, 0 ≤ sm (dg xs) n ∧ sm (dg xs) n ≤ 255 * (min n xs.length : Nat)
  | 0 => by simp [sm]
  | n + 1 => by
    have ih := dg_sum hd h n
    have hb := dg_bd hd h n
    simp only [sm]
    by_cases hm : n < xs.length
    · rw [Nat.min_eq_left (by omega)] at ih ⊢
      omega
    · have h0 : dg xs n = 0 := by unfold dg; rw [List.getD_eq_getElem?_getD, List.getElem?_eq_none (by omega)]; rfl
      rw [Nat.min_eq_right (by omega)] at ih ⊢
      omega

/-- The forward family. -/
def Ga (xs : List Int) : Nat → Int → Int × Int := Gf 1 (fun i _ => dg xs i) (fun _ _ => 0)
theorem Ga_eq (xs : List Int) (i : Nat) (p : Int) : Ga xs i p = (SC * (dg xs i * (ww p).1), SC * (dg xs i * (ww p).2)) := by
  unfold Ga Gf; simp [sm]
theorem Ga_fam {d : Nat} {xs : List Int} (hd : d ≤ 255) (h : Digs d xs) (N : Nat) : Fam (Ga xs) rf 1 N 255 :=
  (Gf_fam (fun i _ => by
    have := dg_bd hd h i
    simp only [sm]
    omega)).1

/-- The transform of the digits with the table's roots. -/
def FA (xs : List Int) (k j : Nat) : Int × Int := (SC * sm (fun m => dg xs m * (ww (m * j * (2 ^ (10 - k) : Nat))).1) (2 ^ k), SC * sm (fun m => dg xs m * (ww (m * j * (2 ^ (10 - k) : Nat))).2) (2 ^ k))

theorem FA_Rs (xs : List Int) (k j : Nat) : Rs (Ga xs) 1 (2 ^ k) 1 0 ((2 ^ (10 - k) : Nat) : Int) j 0 = FA xs k j := by
  unfold Rs FA
  have e : ∀ m : Nat, Ga xs (0 + m * 1) (1 * ((m : Int) * j * ((2 ^ (10 - k) : Nat) : Int)) + 0) = (SC * (dg xs m * (ww (m * j * (2 ^ (10 - k) : Nat))).1), SC * (dg xs m * (ww (m * j * (2 ^ (10 - k) : Nat))).2)) := fun m => by
    rw [Ga_eq, Nat.zero_add, Nat.mul_one, Int.one_mul, Int.add_zero]
  simp only [e]
  rw [sm_mul, sm_mul]

theorem start_z (xs : List Int) (n i : Nat) (hi : i < n) : zf (Sh.start xs n) i = if i < xs.length then (dbl (dg xs i), 0) else (0, 0) := by
  unfold zf Sh.start
  rw [stI_get xs n n i hi]
  by_cases h : i < xs.length
  · rw [if_pos ⟨hi, h⟩, if_pos h]; rfl
  · rw [if_neg (fun hh => h hh.2), if_neg h]

theorem fwd_start {k d : Nat} {xs : List Int} (hd : d ≤ 255) (h : Digs d xs) : At (Ga xs) 1 k 0 0 (zf (rvs k (Sh.start xs (2 ^ k)))) := by
  intro b j hb hj
  have hj0 : j = 0 := by simpa using hj
  subst hj0
  rw [Nat.sub_zero] at hb ⊢
  have hz : zf (rvs k (Sh.start xs (2 ^ k))) (b * 2 ^ 0 + 0) = zf (Sh.start xs (2 ^ k)) (rev k b) := by
    unfold zf
    rw [Nat.pow_zero, Nat.mul_one, Nat.add_zero, rvs_get k _ (start_length _ _) b hb]
  rw [hz, start_z _ _ _ (rev_lt k b)]
  have hR : Rs (Ga xs) 1 (2 ^ 0) (2 ^ k) (rev k b) ((2 ^ (10 - 0) : Nat) : Int) 0 0 = (UU * dg xs (rev k b), 0) := by
    unfold Rs
    simp only [Nat.pow_zero, sm, Ga_eq]
    rw [show (1 : Int) * (((0 : Nat) : Int) * ((0 : Nat) : Int) * ((2 ^ (10 - 0) : Nat) : Int)) + 0 = 0 by simp, ww0, Nat.zero_mul, Nat.add_zero, SC_int]
    simp only [Int.mul_zero, Int.zero_add]
    congr 1
    grind
  rw [hR, Nat.zero_mul]
  have hb2 := dg_bd hd h (rev k b)
  by_cases hl : rev k b < xs.length
  · rw [if_pos hl]
    obtain ⟨f1, v1⟩ := dbl_V _ hb2.1 hb2.2
    obtain ⟨f2, v2⟩ := zero_V
    exact ⟨f1, f2, by simp only; rw [v1, Int.sub_self]; exact Nat.le_refl _, by simp only; rw [v2]; exact Nat.le_refl _⟩
  · rw [if_neg hl]
    obtain ⟨f2, v2⟩ := zero_V
    have h0 : dg xs (rev k b) = 0 := by unfold dg; rw [List.getD_eq_getElem?_getD, List.getElem?_eq_none (by omega)]; rfl
    exact ⟨f2, f2, by simp only; rw [v2, h0]; simp, by simp only; rw [v2]; exact Nat.le_refl _⟩

/-- The bound of a forward transform. -/
def ef (k : Nat) : Nat := eN 255 k 0 0
theorem ef_ok : ∀ k : Fin 11, okN 255 k.val 0 0 = true ∧ ef k.val ≤ 2 ^ 30 := by decide +kernel

theorem fwd_near {k d : Nat} {xs : List Int} (h1 : 1 ≤ k) (h2 : k ≤ 10) (hd : d ≤ 255) (h : Digs d xs) (j : Nat) (hj : j < 2 ^ k) : Near (ef k * WU) (zf (fwd k d xs) j) (FA xs k j) := by
  have := fws_at (d := d) (Ga_fam hd h (2 ^ k)) h1 h2 (by omega) (by omega) k 0 0 _ (by rw [rvs_length, start_length]) (by omega) (fwd_start (k := k) hd h) (ef_ok ⟨k, by omega⟩).1
  rw [Nat.zero_add k] at this
  have h3 := this 0 j (by rw [Nat.sub_self]; decide) hj
  rw [Nat.sub_self, Nat.zero_mul, Nat.zero_add j] at h3
  rw [← FA_Rs]
  exact h3

theorem FA_bd {k d : Nat} {xs : List Int} (hd : d ≤ 255) (h : Digs d xs) (hl : xs.length ≤ 512) (j : Nat) : (FA xs k j).1.natAbs ≤ 130560 * UU ∧ (FA xs k j).2.natAbs ≤ 130560 * UU := by
  have hs : sm (fun n => ((dg xs n).natAbs : Int)) (2 ^ k) ≤ ((130560 : Nat) : Int) := by
    have e : sm (fun n => ((dg xs n).natAbs : Int)) (2 ^ k) = sm (dg xs) (2 ^ k) := sm_congr fun m _ => by
      have := dg_bd hd h m; omega
    rw [e]
    have := (dg_sum hd h (2 ^ k)).2
    have : min (2 ^ k) xs.length ≤ 512 := by omega
    omega
  have a1 := wsum (w := dg xs) (g := fun m => (ww ((m : Int) * j * (2 ^ (10 - k) : Nat))).1) hs (fun n _ => (ok_all _).r1)
  have a2 := wsum (w := dg xs) (g := fun m => (ww ((m : Int) * j * (2 ^ (10 - k) : Nat))).2) hs (fun n _ => (ok_all _).r2)
  have e : 130560 * UU = SC * (130560 * 2 ^ 62) := by rw [SC_UU]; grind
  unfold FA
  rw [e]
  simp only
  rw [abs_scale, abs_scale]
  exact ⟨Nat.mul_le_mul_left _ a1, Nat.mul_le_mul_left _ a2⟩
end Go.Proofs.Ygctak.Ft
