/-
  The products hold.
-/
import Derived.Test.YgctakHp6
namespace Go.Proofs.Ygctak
set_option linter.unusedVariables false
set_option linter.unusedSimpArgs false
namespace Hp
open Ac Fl Sh Ex
open Ft (abs_scale UU UU_pos UU_eq UU_int SC SC_UU Root zf ww ok_all WU WU_UU rev rev_lt ef ef_ok dg sm FA fwd_near dg_bd dg_sum KK KK_small cmul_err)

theorem sum2 (w g1 g2 : Nat → Int) (B : Nat) (hw : ∀ m, 0 ≤ w m) (hg : ∀ m, 16384 * ((g1 m).natAbs + (g2 m).natAbs) ≤ B) :
    ∀ n, 0 ≤ sm w n ∧ 16384 * ((sm (fun m => w m * g1 m) n).natAbs + (sm (fun m => w m * g2 m) n).natAbs) ≤ (sm w n).toNat * B
  | 0 => by simp [sm]
  | n + 1 => by
    obtain ⟨h0, h1⟩ := sum2 w g1 g2 B hw hg n
    have hn := hw n
    simp only [sm]
    refine ⟨by omega, ?_⟩
    have e1 : (w n * g1 n).natAbs = (w n).toNat * (g1 n).natAbs := by rw [Int.natAbs_mul]; congr 1; omega
    have e2 : (w n * g2 n).natAbs = (w n).toNat * (g2 n).natAbs := by rw [Int.natAbs_mul]; congr 1; omega
    have e3 : (sm w n + w n).toNat = (sm w n).toNat + (w n).toNat := by omega
    have h2 := Nat.mul_le_mul_left (w n).toNat (hg n)
    have e4 : (w n).toNat * (16384 * ((g1 n).natAbs + (g2 n).natAbs)) = 16384 * ((w n).toNat * (g1 n).natAbs + (w n).toNat * (g2 n).natAbs) := by grind
    rw [e4] at h2
    rw [e3, Nat.add_mul]
    generalize sm (fun m => w m * g1 m) n = a at *
    generalize sm (fun m => w m * g2 m) n = b at *
    generalize (sm w n).toNat * B = c at *
    generalize (w n).toNat * B = d at *
    rw [← e1, ← e2] at h2
    omega

/-- The digits' sum is below the bound. -/
theorem dg_most {k : Nat} {xs : List Int} (h : Digs 255 xs) (hl : xs.length ≤ 512) : 0 ≤ sm (dg xs) (2 ^ k) ∧ (sm (dg xs) (2 ^ k)).toNat + 1 ≤ most (k + 1) 255 := by
  obtain ⟨h0, h1⟩ := dg_sum (d := 255) (by omega) h (2 ^ k)
  refine ⟨h0, ?_⟩
  unfold most
  by_cases hk : k + 1 ≤ 9
  · rw [if_pos ⟨by omega, hk⟩, show k + 1 - 1 = k by omega]
    have : min (2 ^ k) xs.length ≤ 2 ^ k := Nat.min_le_left _ _
    omega
  · rw [if_neg (by omega)]
    have : min (2 ^ k) xs.length ≤ 512 := by omega
    omega

theorem FA_sum {k : Nat} {xs : List Int} (h : Digs 255 xs) (hl : xs.length ≤ 512) (j : Nat) :
    16384 * ((FA xs k j).1.natAbs + (FA xs k j).2.natAbs) ≤ 23171 * ((most (k + 1) 255 - 1) * UU) ∧ (FA xs k j).1.natAbs ≤ (most (k + 1) 255 - 1) * UU ∧ (FA xs k j).2.natAbs ≤ (most (k + 1) 255 - 1) * UU := by
  obtain ⟨s0, s1⟩ := dg_most (k := k) h hl
  have hS : (sm (dg xs) (2 ^ k)).toNat ≤ most (k + 1) 255 - 1 := by omega
  have hd := fun m => (dg_bd (d := 255) (by omega) h m).1
  have hgen := (sum2 (dg xs) (fun m => (ww ((m : Int) * j * (2 ^ (10 - k) : Nat))).1) (fun m => (ww ((m : Int) * j * (2 ^ (10 - k) : Nat))).2) (23171 * 2 ^ 62) hd (fun m => (ok_all _).rs) (2 ^ k)).2
  have hw : sm (fun n => ((dg xs n).natAbs : Int)) (2 ^ k) ≤ (((sm (dg xs) (2 ^ k)).toNat : Nat) : Int) := by
    have e : sm (fun n => ((dg xs n).natAbs : Int)) (2 ^ k) = sm (dg xs) (2 ^ k) := Ft.sm_congr fun m _ => by
      have := hd m; omega
    rw [e]; omega
  have a1 := Ft.wsum (w := dg xs) (g := fun m => (ww ((m : Int) * j * (2 ^ (10 - k) : Nat))).1) hw (fun n _ => (ok_all _).r1)
  have a2 := Ft.wsum (w := dg xs) (g := fun m => (ww ((m : Int) * j * (2 ^ (10 - k) : Nat))).2) hw (fun n _ => (ok_all _).r2)
  unfold FA
  simp only
  rw [abs_scale, abs_scale]
  have hU : ∀ c, c * UU = SC * (c * 2 ^ 62) := fun c => by rw [SC_UU]; grind
  refine ⟨?_, ?_, ?_⟩
  · have e1 : ∀ a b : Nat, 16384 * (SC * a + SC * b) = SC * (16384 * (a + b)) := fun a b => by grind
    rw [e1]
    have e2 : 23171 * ((most (k + 1) 255 - 1) * UU) = SC * ((most (k + 1) 255 - 1) * (23171 * 2 ^ 62)) := by rw [hU]; grind
    rw [e2]
    exact Nat.mul_le_mul_left _ (Nat.le_trans hgen (Nat.mul_le_mul_right _ hS))
  · rw [hU]
    exact Nat.mul_le_mul_left _ (Nat.le_trans a1 (Nat.mul_le_mul_right _ hS))
  · rw [hU]
    exact Nat.mul_le_mul_left _ (Nat.le_trans a2 (Nat.mul_le_mul_right _ hS))

/-- The points of a whole transform. -/
theorem fwd_bd {k : Nat} {xs : List Int} (h1 : 1 ≤ k) (h2 : k ≤ 10) (h : Digs 255 xs) (hl : xs.length ≤ 512) (i : Nat) (hi : i < 2 ^ k) :
    Bd (most (k + 1) 255) (zf (fwd k 255 xs) i) ∧ 16384 * ((V (zf (fwd k 255 xs) i).1).natAbs + (V (zf (fwd k 255 xs) i).2).natAbs) ≤ 23171 * ((most (k + 1) 255 - 1) * UU) + 32768 * (ef k * WU) := by
  have hn := fwd_near (d := 255) h1 h2 (by omega) h i hi
  obtain ⟨g1, g2, g3⟩ := FA_sum (k := k) h hl i
  have d1 := hn.d1
  have d2 := hn.d2
  have he : ef k * WU ≤ UU := by
    have := (ef_ok ⟨k, by omega⟩).2
    rw [WU_UU]
    exact Nat.mul_le_mul_right _ (Nat.le_trans this (by decide))
  obtain ⟨s0, s1⟩ := dg_most (k := k) h hl
  have e0 : most (k + 1) 255 * UU = (most (k + 1) 255 - 1) * UU + UU := by
    rw [← Nat.succ_mul]; congr 1
  generalize (most (k + 1) 255 - 1) * UU = a at *
  generalize ef k * WU = b at *
  refine ⟨⟨hn.f1, hn.f2, ?_, ?_⟩, ?_⟩
  · rw [e0]; omega
  · rw [e0]; omega
  · omega

/-- The bounds of a forward transform stay small. -/
theorem fwA_err {k : Nat} {xs : List Int} (h2 : k ≤ 10) : ∀ t, t ≤ k → ∀ i, 0 ≤ ((fwA k xs t).getD i p0).2 ∧ ((fwA k xs t).getD i p0).2 ≤ 2 ^ (52 + 2 * t)
  | 0, _, i => by
    have e : ((fwA k xs 0).getD i p0).2 = 0 := by
      by_cases hi : i < 2 ^ k
      · rw [fwA_zero, Ft.rvs_get k _ (start_length _ _) i hi]
        unfold Sh.start
        rw [stI_get xs _ _ _ (rev_lt k i)]
        split <;> rfl
      · rw [List.getD_eq_getElem?_getD, List.getElem?_eq_none (by rw [fwA_length]; omega)]
        rfl
    rw [e]
    exact ⟨Int.le_refl _, by decide⟩
  | t + 1, ht, i => by
    by_cases hi : i < 2 ^ k
    · have ih := fwA_err (xs := xs) h2 t (by omega)
      have hs : (fwA k xs (t + 1)).getD i p0 = bf (fwA k xs t) (tab k) (2 ^ t) (2 ^ (k - (t + 1))) ((most (t + 1) 255 : Int) * 2 ^ 32 + 1) i := by
        rw [fwA_succ]
        unfold stg
        rw [List.getD_eq_getElem?_getD, List.getElem?_map, List.getElem?_range (by rw [fwA_length]; exact hi)]
        rfl
      have hm := most_le (t + 1) 255 (by omega)
      have hp : (2 : Int) ^ 52 ≤ 2 ^ (52 + 2 * t) := by
        rw [pow_int, pow_int]; exact Int.ofNat_le.2 (pow_mono 52 (52 + 2 * t) (by omega))
      have hown : ((most (t + 1) 255 : Int) * 2 ^ 32 + 1) + 1 ≤ 2 ^ (52 + 2 * t) := Int.le_trans (by omega) hp
      rw [hs, show 52 + 2 * (t + 1) = 52 + 2 * t + 2 by omega]
      unfold bf
      simp only
      split
      · exact joi_bd _ (ih i).1 (ih i).2 (ih _).1 (ih _).2 (by omega) hown
      · exact joi_bd _ (ih _).1 (ih _).2 (ih i).1 (ih i).2 (by omega) hown
    · rw [List.getD_eq_getElem?_getD, List.getElem?_eq_none (by rw [fwA_length]; omega)]
      exact ⟨Int.le_refl _, Int.le_of_lt (Int.pow_pos (by decide))⟩
theorem fwd_err {k : Nat} {xs : List Int} (h2 : k ≤ 10) (i : Nat) : ((fwd k 255 xs).getD i p0).2.toNat ≤ 2 ^ 78 := by
  have h := (fwA_err (k := k) (xs := xs) h2 k (Nat.le_refl _) i)
  rw [fwA_fwd] at h
  have hp : (2 : Int) ^ (52 + 2 * k) ≤ 2 ^ 78 := by
    rw [pow_int, pow_int]; exact Int.ofNat_le.2 (pow_mono (52 + 2 * k) 78 (by omega))
  have h3 : ((fwd k 255 xs).getD i p0).2 ≤ 2 ^ 78 := Int.le_trans h.2 hp
  omega
end Hp
end Go.Proofs.Ygctak
