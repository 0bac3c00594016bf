/-
  The forward transform holds.
-/
import Derived.Test.YgctakHp5
namespace Go.Proofs.Ygctak
set_option linter.unusedVariables false
set_option linter.unusedSimpArgs false
namespace Hp
open Ac Fl Sh Ex
open Ft (abs_scale UU UU_pos UU_eq UU_int SC SC_UU Root zf ww WT RT tab_at idx ok_all root_fwd root_bwd WU WU_UU Rs Rs_bd Ga Ga_fam rev rev_lt eN ef ef_ok dg)

/-! ### the roots -/
def okP : List (Nat × Nat) → List (Int × Int) → Bool
  | [], [] => true
  | x :: xs, r :: rs => (!(pla x || pla (conj x)) || decide (r.1.natAbs + r.2.natAbs ≤ 2 ^ 62)) && okP xs rs
  | _, _ => false
theorem okP_at : ∀ (xs : List (Nat × Nat)) (rs : List (Int × Int)), okP xs rs = true → ∀ j, j < xs.length → (pla (xs.getD j (0, 0)) = true ∨ pla (conj (xs.getD j (0, 0))) = true) → (rs.getD j (0, 0)).1.natAbs + (rs.getD j (0, 0)).2.natAbs ≤ 2 ^ 62
  | [], [], _, j, hj => by simp at hj
  | x :: xs, r :: rs, hk, j, hj => by
    simp only [okP, Bool.and_eq_true, Bool.or_eq_true, decide_eq_true_eq, Bool.not_eq_true'] at hk
    cases j with
    | zero =>
      intro h
      rcases hk.1 with h1 | h1
      · simp only [List.getD_cons_zero] at h
        rw [Bool.or_eq_false_iff] at h1
        rcases h with h | h
        · rw [h1.1] at h; cases h
        · rw [h1.2] at h; cases h
      · exact h1
    | succ j =>
      have := okP_at xs rs hk.2 j (by simpa using hj)
      simpa using this
  | [], _ :: _, hk, _, _ => by simp [okP] at hk
  | _ :: _, [], hk, _, _ => by simp [okP] at hk
theorem okP_ok : okP WT RT = true := by decide +kernel

theorem rt_fwd (k t : Nat) (h1 : 1 ≤ k) (h2 : k ≤ 10) (ht : t < k) (j : Nat) (hj : j < 2 ^ t) : Rt ((tab k).getD (j * 2 ^ (k - (t + 1))) (0, 0)) (rr (t + 1) j) := by
  obtain ⟨i1, i2, i3⟩ := idx (k := k) (t := t) (j := j) h2 ht hj
  have hrt := root_fwd h1 h2 ht hj
  have e1 : k - (t + 1) = k - t - 1 := by omega
  have e2 : rr (t + 1) j = ww ((j : Int) * ((2 ^ (9 - t) : Nat) : Int)) := by
    unfold rr
    rw [show 10 - (t + 1) = 9 - t by omega, Int.natCast_mul]
  have e3 : rr (t + 1) j = RT.getD (j * 2 ^ (9 - t)) (0, 0) := by
    unfold rr
    rw [show 10 - (t + 1) = 9 - t by omega]
    exact Ft.cir_small RT _ i3
  rw [e1]
  refine ⟨by rw [e2]; exact hrt, fun hp => ?_, by rw [e2]; exact (ok_all _).rs⟩
  rw [tab_at k _ h1 h2 i1, i2] at hp
  rw [e3]
  exact okP_at WT RT okP_ok _ (by rw [Ft.WT_length]; exact i3) (.inl hp)
theorem rt_bwd (k t : Nat) (h1 : 1 ≤ k) (h2 : k ≤ 10) (ht : t < k) (j : Nat) (hj : j < 2 ^ t) : Rt (((tab k).map conj).getD (j * 2 ^ (k - (t + 1))) (0, 0)) (rc (t + 1) j) := by
  obtain ⟨i1, i2, i3⟩ := idx (k := k) (t := t) (j := j) h2 ht hj
  have hl := (tab_keep k h1 (by omega)).1
  have hrt := root_bwd h1 h2 ht hj hl
  have e1 : k - (t + 1) = k - t - 1 := by omega
  have e2 : rc (t + 1) j = ((ww ((j : Int) * ((2 ^ (9 - t) : Nat) : Int))).1, -(ww ((j : Int) * ((2 ^ (9 - t) : Nat) : Int))).2) := by
    unfold rc
    rw [show 10 - (t + 1) = 9 - t by omega, Int.natCast_mul]
  have e3 : ww ((j * 2 ^ (9 - t) : Nat) : Int) = RT.getD (j * 2 ^ (9 - t)) (0, 0) := Ft.cir_small RT _ i3
  have hg : ((tab k).map conj).getD (j * 2 ^ (k - t - 1)) (0, 0) = conj ((tab k).getD (j * 2 ^ (k - t - 1)) (0, 0)) := by
    rw [List.getD_eq_getElem?_getD, List.getElem?_map, List.getD_eq_getElem?_getD, List.getElem?_eq_getElem (by rw [hl]; exact i1)]
    rfl
  rw [e1]
  refine ⟨by rw [e2]; exact hrt, fun hp => ?_, by rw [e2]; simp only [Int.natAbs_neg]; exact (ok_all _).rs⟩
  rw [hg, tab_at k _ h1 h2 i1, i2] at hp
  have := okP_at WT RT okP_ok _ (by rw [Ft.WT_length]; exact i3) (.inr hp)
  rw [← e3] at this
  rw [e2, ← Int.natCast_mul]
  simp only [Int.natAbs_neg]
  exact this

/-! ### the sizes -/
theorem split_idx {k t i : Nat} (ht : t ≤ k) (hi : i < 2 ^ k) : i / 2 ^ t < 2 ^ (k - t) ∧ i % 2 ^ t < 2 ^ t ∧ i / 2 ^ t * 2 ^ t + i % 2 ^ t = i := by
  refine ⟨?_, Nat.mod_lt _ (Nat.two_pow_pos t), by rw [Nat.mul_comm]; exact Nat.div_add_mod i _⟩
  apply Nat.div_lt_of_lt_mul
  rw [← Nat.pow_add, show t + (k - t) = k by omega]
  exact hi
theorem terms_in {k t b : Nat} (ht : t ≤ k) (m : Nat) (hm : m < 2 ^ t) : rev (k - t) b + m * 2 ^ (k - t) < 2 ^ k := by
  have h1 := rev_lt (k - t) b
  have h2 := Nat.mul_le_mul_right (2 ^ (k - t)) (show m + 1 ≤ 2 ^ t by omega)
  rw [← Nat.pow_add, show t + (k - t) = k by omega, Nat.add_mul] at h2
  omega
theorem near_bd {e n L M : Nat} {z : Nat × Nat} {R : Int × Int} (h : Ft.Near (e * WU) z R) (h1 : R.1.natAbs ≤ n * (L * UU)) (h2 : R.2.natAbs ≤ n * (L * UU)) (he : e * WU ≤ (M - n * L) * UU) (hM : n * L ≤ M) : Bd M z := by
  have e1 : M * UU = n * (L * UU) + (M - n * L) * UU := by
    rw [← Nat.mul_assoc, ← Nat.add_mul]; congr 1; omega
  have d1 := h.d1
  have d2 := h.d2
  refine ⟨h.f1, h.f2, ?_, ?_⟩
  · rw [e1]; omega
  · rw [e1]; omega

theorem fwA_at {k : Nat} {xs : List Int} (h1 : 1 ≤ k) (h2 : k ≤ 10) (h : Digs 255 xs) (t : Nat) (ht : t ≤ k) : Ft.At (Ga xs) 1 k t (eN 255 t 0 0) (zf (fwA k xs t)) := by
  have := Ft.fws_at (d := 255) (Ga_fam (d := 255) (by omega) h (2 ^ k)) h1 h2 (by omega) (by omega) t 0 0 _ (by rw [rvs_length, start_length]) (by omega) (Ft.fwd_start (k := k) (d := 255) (by omega) h) (ef_ok ⟨t, by omega⟩).1
  rw [Nat.zero_add t] at this
  exact this
theorem fwA_bd {k : Nat} {xs : List Int} (h1 : 1 ≤ k) (h2 : k ≤ 10) (h : Digs 255 xs) (t : Nat) (ht : t ≤ k) (i : Nat) (hi : i < 2 ^ k) : Bd (2 ^ t * 255 + 1) ((fwA k xs t).getD i p0).1 := by
  obtain ⟨i1, i2, i3⟩ := split_idx ht hi
  have hn := fwA_at h1 h2 h t ht _ _ i1 i2
  rw [i3] at hn
  obtain ⟨r1, r2⟩ := Rs_bd (Ga_fam (d := 255) (by omega) h (2 ^ k)) (2 ^ t) (2 ^ (k - t)) (rev (k - t) (i / 2 ^ t)) ((2 ^ (10 - t) : Nat) : Int) (i % 2 ^ t) 0 (fun m hm => terms_in ht m hm)
  refine near_bd hn r1 r2 ?_ (by omega)
  have he : eN 255 t 0 0 ≤ 2 ^ 30 := (ef_ok ⟨t, by omega⟩).2
  rw [show 2 ^ t * 255 + 1 - 2 ^ t * 255 = 1 by omega, Nat.one_mul, WU_UU]
  exact Nat.mul_le_mul_right _ (Nat.le_trans he (by decide))

/-! ### the start, and the stages -/
theorem fw_start {k : Nat} {xs : List Int} (h : Digs 255 xs) (i : Nat) (hi : i < 2 ^ k) : Inv 1 ((fwA k xs 0).getD i p0) ((exF k xs 0).getD i q0) := by
  have e1 : (fwA k xs 0).getD i p0 = (Sh.start xs (2 ^ k)).getD (rev k i) p0 := by rw [fwA_zero, Ft.rvs_get k _ (start_length _ _) i hi]
  have e2 : (exF k xs 0).getD i q0 = (dg xs (rev k i), 0) := exS_get xs k i hi
  have hr := rev_lt k i
  rw [e1, e2]
  unfold Sh.start
  rw [stI_get xs _ _ _ hr]
  have hz := Ft.zero_V
  by_cases hl : rev k i < xs.length
  · rw [if_pos ⟨hr, hl⟩]
    have hd := h _ hl
    have hv := Ft.dbl_V (xs.getD (rev k i) 0) hd.1 hd.2
    refine ⟨Int.le_refl _, ?_, ?_⟩
    · show (V (dbl (xs.getD (rev k i) 0)) * ((1 : Nat) : Int) - dg xs (rev k i) * (UU : Int)).natAbs ≤ _
      rw [hv.2]
      unfold dg
      have : (UU : Int) * xs.getD (rev k i) 0 * ((1 : Nat) : Int) - xs.getD (rev k i) 0 * (UU : Int) = 0 := by grind
      rw [this]; simp
    · show (V 0 * ((1 : Nat) : Int) - 0 * (UU : Int)).natAbs ≤ _
      rw [hz.2]; simp
  · rw [if_neg (by omega)]
    have hd : dg xs (rev k i) = 0 := by unfold dg; rw [List.getD_eq_getElem?_getD, List.getElem?_eq_none (by omega)]; rfl
    rw [hd]
    refine ⟨Int.le_refl _, ?_, ?_⟩
    · show (V 0 * ((1 : Nat) : Int) - 0 * (UU : Int)).natAbs ≤ _
      rw [hz.2]; simp
    · show (V 0 * ((1 : Nat) : Int) - 0 * (UU : Int)).natAbs ≤ _
      rw [hz.2]; simp

theorem most_is (t : Nat) (ht : t ≤ 9) : most (t + 1) 255 = 2 ^ t * 255 + 1 := by
  unfold most
  by_cases h : t + 1 ≤ 9
  · rw [if_pos ⟨by omega, h⟩, show t + 1 - 1 = t by omega]
  · have : t = 9 := by omega
    subst this
    rw [if_neg (by omega)]

theorem fw_inv {k : Nat} {xs : List Int} (h1 : 1 ≤ k) (h2 : k ≤ 10) (h : Digs 255 xs) : ∀ t, t ≤ k → ∀ i, i < 2 ^ k → Inv (2 ^ (62 * t)) ((fwA k xs t).getD i p0) ((exF k xs t).getD i q0)
  | 0, _, i, hi => fw_start h i hi
  | t + 1, ht, i, hi => by
    have ih := fw_inv h1 h2 h t (by omega)
    have hm := most_is t (by omega)
    have hp : 2 ^ t ≤ 2 ^ 9 := Nat.pow_le_pow_right (by omega) (by omega)
    have := stage_inv (m := most (t + 1) 255) (M := 2 ^ t * 255 + 1) (by omega) (fwA_length k xs t) (exF_length k xs t) ih (fun m hm => fwA_bd h1 h2 h t (by omega) m hm) (rt_fwd k t h1 h2 (by omega)) (by omega) (by omega) (by omega) i hi
    rw [fwA_succ, show 62 * (t + 1) = 62 * t + 62 by omega, Nat.pow_add]
    exact this.2.2

theorem fwA_lt {k : Nat} {xs : List Int} (t : Nat) (ht : 1 ≤ t) (i : Nat) (hi : i < 2 ^ k) : Lt64 ((fwA k xs t).getD i p0).1 := by
  obtain ⟨s, rfl⟩ : ∃ s, t = s + 1 := ⟨t - 1, by omega⟩
  rw [fwA_succ]
  exact stg_lt _ _ _ _ _ _ (by rw [fwA_length]; exact hi)

theorem fw_holds {k : Nat} {xs : List Int} (h1 : 1 ≤ k) (h2 : k ≤ 10) (h : Digs 255 xs) (t : Nat) (ht1 : 1 ≤ t) (ht : t ≤ k) (i : Nat) (hi : i < 2 ^ k) : Holds (62 * t + 0) ((fwA k xs t).getD i p0) ((exF k xs t).getD i q0) := by
  have hb := fwA_bd h1 h2 h t ht i hi
  have hk := fwA_keep k xs t h1 h2 ht h
  have hp : 2 ^ t ≤ 2 ^ 10 := Nat.pow_le_pow_right (by omega) (by omega)
  have big : (2 ^ t * 255 + 1) * UU ≤ 2 ^ 100 * UU := Nat.mul_le_mul_right _ (by omega)
  have he : ((fwA k xs t).getD i p0).2 ≤ 2 ^ 150 := Int.le_trans (hk.any i).2.2 (by decide)
  exact holds_of (by omega) (fw_inv h1 h2 h t ht i hi) (fwA_lt t ht1 i hi) hb.f1 hb.f2 (Nat.le_trans hb.b1 big) (Nat.le_trans hb.b2 big) he
end Hp
end Go.Proofs.Ygctak
