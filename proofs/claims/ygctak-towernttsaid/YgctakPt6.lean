/-
  Walks: shadow.Greatest.
-/
import Derived.Test.YgctakPt5
namespace Go.Proofs.Ygctak
open Go.RowKit
set_option linter.unusedVariables false
set_option linter.unusedSimpArgs false
attribute [local go_sem ↓] Go.wp_at_zero Go.wp_at_succ
attribute [local go_sem] Fl.run_store_complex Fl.run_store_float
namespace Sh
open Ac Fl

theorem fits_of {z : Int} (z0 : 0 ≤ z) (z1 : z ≤ 2 ^ 150) : Fits z := by
  have hb := half_big
  have e1 : (2 : Int) ^ 150 < 2 ^ 200 := by decide
  exact ⟨by omega, by omega⟩

/-- The greatest bound of the first i points. -/
def grI (x : List P) (i : Nat) : Int := (x.take i).foldl (fun m p => if m < p.2 then p.2 else m) 0
def grt (x : List P) : Int := grI x x.length
theorem grI_zero (x : List P) : grI x 0 = 0 := rfl
theorem grI_succ (x : List P) (i : Nat) (h : i < x.length) : grI x (i + 1) = if grI x i < (x.getD i p0).2 then (x.getD i p0).2 else grI x i := by
  unfold grI
  rw [List.take_add_one, List.getElem?_eq_getElem h, List.foldl_append]
  simp [List.getD_eq_getElem?_getD, List.getElem?_eq_getElem h]
/-- Every bound lies between 0 and 2^B. -/
def AllE (B : Nat) (x : List P) : Prop := ∀ i, i < x.length → 0 ≤ (x.getD i p0).2 ∧ (x.getD i p0).2 ≤ 2 ^ B
theorem grI_bd {B : Nat} (x : List P) (hx : AllE B x) : ∀ i, i ≤ x.length → 0 ≤ grI x i ∧ grI x i ≤ 2 ^ B := by
  intro i
  induction i with
  | zero => intro _; rw [grI_zero]; exact ⟨by omega, Int.le_of_lt (pow_pos B)⟩
  | succ i ih =>
    intro h
    obtain ⟨h1, h2⟩ := ih (by omega)
    obtain ⟨h3, h4⟩ := hx i (by omega)
    rw [grI_succ x i (by omega)]
    split
    · exact ⟨h3, h4⟩
    · exact ⟨h1, h2⟩

set_option maxRecDepth 100000 in
set_option maxHeartbeats 1000000 in
theorem Greatest_any (b tb n : Nat) (x : List P) (w : World) (hn : x.length = n) (hn2 : n ≤ 1024) (hb : Blk w b tb (Pts x)) (hx : AllE 150 x) :
    Calls Takg.prog 33 #[.slice (some ⟨b, 0, none⟩) n n] w fun e w' => e = .returned (.agg (W (grt x)).toArray) ∧ Chg [] w w' := by
  have HN := hide hn
  clear hn
  go_enter Takg.func33, Takg.ntmps33
  go_upto_region 0 with fail
  apply wp_region_lit
  refine wpList_zeroAcc (by rfl) (by rfl) ?_
  intro br w1 hbr0 hkr1 hc1
  go_upto_region 1 with fail
  apply wp_region_lit
  refine wpList_zeroAcc (by rfl) (by rfl) ?_
  intro bm w2 hbm0 hkm2 hc2
  have lb := hb.lt
  have s1 := hc1.size
  have hb2 := hc2.blk (hc1.blk hb (by simp)) (by simp)
  have hkr2 := hc2.blk hkr1 (by simp)
  have gr : w.heap.size ≤ br := by have := hbr0.out; omega
  have gm : w.heap.size ≤ bm := by have := hbm0.out; omega
  have nrm : br ≠ bm := by have := hbm0.out; have := hkr1.lt; omega
  have hc : Chg [] w w2 := hc1.trans hc2
  rw [← grI_zero x] at hkm2
  clear hc1 hc2 hb hkr1 hbr0 hbm0 s1
  go_wp2_with fail
  go_loopw [4] (fun v wr => ∃ i : Nat, v = .int .i64 i ∧ i ≤ n ∧ Blk wr b tb (Pts x) ∧ Blk wr br 58 (W 0) ∧ Blk wr bm 58 (W (grI x i)) ∧ Chg [] w wr) (fun v _ => n - (intOf v).toNat)
  case atStart => exact ⟨0, rfl, by omega, hb2, hkr2, hkm2, hc⟩
  case round =>
    clear hb2 hkr2 hkm2 hc
    obtain ⟨i, rfl, hi, hbx, hkr, hkm, hcr⟩ := hrel
    by_cases hil : i < n
    · have hxl := HN.out
      obtain ⟨e0, e1⟩ := hx i (by omega)
      obtain ⟨m0, m1⟩ := grI_bd x hx i (by omega)
      have hsucc := grI_succ x i (by omega)
      have hpe := ptE hbx i (by omega)
      obtain ⟨e, he⟩ : ∃ e, e = (x.getD i p0).2 := ⟨_, rfl⟩
      obtain ⟨m, hm⟩ : ∃ m, m = grI x i := ⟨_, rfl⟩
      rw [← he] at e0 e1 hsucc hpe
      rw [← hm] at m0 m1 hsucc hkm
      have HSU := hide hsucc
      have fe := fits_of e0 e1
      have fm := fits_of m0 m1
      clear hxl he hm hsucc
      have HC := hide (Cmp_any b (i * 69 + 1) tb bm 0 58 _ _ [] [] e m wr fe fm hpe (At.whole hkm))
      go_wp2_with fail
      refine HC.out.mono ?_
      rintro e' w3 ⟨rfl, nq, rfl⟩
      have hbx := hbx.drewN nq
      have hkr := hkr.drewN nq
      have hkm := hkm.drewN nq
      have hcr := hcr.drewN nq
      have hpe : At (wr.drewN nq) b (i * 69 + 1) tb _ (W e) _ := ⟨hpe.off, hpe.blk⟩
      generalize wr.drewN nq = wd at *
      clear HC
      by_cases hgt : m < e
      · have hcm : cmp e m = 1 := by unfold cmp; rw [if_neg (by omega), if_neg (by omega)]
        have hs2 := HSU.out
        rw [if_pos hgt] at hs2
        have HS2 := hide hs2
        clear hs2
        rw [hcm]
        clear hcm
        go_wp2_with (first | (refine wpList_loadAcc (by rfl) _ (by rfl) b (i * 69 + 1) tb _ _ e (by rfl) hpe ?_) | (refine wpList_storeAcc (by rfl) _ _ (by rfl) (by rfl) bm 0 58 [] [] (W m) e (W_length _) (At.whole hkm) (by rfl) (by rfl) ?_; intro w7 hk7 hc7))
        have hbx7 := hc7.blk hbx (by simp; omega)
        have hkr7 := hc7.blk hkr (by simpa using nrm)
        have hk8 := hk7.toBlk
        rw [← HS2.out] at hk8
        have hcr7 := hcr.news hc7 (by simp; omega)
        clear hk7 hc7 hbx hkr hkm hcr hpe
        go_roundw
        case rel => exact ⟨i + 1, by go_num, by omega, hbx7, hkr7, hk8, hcr7⟩
        case measure => simp [intOf]; omega
      · have hcm : cmp e m = -1 ∨ cmp e m = 0 := by
          unfold cmp
          by_cases h : e < m
          · rw [if_pos h]; exact Or.inl rfl
          · rw [if_neg h, if_pos (by omega)]; exact Or.inr rfl
        have hs2 := HSU.out
        rw [if_neg hgt] at hs2
        rw [← hs2] at hkm
        clear hs2 hpe
        rcases hcm with hcm | hcm
        · rw [hcm]
          clear hcm
          go_wp2_with fail
          go_roundw
          case rel => exact ⟨i + 1, by go_num, by omega, hbx, hkr, hkm, hcr⟩
          case measure => simp [intOf]; omega
        · rw [hcm]
          clear hcm
          go_wp2_with fail
          go_roundw
          case rel => exact ⟨i + 1, by go_num, by omega, hbx, hkr, hkm, hcr⟩
          case measure => simp [intOf]; omega
    · have hie : i = n := by omega
      rw [hie] at hkm
      have hg : grI x n = grt x := by unfold grt; rw [HN.out]
      rw [hg] at hkm
      clear hie hg
      go_upto_region 7 with fail
      apply wp_region_lit
      refine wpList_moveAcc (by rfl) _ (by rfl) (by rfl) _ _ (by rfl) (by rfl) bm 0 58 br 0 58 [] [] [] [] (W 0) (grt x) (by rfl) (At.whole hkm) (W_length _) (At.whole hkr) (fun _ => by rfl) (fun _ => by rfl) ?_
      intro w6 hk6 hc6
      go_wp2_with fail
      exact bodyPost_ret (results_row (by rfl) _ _ _ br 0 (by rfl) (W (grt x)) _ hk6.rangeAt Takg.underlying58 (by rfl) (by rw [W_length]; exact info58)) rfl ⟨rfl, hcr.news hc6 (by simp; omega)⟩
end Sh
end Go.Proofs.Ygctak
