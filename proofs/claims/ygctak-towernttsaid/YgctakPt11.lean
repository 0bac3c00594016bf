/-
  Walks: shadow.run.
-/
import Derived.Test.YgctakPt10
namespace Go.Proofs.Ygctak
open Go.RowKit
set_option linter.unusedVariables false
set_option linter.unusedSimpArgs false
attribute [local go_sem ↓] Go.wp_at_zero Go.wp_at_succ
attribute [local go_sem] Fl.run_store_complex Fl.run_store_float
namespace Sh
open Ac Fl

/-- What is asked of an argument of digits: that Start lays them. -/
def Laid (w : World) (v : Value) (ds : List Int) (n : Nat) : Prop := ∀ W, Chg [] w W → Calls Takg.prog 60 #[v, .int .i64 n] W fun e w' => ∃ bx, e = .returned (.slice (some ⟨bx, 0, none⟩) n n) ∧ Hid (bx = W.heap.size) ∧ Blk w' bx 113 (Pts (start ds n)) ∧ Chg [] W w'

/-- The first i roots turned. -/
def cjTo (T : List (Nat × Nat)) (i : Nat) : List (Nat × Nat) := (T.take i).map conj ++ T.drop i
theorem cjTo_length (T : List (Nat × Nat)) (i : Nat) (h : i ≤ T.length) : (cjTo T i).length = T.length := by simp [cjTo]; omega
theorem cjTo_get (T : List (Nat × Nat)) (i : Nat) (h : i < T.length) : (cjTo T i).getD i (0, 0) = T.getD i (0, 0) := by
  unfold cjTo
  simp only [List.getD_eq_getElem?_getD]
  rw [List.getElem?_append_right (by simp; omega)]
  simp [Nat.min_eq_left (Nat.le_of_lt h)]
theorem cjTo_set (T : List (Nat × Nat)) (i : Nat) (h : i < T.length) : (cjTo T i).set i (conj (T.getD i (0, 0))) = cjTo T (i + 1) := by
  unfold cjTo
  have hl : ((T.take i).map conj).length = i := by simp; omega
  have hg : T.getD i (0, 0) = T[i] := by simp [List.getD_eq_getElem?_getD, List.getElem?_eq_getElem h]
  have ht : (T.take (i + 1)).map conj = (T.take i).map conj ++ [conj T[i]] := by
    rw [List.take_add_one, List.getElem?_eq_getElem h, List.map_append]
    rfl
  rw [ht, hg, List.set_append_right _ _ (by omega), hl, Nat.sub_self, List.drop_eq_getElem_cons h, List.set_cons_zero, List.append_assoc]
  rfl

set_option maxRecDepth 100000 in
set_option maxHeartbeats 4000000 in
theorem run_any (k d : Nat) (va vb : Value) (xa xb : List Int) (w : World) (hk0 : 1 ≤ k) (hk : k ≤ 10) (hd : d ≤ 255) (ha : Digs d xa) (hb : Digs d xb) (hsa : Laid w va xa (2 ^ k)) (hsb : Laid w vb xb (2 ^ k)) :
    Calls Takg.prog 57 #[va, vb, .int .u8 k, .int .u8 d] w fun e w' => ∃ bx, e = .returned (.slice (some ⟨bx, 0, none⟩) (2 ^ k) (2 ^ k)) ∧ Blk w' bx 113 (Pts (shRun k d xa xb)) ∧ Chg [] w w' := by
  have hn2 : 2 ^ k ≤ 1024 := Nat.pow_le_pow_right (n := 2) (by omega) hk
  have hw64 := wrap64_pow k (by omega)
  have HTab := hide (fun W => Table_any k W hk0 (by omega))
  obtain ⟨htl, htf⟩ := tab_keep k hk0 (by omega)
  have HTL := hide htl
  have hh2 : 2 ^ (k - 1) ≤ 2 ^ 10 := Nat.pow_le_pow_right (n := 2) (by omega) (by omega)
  -- the walks of the callees, at this k
  have HRev := hide (fun (b : Nat) (x : List P) (W : World) (hl : x.length = 2 ^ k) (hB : Blk W b 113 (Pts x)) => Reverse_any b 113 k x W hk hl hB)
  have HDiv := hide (fun (b : Nat) (x : List P) (W : World) (hl : x.length = 2 ^ k) (hB : Blk W b 113 (Pts x)) (hx : AllP 347 150 x) => Divide_any b 113 k 347 x W hk0 hk hl hB hx)
  have HSt := hide (fun (b bt t m E : Nat) (x : List P) (T : List (Nat × Nat)) (W : World) (ht1 : 1 ≤ t) (htk : t ≤ k) (hm : m ≤ 18446744073709551615) (hn : x.length = 2 ^ k) (hT : T.length = 2 ^ (k - 1)) (hB : Blk W b 113 (Pts x)) (hbt : Blk W bt 103 (C T)) (hx : AllP E 150 x) (hTf : AllC (k - 1) T) (hE : E + (k - 1) + 2 ≤ 1023) (hne : b ≠ bt) =>
    Stage_any b bt 113 k t m E (k - 1) x T W hk ht1 htk hm hn hT hB hbt hx hTf hE hne)
  have HTm := hide (fun (b b2 m : Nat) (x y : List P) (W : World) (hm : m ≤ 130561) (hn : x.length = 2 ^ k) (hny : y.length = 2 ^ k) (hne : b ≠ b2) (hB : Blk W b 113 (Pts x)) (hB2 : Blk W b2 113 (Pts y)) (hx : AllP 118 130 x) (hy : AllP 118 130 y) =>
    Times_any b 113 b2 113 (2 ^ k) m 118 118 x y W hn2 hm hn hny hne hB hB2 hx hy (by omega))
  have HFL := hide (fun xs => fwd_length k d xs)
  have HSL := hide (fun xs => start_length xs (2 ^ k))
  have hsa := hide hsa
  have hsb := hide hsb
  obtain ⟨n, en⟩ : ∃ n, n = 2 ^ k := ⟨_, rfl⟩
  obtain ⟨h, eh⟩ : ∃ h, h = 2 ^ (k - 1) := ⟨_, rfl⟩
  have HEN := hide en
  rw [← en] at hn2 hw64 HRev HDiv HSt HTm hsa hsb HFL HSL ⊢
  rw [← eh] at HTab HSt HTL hh2
  rw [show (2 : Nat) ^ 10 = 1024 from rfl] at hh2
  have HW := hide hw64
  clear en eh hw64 htl
  go_enter Takg.func57, Takg.ntmps57
  go_wp2_with fail
  refine (HTab.out _).mono ?_
  rintro e1 w1 ⟨bt, rfl, hbt1, hkt1, hc1⟩
  have hw64 := HW.out
  go_wp2_with fail
  refine (hsa.out _ hc1).mono ?_
  rintro e2 w2 ⟨bx, rfl, hbx2, hkx2, hc2⟩
  have hc12 : Chg [] w w2 := hc1.trans hc2
  go_wp2_with fail
  refine (hsb.out _ hc12).mono ?_
  rintro e3 w3 ⟨bz, rfl, hby3, hky3, hc3⟩
  clear hw64
  have hkt3 := hc3.blk (hc2.blk hkt1 (by simp)) (by simp)
  have hkx3 := hc3.blk hkx2 (by simp)
  have hc13 : Chg [] w w3 := hc12.trans hc3
  have gt : w.heap.size ≤ bt := by have := hbt1.out; omega
  have gx : w.heap.size ≤ bx := by have := hbx2.out; have := hc1.size; omega
  have gy : w.heap.size ≤ bz := by have := hby3.out; have := hc12.size; omega
  have ntx : bt ≠ bx := by have := hbx2.out; have := hkt1.lt; omega
  have nty : bt ≠ bz := by have := hby3.out; have := hkt1.lt; have := hc2.size; omega
  have nxy : bx ≠ bz := by have := hby3.out; have := hkx2.lt; omega
  clear hbt1 hbx2 hby3 hkt1 hkx2 hc1 hc2 hc3 hc12
  go_wp2_with fail
  refine (HRev.out bx _ _ (HSL.out xa) hkx3).mono ?_
  rintro e4 w4 ⟨rfl, hkx4, hc4⟩
  have hky4 := hc4.blk hky3 (by simpa using Ne.symm nxy)
  have hkt4 := hc4.blk hkt3 (by simpa using ntx)
  have hc14 := hc13.news hc4 (by simp; omega)
  clear hkx3 hky3 hkt3 hc4 hc13
  go_wp2_with fail
  refine (HRev.out bz _ _ (HSL.out xb) hky4).mono ?_
  rintro e5 w5 ⟨rfl, hky5, hc5⟩
  have hkx5 := hc5.blk hkx4 (by simpa using nxy)
  have hkt5 := hc5.blk hkt4 (by simpa using nty)
  have hc15 := hc14.news hc5 (by simp; omega)
  clear hkx4 hky4 hkt4 hc5 hc14
  obtain ⟨T, hT⟩ : ∃ T, T = tab k := ⟨_, rfl⟩
  have HTE := hide hT
  rw [← hT] at hkt5 htf HTL
  have hx5 := (start_keep xa n hd ha).rvs k
  have hy5 := (start_keep xb n hd hb).rvs k
  have HRL := hide (fun x => rvs_length k x)
  have hsx : Hid (fws k d T (k + 1 - 1) 1 (rvs k (start xa n)) = fwd k d xa) := by unfold Hid fwd; rw [hT, HEN.out]; rfl
  have hsy : Hid (fws k d T (k + 1 - 1) 1 (rvs k (start xb n)) = fwd k d xb) := by unfold Hid fwd; rw [hT, HEN.out]; rfl
  have hxl : Hid ((rvs k (start xa n)).length = n) := (rvs_length _ _).trans (start_length _ _)
  have hyl : Hid ((rvs k (start xb n)).length = n) := (rvs_length _ _).trans (start_length _ _)
  generalize rvs k (start xa n) = x5 at *
  generalize rvs k (start xb n) = y5 at *
  clear hT
  go_upto_block 0 with fail
  go_cut [] (fun wc => Blk wc bx 113 (Pts (fwd k d xa)) ∧ Blk wc bz 113 (Pts (fwd k d xb)) ∧ Blk wc bt 103 (C T) ∧ Chg [] w wc)
  case first =>
    go_wp2_with fail
    go_loopw [12] (fun v wr => ∃ (t : Nat) (x y : List P), v = .int .u8 t ∧ 1 ≤ t ∧ t ≤ k + 1 ∧ Hid (fws k d T (k + 1 - t) t x = fwd k d xa) ∧ Hid (fws k d T (k + 1 - t) t y = fwd k d xb) ∧ Hid (x.length = n) ∧ Hid (y.length = n) ∧
      AllP (8 + 13 * (t - 1)) (80 + 2 * (t - 1)) x ∧ AllP (8 + 13 * (t - 1)) (80 + 2 * (t - 1)) y ∧ Blk wr bx 113 (Pts x) ∧ Blk wr bz 113 (Pts y) ∧ Blk wr bt 103 (C T) ∧ Chg [] w wr) (fun v _ => 20 - (intOf v).toNat)
    case atStart => exact ⟨1, x5, y5, rfl, by omega, by omega, hsx, hsy, hxl, hyl, hx5, hy5, hkx5, hky5, hkt5, hc15⟩
    case round =>
      clear hsx hsy hxl hyl hx5 hy5 hkx5 hky5 hkt5 hc15
      obtain ⟨t, x, y, rfl, ht1, htk, hsx, hsy, hxl, hyl, hx, hy, hkx, hky, hkt, hcr⟩ := hrel
      by_cases htl : t ≤ k
      · have hml := most_le t d hd
        have HMo := hide (fun W => Most_any t d W ht1 (by omega) hd)
        have ho : (most t d : Int) * 2 ^ 32 + 1 + 1 ≤ 2 ^ 80 := by
          have : (130561 : Int) * 2 ^ 32 + 2 ≤ 2 ^ 80 := by decide
          omega
        have hx2 := (stg_keep (2 ^ (t - 1)) (2 ^ (k - t)) ((most t d : Int) * 2 ^ 32 + 1) hx htf (by omega) (by omega) (pow80 (by omega) ho)).mono (show _ ≤ 8 + 13 * (t + 1 - 1) by omega) (show _ ≤ 80 + 2 * (t + 1 - 1) by omega)
        have hy2 := (stg_keep (2 ^ (t - 1)) (2 ^ (k - t)) ((most t d : Int) * 2 ^ 32 + 1) hy htf (by omega) (by omega) (pow80 (by omega) ho)).mono (show _ ≤ 8 + 13 * (t + 1 - 1) by omega) (show _ ≤ 80 + 2 * (t + 1 - 1) by omega)
        have hsx2 : Hid (fws k d T (k + 1 - (t + 1)) (t + 1) (stg x T (2 ^ (t - 1)) (2 ^ (k - t)) ((most t d : Int) * 2 ^ 32 + 1)) = fwd k d xa) := by
          unfold Hid; rw [← hsx.out, show k + 1 - t = k + 1 - (t + 1) + 1 by omega]; rfl
        have hsy2 : Hid (fws k d T (k + 1 - (t + 1)) (t + 1) (stg y T (2 ^ (t - 1)) (2 ^ (k - t)) ((most t d : Int) * 2 ^ 32 + 1)) = fwd k d xb) := by
          unfold Hid; rw [← hsy.out, show k + 1 - t = k + 1 - (t + 1) + 1 by omega]; rfl
        have hxl2 : Hid ((stg x T (2 ^ (t - 1)) (2 ^ (k - t)) ((most t d : Int) * 2 ^ 32 + 1)).length = n) := (stg_length _ _ _ _ _).trans hxl.out
        have hyl2 : Hid ((stg y T (2 ^ (t - 1)) (2 ^ (k - t)) ((most t d : Int) * 2 ^ 32 + 1)).length = n) := (stg_length _ _ _ _ _).trans hyl.out
        have HSx := hide (HSt.out bx bt t (most t d) _ x T wr ht1 htl (by omega) hxl.out HTL.out hkx hkt (hx.mono (Nat.le_refl _) (by omega)) htf (by omega) (Ne.symm ntx))
        obtain ⟨x', hx'⟩ : ∃ x', x' = stg x T (2 ^ (t - 1)) (2 ^ (k - t)) ((most t d : Int) * 2 ^ 32 + 1) := ⟨_, rfl⟩
        rw [← hx'] at hx2 hsx2 hxl2 HSx
        have HSy := hide (fun W hB hC => HSt.out bz bt t (most t d) _ y T W ht1 htl (by omega) hyl.out HTL.out hB hC (hy.mono (Nat.le_refl _) (by omega)) htf (by omega) (Ne.symm nty))
        obtain ⟨y', hy'⟩ : ∃ y', y' = stg y T (2 ^ (t - 1)) (2 ^ (k - t)) ((most t d : Int) * 2 ^ 32 + 1) := ⟨_, rfl⟩
        rw [← hy'] at hy2 hsy2 hyl2 HSy
        clear hx' hy' ho hx hy hsx hsy hxl hyl
        go_wp2_with fail
        refine (HMo.out _).mono ?_
        rintro e6 w6 ⟨rfl, rfl⟩
        go_wp2_with fail
        refine HSx.out.mono ?_
        rintro e7 w7 ⟨rfl, hkx7, hc7⟩
        have hky7 := hc7.blk hky (by simpa using Ne.symm nxy)
        have hkt7 := hc7.blk hkt (by simpa using ntx)
        have hcr7 := hcr.news hc7 (by simp; omega)
        clear hkx hky hkt hcr hc7 HSx
        go_wp2_with fail
        refine (HMo.out _).mono ?_
        rintro e8 w8 ⟨rfl, rfl⟩
        go_wp2_with fail
        refine (HSy.out _ hky7 hkt7).mono ?_
        rintro e9 w9 ⟨rfl, hky9, hc9⟩
        have hkx9 := hc9.blk hkx7 (by simpa using nxy)
        have hkt9 := hc9.blk hkt7 (by simpa using nty)
        have hcr9 := hcr7.news hc9 (by simp; omega)
        clear hkx7 hky7 hkt7 hcr7 hc9 HSy HMo
        go_wp2_with fail
        go_roundw
        case rel => exact ⟨t + 1, x', y', by go_num, by omega, by omega, hsx2, hsy2, hxl2, hyl2, hx2, hy2, hkx9, hky9, hkt9, hcr9⟩
        case measure => simp [intOf]; omega
      · have hte : t = k + 1 := by omega
        have h1 := hsx.out
        have h2 := hsy.out
        rw [hte, Nat.sub_self] at h1 h2
        have h3 : x = fwd k d xa := h1
        have h4 : y = fwd k d xb := h2
        rw [h3] at hkx
        rw [h4] at hky
        clear hte h1 h2 h3 h4
        go_wp2_with fail
        go_meet
        exact ⟨hkx, hky, hkt, hcr⟩
  case rest =>
    clear hsx hsy hxl hyl hx5 hy5 hkx5 hky5 hkt5 hc15
    obtain ⟨hkx, hky, hkt, hcr⟩ := hcut
    have hml := most_le (k + 1) d hd
    have hcall := fun W => Most_any (k + 1) d W (by omega) (by omega) hd
    rw [show ((k + 1 : Nat) : Int) = (k : Int) + 1 by omega] at hcall
    have HMo := hide hcall
    have hfx := (fwd_keep k d xa hk0 hk hd ha).mono (Nat.le_refl _) (show 100 ≤ 130 by omega)
    have hfy := (fwd_keep k d xb hk0 hk hd hb).mono (Nat.le_refl _) (show 100 ≤ 130 by omega)
    have HT1 := hide (HTm.out bx bz (most (k + 1) d) _ _ wc hml (HFL.out xa) (HFL.out xb) nxy hkx hky hfx hfy)
    clear hcall hfx hfy
    go_wp2_with fail
    refine (HMo.out _).mono ?_
    rintro e6 w6 ⟨rfl, rfl⟩
    go_wp2_with fail
    refine HT1.out.mono ?_
    rintro e7 w7 ⟨rfl, hkx7, hc7⟩
    have hkt7 := hc7.blk hkt (by simpa using ntx)
    have hcr7 := hcr.news hc7 (by simp; omega)
    have hxm := mid_keep k d xa xb hk0 hk hd ha hb
    have hrun : shRun k d xa xb = dvs k (bws k d (T.map conj) (k + 1 - 1) 1 (rvs k (tms (fwd k d xa) (fwd k d xb) (most (k + 1) d)))) := by rw [HTE.out]; rfl
    have HRUN := hide hrun
    have hml2 : Hid ((tms (fwd k d xa) (fwd k d xb) (most (k + 1) d)).length = n) := (tms_length _ _ _).trans (HFL.out xa)
    obtain ⟨z0, hz0⟩ : ∃ z, z = tms (fwd k d xa) (fwd k d xb) (most (k + 1) d) := ⟨_, rfl⟩
    rw [← hz0] at hkx7 hxm HRUN hml2
    clear hkx hky hkt hcr hc7 HT1 HMo hml hz0 hrun
    go_upto_block 2 with fail
    go_cut [] (fun wc => Blk wc bx 113 (Pts z0) ∧ Blk wc bt 103 (C (T.map conj)) ∧ Chg [] w wc)
    case first =>
      go_wp2_with fail
      go_loopw [13] (fun v wr => ∃ i : Nat, v = .int .i64 i ∧ i ≤ h ∧ Blk wr bx 113 (Pts z0) ∧ Blk wr bt 103 (C (cjTo T i)) ∧ Chg [] w wr) (fun v _ => h - (intOf v).toNat)
      case atStart => exact ⟨0, rfl, by omega, hkx7, by simpa [cjTo] using hkt7, hcr7⟩
      case round =>
        clear hkx7 hkt7 hcr7
        obtain ⟨i, rfl, hi, hkx, hkt, hcr⟩ := hrel
        by_cases hil : i < h
        · have htl := HTL.out
          have hcl := cjTo_length T i (by omega)
          have k0 := hkt.cell _ _ (C_get _ i (by omega))
          rw [cjTo_get T i (by omega)] at k0
          have f0 := hkt.frozen i none
          have hst := hkt.set i (.complex .f64 (conj (T.getD i (0, 0))).1 (conj (T.getD i (0, 0))).2)
          rw [C_set, cjTo_set T i (by omega)] at hst
          obtain ⟨z, hz⟩ : ∃ z, z = T.getD i (0, 0) := ⟨_, rfl⟩
          rw [← hz] at k0 hst
          have hkx2 := hkx.set_ne ⟨bt, i, none⟩ (by simpa using Ne.symm ntx) (.complex .f64 (conj z).1 (conj z).2)
          have hcr2 := hcr.setNew ⟨bt, i, none⟩ (by simp; omega) (.complex .f64 (conj z).1 (conj z).2)
          clear htl hcl hz
          go_wp2_with fail
          refine (Conj_any z.1 z.2 _).mono ?_
          rintro e8 w8 ⟨rfl, rfl⟩
          go_wp2_with fail
          go_roundw
          case rel => exact ⟨i + 1, by go_num, by omega, hkx2, hst, hcr2⟩
          case measure => simp [intOf]; omega
        · have hie : i = T.length := by rw [HTL.out]; omega
          have hcj : cjTo T i = T.map conj := by rw [hie]; simp [cjTo]
          rw [hcj] at hkt
          clear hie hcj
          go_wp2_with fail
          go_meet
          exact ⟨hkx, hkt, hcr⟩
    case rest =>
      clear hkx7 hkt7 hcr7
      obtain ⟨hkx, hkt, hcr⟩ := hcut
      have htc := htf.conj
      have hTCL : Hid ((T.map conj).length = h) := by unfold Hid; rw [List.length_map]; exact HTL.out
      go_wp2_with fail
      refine (HRev.out bx _ _ hml2.out hkx).mono ?_
      rintro e8 w8 ⟨rfl, hkx8, hc8⟩
      have hkt8 := hc8.blk hkt (by simpa using ntx)
      have hcr8 := hcr.news hc8 (by simp; omega)
      have hrl : Hid ((rvs k z0).length = n) := (rvs_length _ _).trans hml2.out
      generalize rvs k z0 = z1 at *
      generalize T.map conj = TC at *
      obtain ⟨res, hres⟩ : ∃ r, r = bws k d TC (k + 1 - 1) 1 z1 := ⟨_, rfl⟩
      have hbk : AllP 347 140 res := by
        have : k * (k - 1 + 2) ≤ 10 * 11 := Nat.mul_le_mul hk (by omega)
        have h1 := bws_keep k d TC hd htc k 1 237 120 z1 hxm (by omega) (by omega) (by omega)
        rw [hres]
        exact h1.mono (by omega) (by omega)
      have hresl : Hid (res.length = n) := by unfold Hid; rw [hres, bws_length]; exact hrl.out
      rw [← hres] at HRUN
      have HRES := hide hres.symm
      clear hkx hkt hcr hc8 hres
      go_upto_block 4 with fail
      go_cut [] (fun wc => Blk wc bx 113 (Pts res) ∧ Chg [] w wc)
      case first =>
        go_wp2_with fail
        go_loopw [14] (fun v wr => ∃ (t : Nat) (x : List P), v = .int .u8 t ∧ 1 ≤ t ∧ t ≤ k + 1 ∧ Hid (bws k d TC (k + 1 - t) t x = res) ∧ Hid (x.length = n) ∧
          AllP (237 + 13 * (t - 1)) (120 + 2 * (t - 1)) x ∧ Blk wr bx 113 (Pts x) ∧ Blk wr bt 103 (C TC) ∧ Chg [] w wr) (fun v _ => 20 - (intOf v).toNat)
        case atStart => exact ⟨1, z1, rfl, by omega, by omega, HRES, hrl, hxm, hkx8, hkt8, hcr8⟩
        case round =>
          clear hkx8 hkt8 hcr8
          obtain ⟨t, x, rfl, ht1, htk, hsx, hxl, hx, hkx, hkt, hcr⟩ := hrel
          by_cases htl : t ≤ k
          · have hml := mostBack_le t k d hd (by omega)
            have HMo := hide (fun W => MostBack_any t k d W ht1 (by omega) hk hd)
            have ho : (mostBack t k d : Int) * 2 ^ 32 + 1 + 1 ≤ 2 ^ 80 := by
              have : (130561 * 130561 * 2 ^ 9 : Int) * 2 ^ 32 + 2 ≤ 2 ^ 80 := by decide
              omega
            have hx2 := (stg_keep (2 ^ (t - 1)) (2 ^ (k - t)) ((mostBack t k d : Int) * 2 ^ 32 + 1) hx htc (by omega) (by omega) (pow80 (by omega) ho)).mono (show _ ≤ 237 + 13 * (t + 1 - 1) by omega) (show _ ≤ 120 + 2 * (t + 1 - 1) by omega)
            have hsx2 : Hid (bws k d TC (k + 1 - (t + 1)) (t + 1) (stg x TC (2 ^ (t - 1)) (2 ^ (k - t)) ((mostBack t k d : Int) * 2 ^ 32 + 1)) = res) := by
              unfold Hid; rw [← hsx.out, show k + 1 - t = k + 1 - (t + 1) + 1 by omega]; rfl
            have hxl2 : Hid ((stg x TC (2 ^ (t - 1)) (2 ^ (k - t)) ((mostBack t k d : Int) * 2 ^ 32 + 1)).length = n) := (stg_length _ _ _ _ _).trans hxl.out
            have HSx := hide (HSt.out bx bt t (mostBack t k d) _ x TC wr ht1 htl (Nat.le_trans hml (by decide)) hxl.out hTCL.out hkx hkt (hx.mono (Nat.le_refl _) (by omega)) htc (by omega) (Ne.symm ntx))
            obtain ⟨x', hx'⟩ : ∃ x', x' = stg x TC (2 ^ (t - 1)) (2 ^ (k - t)) ((mostBack t k d : Int) * 2 ^ 32 + 1) := ⟨_, rfl⟩
            rw [← hx'] at hx2 hsx2 hxl2 HSx
            clear hx' ho hx hsx hxl hml
            go_wp2_with fail
            refine (HMo.out _).mono ?_
            rintro e6 w6 ⟨rfl, rfl⟩
            go_wp2_with fail
            refine HSx.out.mono ?_
            rintro e7 w7 ⟨rfl, hkx7, hc7⟩
            have hkt7 := hc7.blk hkt (by simpa using ntx)
            have hcr7 := hcr.news hc7 (by simp; omega)
            clear hkx hkt hcr hc7 HSx HMo
            go_wp2_with fail
            go_roundw
            case rel => exact ⟨t + 1, x', by go_num, by omega, by omega, hsx2, hxl2, hx2, hkx7, hkt7, hcr7⟩
            case measure => simp [intOf]; omega
          · have hte : t = k + 1 := by omega
            have h1 := hsx.out
            rw [hte, Nat.sub_self] at h1
            have h3 : x = res := h1
            rw [h3] at hkx
            clear hte h1 h3
            go_wp2_with fail
            go_meet
            exact ⟨hkx, hcr⟩
      case rest =>
        clear hkx8 hkt8 hcr8
        obtain ⟨hkx, hcr⟩ := hcut
        go_wp2_with fail
        refine (HDiv.out bx _ _ hresl.out hkx (hbk.mono (Nat.le_refl _) (by omega))).mono ?_
        rintro e9 w9 ⟨rfl, hkx9, hc9⟩
        have hcr9 := hcr.news hc9 (by simp; omega)
        rw [← HRUN.out] at hkx9
        clear hkx hcr hc9
        go_wp2_with fail
        go_ret
        exact ⟨bx, rfl, hkx9, hcr9⟩
end Sh
end Go.Proofs.Ygctak
