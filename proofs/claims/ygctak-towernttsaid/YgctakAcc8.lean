/-
  Walks: joined.
-/
import Derived.Test.YgctakAcc7
namespace Go.Proofs.Ygctak
open Go.RowKit
set_option linter.unusedVariables false
set_option linter.unusedSimpArgs false
attribute [local go_sem ↓] Go.wp_at_zero Go.wp_at_succ
namespace Ac

def joi (u v : Int) (pl : Bool) (own : Int) : Int := (if pl then v else spr v) + u + own

set_option maxRecDepth 100000 in
set_option maxHeartbeats 1000000 in
theorem joined_any (u v own : Int) (pl : Bool) (b0 : Nat) (w : World) (v0 : 0 ≤ v) (v1 : v ≤ 2 ^ 150) (h0 : Blk w b0 58 (W own)) :
    Calls Takg.prog 99 #[.agg (W u).toArray, .agg (W v).toArray, .bool pl, .pointer (some ⟨b0, 0, none⟩)] w fun e w' => e = .returned (.agg (W (joi u v pl own)).toArray) ∧ Chg [] w w' := by
  go_enter Takg.func99, Takg.ntmps99
  go_upto_region 1 with (first | (refine wpList_boxAcc (by rfl) (.tmp 0) (by rfl) u (by rfl) ?_; intro b1 w1 hb1 hk1 hc1) | (refine wpList_boxAcc (by rfl) (.tmp 1) (by rfl) v (by rfl) ?_; intro b2 w2 hb2 hk2 hc2) | (refine wpList_zeroAcc (by rfl) (by rfl) ?_; intro b3 w3 hb3 hk3 hc3))
  have hk13 := hc3.blk (hc2.blk hk1 (by simp)) (by simp)
  have hk23 := hc3.blk hk2 (by simp)
  have h03 := hc3.blk (hc2.blk (hc1.blk h0 (by simp)) (by simp)) (by simp)
  have n12 : b1 ≠ b2 := by have := hk1.lt; have := hb2.out; omega
  have n13 : b1 ≠ b3 := by have := (hc2.blk hk1 (by simp)).lt; have := hb3.out; omega
  have n23 : b2 ≠ b3 := by have := hk2.lt; have := hb3.out; omega
  have n02 : b2 ≠ b0 := by have := (hc1.blk h0 (by simp)).lt; have := hb2.out; omega
  have s1 := hc1.size
  have s2 := hc2.size
  have g1 : w.heap.size ≤ b1 := by have := hb1.out; omega
  have g2 : w.heap.size ≤ b2 := by have := hb2.out; omega
  have g3 : w.heap.size ≤ b3 := by have := hb3.out; omega
  have hc : Chg [] w w3 := (hc1.trans hc2).trans hc3
  clear hk1 hk2 h0 hc1 hc2 hc3 hb1 hb2 hb3 s1 s2
  go_upto_if 10 with fail
  go_cut [] (fun wc => Blk wc b1 58 (W u) ∧ Blk wc b2 58 (W (if pl then v else spr v)) ∧ Blk wc b3 58 (W 0) ∧ Blk wc b0 58 (W own) ∧ Chg [] w wc)
  case first =>
    cases pl with
    | true =>
      go_wp2_with fail
      go_meet
      exact ⟨hk13, hk23, hk3, h03, hc⟩
    | false =>
      go_wp2_with (refine wpList_loadAcc (by rfl) _ (by rfl) b2 0 58 [] [] v (by rfl) (At.whole hk23) ?_)
      refine (spread_any v _ v0 v1).mono ?_
      rintro e' w4 ⟨rfl, hc4⟩
      have hk14 := hc4.blk hk13 (by simp)
      have hk24 := hc4.blk hk23 (by simp)
      have hk34 := hc4.blk hk3 (by simp)
      have h04 := hc4.blk h03 (by simp)
      have hc14 := hc.trans hc4
      go_wp2_with (refine wpList_storeAcc (by rfl) _ _ (by rfl) (by rfl) b2 0 58 [] [] (W v) (spr v) (W_length _) (At.whole hk24) (by rfl) (by rfl) ?_; intro w7 hk7 hc7)
      go_meet
      exact ⟨hc7.blk hk14 (by simpa using n12), hk7.toBlk, hc7.blk hk34 (by simpa using Ne.symm n23), hc7.blk h04 (by simpa using Ne.symm n02), hc14.news hc7 (by simp; omega)⟩
  case rest =>
    clear hk13 hk23 hk3 h03 hc
    obtain ⟨hk1, hk2, hk3, h0, hc⟩ := hcut
    obtain ⟨x, hx⟩ : ∃ x, x = (if pl then v else spr v) := ⟨_, rfl⟩
    have HJ : Hid (joi u v pl own = x + u + own) := by rw [hx]; rfl
    rw [← hx] at hk2
    clear hx
    go_wp2_with fail
    refine (Add_any b2 0 58 b1 0 58 [] [] [] [] x u _ (Ne.symm n12) (At.whole hk2) (At.whole hk1)).mono ?_
    rintro e' w4 ⟨rfl, hk4, hc4⟩
    have hk34 := hc4.blk hk3 (by simpa using Ne.symm n23)
    have h04 := hc4.blk h0 (by simpa using Ne.symm n02)
    have hc14 : Chg [] w w4 := hc.news hc4 (by simp; omega)
    clear hk1 hk2 hk3 h0 hc hc4
    go_wp2_with fail
    refine (Add_any b2 0 58 b0 0 58 [] [] [] [] (x + u) own _ n02 hk4 (At.whole h04)).mono ?_
    rintro e' w5 ⟨rfl, hk5, hc5⟩
    have hk35 := hc5.blk hk34 (by simpa using Ne.symm n23)
    have hc15 : Chg [] w w5 := hc14.news hc5 (by simp; omega)
    clear hk4 hk34 h04 hc14 hc5
    go_wp2_with (refine wpList_moveAcc (by rfl) _ (by rfl) (by rfl) _ _ (by rfl) (by rfl) b2 0 58 b3 0 58 [] [] [] [] (W 0) (x + u + own) (by rfl) hk5 (W_length _) (At.whole hk35) (fun _ => by rfl) (fun _ => by rfl) ?_; intro w6 hk6 hc6)
    rw [← HJ.out] at hk6
    exact bodyPost_ret (results_row (by rfl) _ _ _ b3 0 (by rfl) (W (joi u v pl own)) _ hk6.rangeAt Takg.underlying58 (by rfl) (by rw [W_length]; exact info58)) rfl ⟨rfl, hc15.news hc6 (by simp; omega)⟩
end Ac
end Go.Proofs.Ygctak
