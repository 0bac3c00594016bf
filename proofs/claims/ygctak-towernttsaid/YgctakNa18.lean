/-
  calc.Step: what is refused; Push, Dup, Drop.
-/
import Derived.Test.YgctakNa17
namespace Go.Proofs.Ygctak
open Go.RowKit
set_option linter.unusedVariables false
set_option linter.unusedSimpArgs false
attribute [local go_sem ↓] Go.wp_at_zero Go.wp_at_succ
namespace Na

/-- What a step leaves. -/
def Sre (B : Nat) (w w' : World) (bm : Nat) (e : Ending) (vs : List Nat) (os : List Int) : Prop :=
  e = .returned (.tuple #[]) ∧ ∃ v1 es v2, Mac B w' bm v1 es v2 os ∧ es.map (·.2) = vs ∧ Abv B w w'

set_option maxRecDepth 10000 in
set_option maxHeartbeats 2000000 in
theorem stepNo (B bm eng kd na ca : Nat) (aa : Option Addr) (v1 v2 : Value) (es : Es) (os : List Int) (w : World) (h : Mac B w bm v1 es v2 os) (ho : os.length < 1000) (he : eng ≤ 3) (hk : kd ≤ 8)
    (hno : (es.length : Int) < need kd ∨ (more kd = true ∧ 16 ≤ es.length)) :
    Calls Takg.prog 93 #[.int .u8 eng, .pointer (some ⟨bm, 0, none⟩), .agg #[.int .u8 kd, .slice aa na ca]] w fun e w' => Sre B w w' bm e (es.map (·.2)) (os ++ [-2]) := by
  obtain ⟨a, cap, rfl, hcap, hmax, hst⟩ := h.stk
  have hn16 := h.n1
  have HM := hide h
  have HO := hide ho
  have HN := hide (fun W => room_any kd W (by omega))
  have hnd : 0 ≤ need kd ∧ need kd ≤ 2 := by unfold need; split <;> (try split) <;> (try split) <;> omega
  obtain ⟨n, en⟩ : ∃ n, n = es.length := ⟨_, rfl⟩
  rw [← en] at hcap hn16 hno HM
  generalize need kd = nd at *
  generalize more kd = mr at *
  have HEN := hide en
  clear h hst en ho hk
  go_enter Takg.func93, Takg.ntmps93
  go_upto_region 1 with (refine wpList_box95 (by rfl) (.tmp 2) (by rfl) (.int .u8 kd) (.slice aa na ca) (by rfl) ?_; intro b5 wd hbd k5 cbd)
  have f0 := k5.cell 0 _ rfl
  simp only [Act.put, List.setIfInBounds_toArray, List.set_cons_zero, List.set_cons_succ]
  go_wp2_with fail
  refine (HN.out _).mono ?_
  rintro r w2 ⟨rfl, rfl⟩
  have HM2 := hide (HM.out.chg0 cbd)
  have HCK := hide (Check_any _ _ _ _ _ _ _ HM2.out)
  have HC1 := hide cbd
  clear cbd hbd
  go_wp2_with fail
  refine HCK.out.mono ?_
  rintro r w3 ⟨rfl, cw3⟩
  have HM3 := hide (HM2.out.chg0 cw3)
  have HC3 := hide (HC1.out.trans cw3)
  have f1 := HM3.out.m.cell 0 _ rfl
  clear f0 k5 HCK cw3
  have HP := hide (put_any _ _ _ _ _ _ (-2) _ HM3.out HO.out)
  go_upto_region 4 with fail
  clear f1
  rcases hno with hlt | ⟨rfl, hge⟩
  · go_wp2_with fail
    refine HP.out.mono ?_
    rintro r w4 ⟨rfl, v2', hM4, hA4⟩
    go_wp2_with fail
    refine bodyPost_ret (results_none rfl _ _ _) rfl ?_
    exact ⟨rfl, _, _, _, hM4, rfl, (Abv.of HC3.out).trans hA4⟩
  · by_cases hlt : (n : Int) < nd
    · go_wp2_with fail
      refine HP.out.mono ?_
      rintro r w4 ⟨rfl, v2', hM4, hA4⟩
      go_wp2_with fail
      refine bodyPost_ret (results_none rfl _ _ _) rfl ?_
      exact ⟨rfl, _, _, _, hM4, rfl, (Abv.of HC3.out).trans hA4⟩
    · go_wp2_with fail
      refine HP.out.mono ?_
      rintro r w4 ⟨rfl, v2', hM4, hA4⟩
      go_wp2_with fail
      refine bodyPost_ret (results_none rfl _ _ _) rfl ?_
      exact ⟨rfl, _, _, _, hM4, rfl, (Abv.of HC3.out).trans hA4⟩

set_option maxRecDepth 10000 in
set_option maxHeartbeats 2000000 in
theorem stepSame (B bm eng kd na ca : Nat) (aa : Option Addr) (v1 v2 : Value) (es : Es) (os : List Int) (w : World) (h : Mac B w bm v1 es v2 os) (he : eng ≤ 3) (hk : 8 < kd) (hk2 : kd < 256) :
    Calls Takg.prog 93 #[.int .u8 eng, .pointer (some ⟨bm, 0, none⟩), .agg #[.int .u8 kd, .slice aa na ca]] w fun e w' => Sre B w w' bm e (es.map (·.2)) os := by
  have HM := hide h
  have HN := hide (fun W => room_any kd W (by omega))
  have e1 : need kd = -1 := by unfold need; rw [if_neg (by omega), if_neg (by omega), if_neg (by omega)]
  rw [e1] at HN
  generalize more kd = mr at *
  clear h e1
  go_enter Takg.func93, Takg.ntmps93
  go_upto_region 1 with (refine wpList_box95 (by rfl) (.tmp 2) (by rfl) (.int .u8 kd) (.slice aa na ca) (by rfl) ?_; intro b5 wd hbd k5 cbd)
  have f0 := k5.cell 0 _ rfl
  simp only [Act.put, List.setIfInBounds_toArray, List.set_cons_zero, List.set_cons_succ]
  go_wp2_with fail
  refine (HN.out _).mono ?_
  rintro r w2 ⟨rfl, rfl⟩
  have HM2 := hide (HM.out.chg0 cbd)
  have HC1 := hide cbd
  clear cbd hbd
  go_wp2_with fail
  refine bodyPost_ret (results_none rfl _ _ _) rfl ?_
  exact ⟨rfl, _, _, _, HM2.out, rfl, Abv.of HC1.out⟩

set_option maxRecDepth 10000 in
set_option maxHeartbeats 2000000 in
theorem stepPush (B bm eng na ca u : Nat) (aa : Option Addr) (v1 v2 : Value) (es : Es) (os : List Int) (w : World) (h : Mac B w bm v1 es v2 os) (he : eng ≤ 3) (hA : Arg w aa na ca u) (hlt : es.length < 16) :
    Calls Takg.prog 93 #[.int .u8 eng, .pointer (some ⟨bm, 0, none⟩), .agg #[.int .u8 0, .slice aa na ca]] w fun e w' => Sre B w w' bm e (es.map (·.2) ++ [u]) os := by
  obtain ⟨a, cap, rfl, hcap, hmax, hst⟩ := h.stk
  have HM := hide h
  have HAA := hide hA
  have HLT := hide hlt
  have HN : Hid (∀ W, Calls Takg.prog 124 #[.int .u8 0] W fun e w' => e = .returned (.tuple #[.int .i64 0, .bool true]) ∧ w' = W) := fun W => room_any 0 W (by omega)
  have hdu : Hid (dlen u ≤ 1024) := by
    have := dlen_le hA.lt
    unfold Hid; omega
  obtain ⟨n, en⟩ : ∃ n, n = es.length := ⟨_, rfl⟩
  rw [← en] at hcap hlt HM
  have HEN := hide en
  clear h hst en hA
  go_enter Takg.func93, Takg.ntmps93
  go_upto_region 1 with (refine wpList_box95 (by rfl) (.tmp 2) (by rfl) (.int .u8 0) (.slice aa na ca) (by rfl) ?_; intro b5 wd hbd k5 cbd)
  have f0 := k5.cell 0 _ rfl
  simp only [Act.put, List.setIfInBounds_toArray, List.set_cons_zero, List.set_cons_succ]
  go_wp2_with fail
  refine (HN.out _).mono ?_
  rintro r w2 ⟨rfl, rfl⟩
  have HM2 := hide (HM.out.chg0 cbd)
  have HCK := hide (Check_any _ _ _ _ _ _ _ HM2.out)
  have HC1 := hide cbd
  clear cbd hbd
  go_wp2_with fail
  refine HCK.out.mono ?_
  rintro r w3 ⟨rfl, cw3⟩
  have HM3 := hide (HM2.out.chg0 cw3)
  have HC3 := hide (HC1.out.trans cw3)
  have f1 := HM3.out.m.cell 0 _ rfl
  have k53 := cw3.blk k5 (by simp)
  have g0 := k53.cell 0 _ rfl
  have g1 := k53.cell 1 _ rfl
  clear f0 k5 HCK cw3 k53
  have HT := hide (take_any aa na ca u _ (HAA.out.chg HC3.out))
  go_wp2_with fail
  refine HT.out.mono ?_
  rintro r w4 ⟨a', rfl, hnew, cw4⟩
  have HP := hide (push_any _ _ u _ _ _ _ a' _ (HM3.out.chg0 cw4) (by have := HLT.out; omega) hnew.ent hdu.out (HM3.out.free hnew))
  have HC4 := hide (HC3.out.trans cw4)
  clear hnew cw4 f1 g0 g1
  go_wp2_with fail
  refine HP.out.mono ?_
  rintro r w5 ⟨rfl, v1', hM5, hA5⟩
  go_wp2_with fail
  go_end0
  exact ⟨rfl, _, _, _, hM5, by simp, (Abv.of HC4.out).trans hA5⟩
end Na
end Go.Proofs.Ygctak
