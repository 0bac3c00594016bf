/-
  calc.Step: Dup, Drop.
-/
import Derived.Test.YgctakNa18
import Derived.BigQuiet
namespace Go.Proofs.Ygctak
open Go.RowKit
set_option linter.unusedVariables false
set_option linter.unusedSimpArgs false
attribute [local go_sem ↓] Go.wp_at_zero Go.wp_at_succ
namespace Na

set_option maxRecDepth 10000 in
set_option maxHeartbeats 4000000 in
theorem stepDup (B bm eng na ca : Nat) (aa : Option Addr) (v1 v2 : Value) (es : Es) (os : List Int) (w : World) (h : Mac B w bm v1 es v2 os) (he : eng ≤ 3) (ax : Option Addr) (x : Nat) (hx : es[es.length - 1]? = some (ax, x)) (hlt : es.length < 16) :
    Calls Takg.prog 93 #[.int .u8 eng, .pointer (some ⟨bm, 0, none⟩), .agg #[.int .u8 6, .slice aa na ca]] w fun e w' => Sre B w w' bm e (es.map (·.2) ++ [x]) os := by
  obtain ⟨a, cap, rfl, hcap, hmax, hst⟩ := h.stk
  have HM := hide h
  have hn16 := h.n1
  obtain ⟨g, rfl, hS⟩ : ∃ g, a = some ⟨g, 0, none⟩ ∧ Stk w g cap es := by
    rcases hst with h0 | h1
    · rw [h0] at hx; simp at hx
    · exact h1
  have HS := hide hS
  have HX := hide hx
  have HN : Hid (∀ W, Calls Takg.prog 124 #[.int .u8 6] W fun e w' => e = .returned (.tuple #[.int .i64 1, .bool true]) ∧ w' = W) := fun W => room_any 6 W (by omega)
  have hEx := hS.ent _ (List.mem_of_getElem? hx)
  have HEX := hide hEx
  have hdx : dlen x ≤ 1024 := hEx.2
  clear hEx
  have HLT := hide hlt
  obtain ⟨q, en⟩ : ∃ q, es.length = q + 1 := ⟨es.length - 1, by have := (List.getElem?_eq_some_iff.1 hx).1; omega⟩
  rw [en] at hcap HM hn16
  have hq : (es.length - 1 : Nat) = q + 0 := by omega
  have HCX : Hid (∀ W, Chg [] w W → W.cell? ⟨g, q, none⟩ = some (.slice ax (dlen x) (dlen x))) := fun W hW => (hS.chg0 hW).cell _ _ (by rw [hq] at hx; exact hx)
  have HEN := hide en
  clear h hst en hx hS hq
  have e1 : ((q + 1 : Nat) : Int) - 1 = ((q : Nat) : Int) := by omega
  go_enter Takg.func93, Takg.ntmps93
  go_upto_region 1 with (refine wpList_box95 (by rfl) (.tmp 2) (by rfl) (.int .u8 6) (.slice aa na ca) (by rfl) ?_; intro b5 wd hbd k5 cbd)
  have f0 := k5.cell 0 _ rfl
  simp only [Act.put, List.setIfInBounds_toArray, List.set_cons_zero, List.set_cons_succ]
  go_wp2_with fail
  refine (HN.out _).mono ?_
  rintro r w2 ⟨rfl, rfl⟩
  have HM2 := hide (HM.out.chg0 cbd)
  have HCK := hide (Check_any _ _ _ _ _ _ _ HM2.out)
  have HC1 := hide cbd
  clear cbd hbd
  go_wp2_with fail
  refine HCK.out.mono ?_
  rintro r w3 ⟨rfl, cw3⟩
  have HM3 := hide (HM2.out.chg0 cw3)
  have HC3 := hide (HC1.out.trans cw3)
  have f1 := HM3.out.m.cell 0 _ rfl
  have k53 := cw3.blk k5 (by simp)
  have g0 := k53.cell 0 _ rfl
  have c1 := HCX.out _ HC3.out
  clear f0 k5 HCK cw3 k53
  have HT := hide (copied_any ax x _ hdx (HEX.out.1.chg0 HC3.out))
  have HPP := hide (fun a' W (hN : New w3 W a' x) (hW : Chg [] w3 W) => push_any _ _ x _ _ _ _ a' _ (HM3.out.chg0 hW) HLT.out hN.ent HEX.out.2 (HM3.out.free hN))
  generalize dlen x = dx at *
  have hlt2 : q + 1 < 16 := by have := HEN.out; omega
  clear hlt
  go_wp2_with fail
  refine HT.out.mono ?_
  rintro r w4 ⟨a', rfl, hnew, cw4⟩
  have HP := hide (HPP.out a' _ hnew cw4)
  have HC4 := hide (HC3.out.trans cw4)
  clear hnew cw4 f1 g0
  go_wp2_with fail
  refine HP.out.mono ?_
  rintro r w5 ⟨rfl, v1', hM5, hA5⟩
  go_wp2_with fail
  go_end0
  exact ⟨rfl, _, _, _, hM5, by simp, (Abv.of HC4.out).trans hA5⟩

set_option maxRecDepth 10000 in
set_option maxHeartbeats 4000000 in
theorem stepDrop (B bm eng na ca : Nat) (aa : Option Addr) (v1 v2 : Value) (es : Es) (os : List Int) (w : World) (h : Mac B w bm v1 es v2 os) (he : eng ≤ 3) (ax : Option Addr) (x : Nat) (hx : es[es.length - 1]? = some (ax, x)) :
    Calls Takg.prog 93 #[.int .u8 eng, .pointer (some ⟨bm, 0, none⟩), .agg #[.int .u8 8, .slice aa na ca]] w fun e w' => Sre B w w' bm e ((es.take (es.length - 1)).map (·.2)) os := by
  obtain ⟨a, cap, rfl, hcap, hmax, hst⟩ := h.stk
  have HM := hide h
  have hn16 := h.n1
  obtain ⟨g, rfl, hS⟩ : ∃ g, a = some ⟨g, 0, none⟩ ∧ Stk w g cap es := by
    rcases hst with h0 | h1
    · rw [h0] at hx; simp at hx
    · exact h1
  have HS := hide hS
  have HX := hide hx
  have HN : Hid (∀ W, Calls Takg.prog 124 #[.int .u8 8] W fun e w' => e = .returned (.tuple #[.int .i64 1, .bool false]) ∧ w' = W) := fun W => room_any 8 W (by omega)
  obtain ⟨q, en⟩ : ∃ q, es.length = q + 1 := ⟨es.length - 1, by have := (List.getElem?_eq_some_iff.1 hx).1; omega⟩
  rw [en] at hcap HM hn16
  have hq : (es.length - 1 : Nat) = q + 0 := by omega
  have HCX : Hid (∀ W, Chg [] w W → W.cell? ⟨g, q, none⟩ = some (.slice ax (dlen x) (dlen x))) := fun W hW => (hS.chg0 hW).cell _ _ (by rw [hq] at hx; exact hx)
  have HEN := hide en
  clear h hst en hx hS hq
  have e1 : ((q + 1 : Nat) : Int) - 1 = ((q : Nat) : Int) := by omega
  go_enter Takg.func93, Takg.ntmps93
  go_upto_region 1 with (refine wpList_box95 (by rfl) (.tmp 2) (by rfl) (.int .u8 8) (.slice aa na ca) (by rfl) ?_; intro b5 wd hbd k5 cbd)
  have f0 := k5.cell 0 _ rfl
  simp only [Act.put, List.setIfInBounds_toArray, List.set_cons_zero, List.set_cons_succ]
  go_wp2_with fail
  refine (HN.out _).mono ?_
  rintro r w2 ⟨rfl, rfl⟩
  have HM2 := hide (HM.out.chg0 cbd)
  have HCK := hide (Check_any _ _ _ _ _ _ _ HM2.out)
  have HC1 := hide cbd
  clear cbd hbd
  go_wp2_with fail
  refine HCK.out.mono ?_
  rintro r w3 ⟨rfl, cw3⟩
  have HM3 := hide (HM2.out.chg0 cw3)
  have HC3 := hide (HC1.out.trans cw3)
  have f1 := HM3.out.m.cell 0 _ rfl
  have k53 := cw3.blk k5 (by simp)
  have g0 := k53.cell 0 _ rfl
  have c1 := HCX.out _ HC3.out
  clear f0 k5 HCK cw3 k53
  obtain ⟨gx, capx, ex, hcx, hmx, hMx, hAx⟩ := HM3.out.cutTo (k := q) (by have := HEN.out; omega) (by have := HEN.out; omega)
  have ex2 : gx = g ∧ capx = cap := by
    injection ex with h1 h2 h3
    injection h1 with h4
    injection h4 with h5
    exact ⟨h5.symm, h3.symm⟩
  obtain ⟨rfl, rfl⟩ := ex2
  have HMX := hide (And.intro hMx hAx)
  have hs3 := slice_h0 (P := Takg.prog) 89 gx 0 (q + 1) capx q 1 Takg.underlying89 size89 (by omega)
  have fz := HM3.out.m.frozen 0 none
  clear hMx hAx ex hcx hmx c1
  go_wp2_with fail
  go_end0
  refine ⟨rfl, _, _, _, HMX.out.1, ?_, (Abv.of HC3.out).trans HMX.out.2⟩
  rw [HEN.out]; rfl

end Na
end Go.Proofs.Ygctak
