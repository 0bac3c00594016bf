/-
  calc.Step: Sub below zero.
-/
import Derived.Test.YgctakNa24
import Derived.BigQuiet
namespace Go.Proofs.Ygctak
open Go.RowKit
set_option linter.unusedVariables false
set_option linter.unusedSimpArgs false
attribute [local go_sem ↓] Go.wp_at_zero Go.wp_at_succ
namespace Na

set_option maxRecDepth 10000 in
set_option maxHeartbeats 4000000 in
theorem stepSubNo (B bm eng na ca : Nat) (aa : Option Addr) (v1 v2 : Value) (es : Es) (os : List Int) (w : World) (h : Mac B w bm v1 es v2 os) (he : eng ≤ 3) (ax ay : Option Addr) (x y : Nat) (hx : es[es.length - 2]? = some (ax, x)) (hy : es[es.length - 1]? = some (ay, y)) (h2n : 2 ≤ es.length) (ho : os.length < 1000) (hg : geB x y = false) :
    Calls Takg.prog 93 #[.int .u8 eng, .pointer (some ⟨bm, 0, none⟩), .agg #[.int .u8 3, .slice aa na ca]] w fun e w' => Sre B w w' bm e ((es.take (es.length - 2)).map (·.2) ++ [x - y]) (os ++ [-4]) := by
  obtain ⟨a, cap, rfl, hcap, hmax, hst⟩ := h.stk
  have HM := hide h
  have hn16 := h.n1
  obtain ⟨g, rfl, hS⟩ : ∃ g, a = some ⟨g, 0, none⟩ ∧ Stk w g cap es := by
    rcases hst with h0 | h1
    · rw [h0] at hx; simp at hx
    · exact h1
  have HS := hide hS
  have HX := hide hx
  have HY := hide hy
  have HN : Hid (∀ W, Calls Takg.prog 124 #[.int .u8 3] W fun e w' => e = .returned (.tuple #[.int .i64 2, .bool false]) ∧ w' = W) := fun W => room_any 3 W (by omega)
  have hEx := hS.ent _ (List.mem_of_getElem? hx)
  have HEX := hide hEx
  have hdx : dlen x ≤ 1024 := hEx.2
  clear hEx
  have hEy := hS.ent _ (List.mem_of_getElem? hy)
  have HEY := hide hEy
  have hdy : dlen y ≤ 1024 := hEy.2
  clear hEy
  have HO := hide ho
  have HZ : Hid (x - y = 0) := by unfold geB at hg; have := of_decide_eq_false hg; unfold Hid; omega
  have hlen := (List.getElem?_eq_some_iff.1 hx).1
  obtain ⟨n, en⟩ : ∃ n, n = es.length := ⟨_, rfl⟩
  rw [← en] at hcap HM hn16 hx hlen hy
  obtain ⟨q1, eq1⟩ : ∃ q1, q1 = n - 1 := ⟨_, rfl⟩
  have l1 : q1 < n := by omega
  have i1 : (0 : Int) ≤ (q1 : Int) := by omega
  have j1 : (q1 : Int) < (n : Int) := by omega
  have e1 : (n : Int) - 1 = (q1 : Int) := by omega
  have hw1 : IntKind.i64.wrap (q1 : Int) = (q1 : Int) := by rw [IntKind.wrap_i64]; omega
  obtain ⟨q2, eq2⟩ : ∃ q2, q2 = n - 2 := ⟨_, rfl⟩
  have hy2 := (List.getElem?_eq_some_iff.1 hy).1
  have hn2 : 2 ≤ n := by omega
  have l2 : q2 < n := by omega
  have i2 : (0 : Int) ≤ (q2 : Int) := by omega
  have j2 : (q2 : Int) < (n : Int) := by omega
  have e2 : (n : Int) - 2 = (q2 : Int) := by omega
  have hw2 : IntKind.i64.wrap (q2 : Int) = (q2 : Int) := by rw [IntKind.wrap_i64]; omega
  rw [← eq2] at hx
  rw [← eq1] at hy
  have HCX : Hid (∀ W, Chg [] w W → W.cell? ⟨g, q2, none⟩ = some (.slice ax (dlen x) (dlen x))) := fun W hW => (hS.chg0 hW).cell _ _ hx
  have HCY : Hid (∀ W, Chg [] w W → W.cell? ⟨g, q1, none⟩ = some (.slice ay (dlen y) (dlen y))) := fun W hW => (hS.chg0 hW).cell _ _ hy
  have HQ := hide (And.intro eq1 eq2)
  have HEN := hide en
  clear h hst en hx hS eq1 hy eq2 hy2 hlen h2n
  go_enter Takg.func93, Takg.ntmps93
  go_upto_region 1 with (refine wpList_box95 (by rfl) (.tmp 2) (by rfl) (.int .u8 3) (.slice aa na ca) (by rfl) ?_; intro b5 wd hbd k5 cbd)
  have f0 := k5.cell 0 _ rfl
  simp only [Act.put, List.setIfInBounds_toArray, List.set_cons_zero, List.set_cons_succ]
  go_wp2_with fail
  refine (HN.out _).mono ?_
  rintro r w2 ⟨rfl, rfl⟩
  have HM2 := hide (HM.out.chg0 cbd)
  have HCK := hide (Check_any _ _ _ _ _ _ _ HM2.out)
  have HC1 := hide cbd
  clear cbd hbd
  go_wp2_with fail
  refine HCK.out.mono ?_
  rintro r w3 ⟨rfl, cw3⟩
  have HM3 := hide (HM2.out.chg0 cw3)
  have HC3 := hide (HC1.out.trans cw3)
  have f1 := HM3.out.m.cell 0 _ rfl
  have k53 := cw3.blk k5 (by simp)
  have g0 := k53.cell 0 _ rfl
  have c1 := HCX.out _ HC3.out
  have c2 := HCY.out _ HC3.out
  clear f0 k5 HCK cw3 k53
  have HT := hide (fun W (hW : Chg [] w3 W) => Sub_any ax ay x y W (by omega) (by omega) ((HEX.out.1.chg0 HC3.out).chg0 hW) ((HEY.out.1.chg0 HC3.out).chg0 hW))
  rw [hg] at HT
  have hdz : dlen (x - y) ≤ 1024 := Nat.le_trans (dlen_up (Nat.sub_le x y)) hdx
  have HP := hide (fun W (hW : Chg [] w3 W) => put_any _ _ _ _ _ _ (-4) _ (HM3.out.chg0 hW) HO.out)
  have HP2 := hide (fun a' W W2 v2' (hN : New w3 W a' (x - y)) (hW : Chg [] w3 W) (hM : Mac B W2 bm (.slice (some ⟨g, 0, none⟩) n cap) es v2' (os ++ [-4])) (hE : Ent W2 a' (x - y)) (hF : Free B bm (.slice (some ⟨g, 0, none⟩) n cap) v2' es a') => replace_two B bm (x - y) _ _ es _ a' W2 hM (by have := HEN.out; omega) hE hdz hF)
  generalize dlen (x - y) = dz at *
  generalize dlen x = dx at *
  generalize dlen y = dy at *
  clear hg
  go_upto_region 24 with fail
  go_cut [9, 10] (fun d ok wc => ∃ a', d = .slice a' dz dz ∧ ok = .bool false ∧ New w3 wc a' (x - y) ∧ Chg [] w3 wc)
  case first =>
    go_region_with (go_at_call 123; refine (HT.out _ (Chg.refl [] _).drew).mono ?_; rintro r w4 ⟨a', rfl, hn4, cw4⟩)
    all_goals
      have HH := hide (And.intro hn4 cw4)
      clear hn4 cw4 c1 c2 f1 g0
      go_wp2_with fail
      go_meet
      exact ⟨a', rfl, rfl, ⟨HH.out.1.ent, HH.out.1.new⟩, (Chg.refl [] _).drew.trans HH.out.2⟩
  case rest =>
    obtain ⟨a', rfl, rfl, hn4, cw4⟩ := hcut
    clear c1 c2 f1 g0
    have HH := hide (HP.out _ cw4)
    have HC4 := hide cw4
    have HN4 := hide hn4
    clear hn4 cw4
    go_wp2_with fail
    refine HH.out.mono ?_
    rintro r w5 ⟨rfl, v2', hM5, hA5⟩
    have hnone : a' = none := HN4.out.ent.nil HZ.out
    subst hnone
    have HQ2 := hide (HP2.out none _ w5 v2' HN4.out HC4.out hM5 (by rw [HZ.out]; exact Ent.zero _) (fun b hb => by cases hb))
    have HA5 := hide hA5
    clear hM5 hA5
    go_wp2_with fail
    refine HQ2.out.mono ?_
    rintro r w6 ⟨rfl, v1', hM6, hA6⟩
    go_wp2_with fail
    go_end0
    exact ⟨rfl, _, _, _, hM6, by simp, ((Abv.of (HC3.out.trans HC4.out)).trans HA5.out).trans hA6⟩

end Na
end Go.Proofs.Ygctak
