/-
  calc.Step: Swap.
-/
import Derived.Test.YgctakNa18
namespace Go.Proofs.Ygctak
open Go.RowKit
set_option linter.unusedVariables false
set_option linter.unusedSimpArgs false
attribute [local go_sem ↓] Go.wp_at_zero Go.wp_at_succ
namespace Na

theorem take_two {α : Type} {l : List α} {x y : α} (hx : l[l.length - 2]? = some x) (hy : l[l.length - 1]? = some y) (h : 2 ≤ l.length) : l = l.take (l.length - 2) ++ [x, y] := by
  apply List.ext_getElem?
  intro i
  rcases Nat.lt_or_ge i (l.length - 2) with h1 | h1
  · rw [List.getElem?_append_left (by simp; omega), List.getElem?_take, if_pos h1]
  · rw [List.getElem?_append_right (by simp; omega)]
    have hl : (l.take (l.length - 2)).length = l.length - 2 := by simp
    rw [hl]
    rcases Nat.lt_or_ge i (l.length - 1) with h2 | h2
    · have : i = l.length - 2 := by omega
      subst this
      simp [hx]
    · rcases Nat.lt_or_ge i l.length with h3 | h3
      · have : i = l.length - 1 := by omega
        subst this
        have e : l.length - 1 - (l.length - 2) = 1 := by omega
        rw [e, hy]; rfl
      · rw [List.getElem?_eq_none h3, List.getElem?_eq_none (by simp; omega)]

theorem Mac.swapped {B bm g cap n q1 q2 x y : Nat} {w : World} {v2 : Value} {es : Es} {os : List Int} {ax ay : Option Addr} (h : Mac B w bm (.slice (some ⟨g, 0, none⟩) n cap) es v2 os)
    (en : n = es.length) (hq1 : q1 = n - 1) (hq2 : q2 = n - 2) (h2 : 2 ≤ n) (hx : es[q2]? = some (ax, x)) (hy : es[q1]? = some (ay, y)) :
    Mac B ((w.setCell ⟨g, q2, none⟩ (.slice ay (dlen y) (dlen y))).setCell ⟨g, q1, none⟩ (.slice ax (dlen x) (dlen x))) bm (.slice (some ⟨g, 0, none⟩) n cap) (es.take (es.length - 2) ++ [(ay, y), (ax, x)]) v2 os ∧
      Abv B w ((w.setCell ⟨g, q2, none⟩ (.slice ay (dlen y) (dlen y))).setCell ⟨g, q1, none⟩ (.slice ax (dlen x) (dlen x))) := by
  have hes := take_two (l := es) (x := (ax, x)) (y := (ay, y)) (by rw [← en, ← hq2]; exact hx) (by rw [← en, ← hq1]; exact hy) (by omega)
  obtain ⟨pre, hpre⟩ : ∃ pre, pre = es.take (es.length - 2) := ⟨_, rfl⟩
  have hpl : pre.length = q2 := by rw [hpre, hq2, en]; simp
  rw [← hpre] at hes ⊢
  have hc := ((Chg.refl [g] w).setCell ⟨g, q2, none⟩ (by simp) (.slice ay (dlen y) (dlen y))).setCell ⟨g, q1, none⟩ (by simp) (.slice ax (dlen x) (dlen x))
  have hmem : ∀ e, e ∈ pre ++ [(ay, y), (ax, x)] → e ∈ es := fun e he => by
    rw [hes]
    simp only [List.mem_append, List.mem_cons, List.not_mem_nil, or_false] at he ⊢
    rcases he with h | h | h
    · exact .inl h
    · exact .inr (.inr h)
    · exact .inr (.inl h)
  have hgm : g ≠ bm := owns_ne h.s h.m (by decide) rfl
  rcases h.s.2 with ⟨h1, _⟩ | ⟨g', cap', cur, e1, hb, hg, hn, hm, hsz, ht⟩
  · cases h1
  have e2 : g' = g ∧ cap' = cap := by
    injection e1 with h1 h2 h3
    injection h1 with h4
    injection h4 with h5
    exact ⟨h5.symm, h3.symm⟩
  obtain ⟨rfl, rfl⟩ := e2
  have hk : Blk w g' 83 cur.toList := by unfold Blk; simpa using hg
  have hk2 := (hk.set q2 (.slice ay (dlen y) (dlen y))).set q1 (.slice ax (dlen x) (dlen x))
  have hlen : (pre ++ [(ay, y), (ax, x)]).length = n := by simp; omega
  refine ⟨⟨hc.blk h.m (by simpa using hgm.symm), h.hb, ⟨by rw [Sv_length, hlen]; omega, .inr ⟨g', cap', ((cur.toList.set q2 (.slice ay (dlen y) (dlen y))).set q1 (.slice ax (dlen x) (dlen x))).toArray, by rw [hlen], hb, ?_, by omega, hm, by simpa using hsz, ?_⟩⟩, owns_chg h.o hc (fun g2 hg2 hx2 => ?_), fun e he => ⟨(h.ent e (hmem e he)).1.chg hc (fun b hb2 => ?_), (h.ent e (hmem e he)).2⟩, fun e he => h.c4 e (hmem e he), ?_, by have := h.n1; omega, h.n2⟩, ⟨[g'], fun b hb2 => by rw [List.mem_singleton] at hb2; rw [hb2]; exact hb, hc⟩⟩
  · unfold Blk at hk2
    simpa using hk2
  · have h12 : q1 = q2 + 1 := by omega
    rw [Nat.mul_one] at ht
    rw [hlen, Nat.mul_one, List.toList_toArray, List.take_set, List.take_set, en, ht]
    conv => lhs; rw [hes]
    have hpl2 : (Sv pre).length = q2 := by rw [Sv_length, hpl]
    have e3 : Sv (pre ++ [(ax, x), (ay, y)]) = Sv pre ++ [.slice ax (dlen x) (dlen x), .slice ay (dlen y) (dlen y)] := by simp [Sv, sv]
    have e4 : Sv (pre ++ [(ay, y), (ax, x)]) = Sv pre ++ [.slice ay (dlen y) (dlen y), .slice ax (dlen x) (dlen x)] := by simp [Sv, sv]
    rw [e3, e4, List.set_append_right _ _ (by omega), List.set_append_right _ _ (by omega), hpl2, h12, Nat.sub_self, Nat.add_sub_cancel_left]
    rfl
  · rw [List.mem_singleton] at hx2
    subst hx2
    exact owns_ne2 h.s h.o (by decide) rfl hg2
  · have := (h.c4 e (hmem e he) b hb2).2.1
    simp only [Value.ownBlock, ne_eq, Option.some.injEq, List.mem_singleton] at this ⊢
    exact fun hh => this hh.symm
  · have hd := h.dis
    rw [hes, List.pairwise_append] at hd
    rw [List.pairwise_append]
    obtain ⟨d1, d2, d3⟩ := hd
    refine ⟨d1, ?_, fun e he f hf => d3 e he f (by
      simp only [List.mem_cons, List.not_mem_nil, or_false] at hf ⊢
      exact hf.symm)⟩
    simp only [List.pairwise_cons, List.mem_singleton, List.not_mem_nil, List.Pairwise.nil, and_true, forall_eq, false_implies, implies_true] at d2 ⊢
    exact fun b hb1 hb2 => d2 b hb2 hb1

set_option maxRecDepth 10000 in
set_option maxHeartbeats 4000000 in
theorem stepSwap (B bm eng na ca : Nat) (aa : Option Addr) (v1 v2 : Value) (es : Es) (os : List Int) (w : World) (h : Mac B w bm v1 es v2 os) (he : eng ≤ 3) (ax ay : Option Addr) (x y : Nat) (hx : es[es.length - 2]? = some (ax, x)) (hy : es[es.length - 1]? = some (ay, y)) (h2n : 2 ≤ es.length) :
    Calls Takg.prog 93 #[.int .u8 eng, .pointer (some ⟨bm, 0, none⟩), .agg #[.int .u8 7, .slice aa na ca]] w fun e w' => Sre B w w' bm e ((es.take (es.length - 2)).map (·.2) ++ [y, x]) os := by
  obtain ⟨a, cap, rfl, hcap, hmax, hst⟩ := h.stk
  have HM := hide h
  have hn16 := h.n1
  obtain ⟨g, rfl, hS⟩ : ∃ g, a = some ⟨g, 0, none⟩ ∧ Stk w g cap es := by
    rcases hst with h0 | h1
    · rw [h0] at hx; simp at hx
    · exact h1
  have HS := hide hS
  have HX := hide hx
  have HY := hide hy
  have HN : Hid (∀ W, Calls Takg.prog 124 #[.int .u8 7] W fun e w' => e = .returned (.tuple #[.int .i64 2, .bool false]) ∧ w' = W) := fun W => room_any 7 W (by omega)
  have hEx := hS.ent _ (List.mem_of_getElem? hx)
  have HEX := hide hEx
  have hdx : dlen x ≤ 1024 := hEx.2
  clear hEx
  have hEy := hS.ent _ (List.mem_of_getElem? hy)
  have HEY := hide hEy
  have hdy : dlen y ≤ 1024 := hEy.2
  clear hEy
  have hlen := (List.getElem?_eq_some_iff.1 hx).1
  obtain ⟨n, en⟩ : ∃ n, n = es.length := ⟨_, rfl⟩
  rw [← en] at hcap HM hn16 hx hlen hy
  obtain ⟨q1, eq1⟩ : ∃ q1, q1 = n - 1 := ⟨_, rfl⟩
  have l1 : q1 < n := by omega
  have i1 : (0 : Int) ≤ (q1 : Int) := by omega
  have j1 : (q1 : Int) < (n : Int) := by omega
  have e1 : (n : Int) - 1 = (q1 : Int) := by omega
  have hw1 : IntKind.i64.wrap (q1 : Int) = (q1 : Int) := by rw [IntKind.wrap_i64]; omega
  obtain ⟨q2, eq2⟩ : ∃ q2, q2 = n - 2 := ⟨_, rfl⟩
  have hy2 := (List.getElem?_eq_some_iff.1 hy).1
  have hn2 : 2 ≤ n := by omega
  have l2 : q2 < n := by omega
  have i2 : (0 : Int) ≤ (q2 : Int) := by omega
  have j2 : (q2 : Int) < (n : Int) := by omega
  have e2 : (n : Int) - 2 = (q2 : Int) := by omega
  have hw2 : IntKind.i64.wrap (q2 : Int) = (q2 : Int) := by rw [IntKind.wrap_i64]; omega
  rw [← eq2] at hx
  rw [← eq1] at hy
  have HCX : Hid (∀ W, Chg [] w W → W.cell? ⟨g, q2, none⟩ = some (.slice ax (dlen x) (dlen x))) := fun W hW => (hS.chg0 hW).cell _ _ hx
  have HCY : Hid (∀ W, Chg [] w W → W.cell? ⟨g, q1, none⟩ = some (.slice ay (dlen y) (dlen y))) := fun W hW => (hS.chg0 hW).cell _ _ hy
  have HQ := hide (And.intro eq1 eq2)
  have HEN := hide en
  clear h hst en hx hS eq1 hy eq2 hy2 hlen h2n
  go_enter Takg.func93, Takg.ntmps93
  go_upto_region 1 with (refine wpList_box95 (by rfl) (.tmp 2) (by rfl) (.int .u8 7) (.slice aa na ca) (by rfl) ?_; intro b5 wd hbd k5 cbd)
  have f0 := k5.cell 0 _ rfl
  simp only [Act.put, List.setIfInBounds_toArray, List.set_cons_zero, List.set_cons_succ]
  go_wp2_with fail
  refine (HN.out _).mono ?_
  rintro r w2 ⟨rfl, rfl⟩
  have HM2 := hide (HM.out.chg0 cbd)
  have HCK := hide (Check_any _ _ _ _ _ _ _ HM2.out)
  have HC1 := hide cbd
  clear cbd hbd
  go_wp2_with fail
  refine HCK.out.mono ?_
  rintro r w3 ⟨rfl, cw3⟩
  have HM3 := hide (HM2.out.chg0 cw3)
  have HC3 := hide (HC1.out.trans cw3)
  have f1 := HM3.out.m.cell 0 _ rfl
  have k53 := cw3.blk k5 (by simp)
  have g0 := k53.cell 0 _ rfl
  have c1 := HCX.out _ HC3.out
  have c2 := HCY.out _ HC3.out
  clear f0 k5 HCK cw3 k53
  have HSW := hide (fun W (hW : Chg [] w3 W) => (HM3.out.chg0 hW).swapped HEN.out HQ.out.1 HQ.out.2 hn2 (by rw [HQ.out.2, HEN.out]; exact HX.out) (by rw [HQ.out.1, HEN.out]; exact HY.out))
  obtain ⟨cur, hkg⟩ : ∃ cur, Blk w3 g 83 cur := by
    rcases HM3.out.s.2 with ⟨h1, _⟩ | ⟨g', cap', cur, e1, hb, hg, hn, hm, hsz, ht⟩
    · cases h1
    injection e1 with h1 h2 h3
    injection h1 with h4
    injection h4 with h5
    subst h5
    exact ⟨cur.toList, by unfold Blk; simpa using hg⟩
  have z1 := hkg.frozen q1 none
  have z2 := hkg.frozen q2 none
  have ne12 : q1 ≠ q2 := by have := HQ.out; omega
  have ne21 : q2 ≠ q1 := by have := HQ.out; omega
  have nbg : bm ≠ g := (owns_ne HM3.out.s HM3.out.m (by decide) rfl).symm
  clear hkg
  generalize dlen x = dx at *
  generalize dlen y = dy at *
  go_upto_region 18 with fail
  go_region
  have HH := hide (HSW.out _ (Chg.refl [] w3).drew)
  clear c1 c2 f1 g0 z1 z2
  go_wp2_with fail
  go_end0
  exact ⟨rfl, _, _, _, HH.out.1, by simp, (Abv.of HC3.out).trans ((Abv.of (Chg.refl [] _).drew).trans HH.out.2)⟩

end Na
end Go.Proofs.Ygctak
