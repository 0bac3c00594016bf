/-
  The calculator's machine: put, push.
-/
import Derived.Test.YgctakNa10
import Derived.Deep.AppendLies
import Derived.OwnWalk
namespace Go.Proofs.Ygctak
open Go.RowKit
set_option linter.unusedVariables false
set_option linter.unusedSimpArgs false
attribute [local go_sem ↓] Go.wp_at_zero Go.wp_at_succ
namespace Na

/-- Only blocks from B on were written. -/
def Abv (B : Nat) (w w2 : World) : Prop := ∃ S, (∀ b, b ∈ S → B ≤ b) ∧ Chg S w w2
theorem Abv.of {B : Nat} {w w2 : World} (h : Chg [] w w2) : Abv B w w2 := ⟨[], by simp, h⟩
theorem Abv.trans {B : Nat} {w w2 w3 : World} (h : Abv B w w2) (k : Abv B w2 w3) : Abv B w w3 := by
  obtain ⟨S, h1, h2⟩ := h
  obtain ⟨T, k1, k2⟩ := k
  refine ⟨S ++ T, fun b hb => ?_, (h2.mono (fun x hx => List.mem_append_left _ hx)).trans (k2.mono (fun x hx => List.mem_append_right _ hx))⟩
  rcases List.mem_append.mp hb with h | h
  · exact h1 b h
  · exact k1 b h
theorem Abv.chg {B : Nat} {w w2 : World} (h : Abv B w w2) : w.heap.size ≤ w2.heap.size := by obtain ⟨S, _, h2⟩ := h; exact h2.size

theorem owns_chg {w w2 : World} {B e sz n : Nat} {v : Value} {xs : List Value} {S : List Nat} (h : w.ownsRow B e sz v n xs) (hc : Chg S w w2) (hn : ∀ g, v.ownBlock = some g → g ∉ S) : w2.ownsRow B e sz v n xs := by
  refine ⟨h.1, ?_⟩
  rcases h.2 with h0 | ⟨g, cap, cur, rfl, hb, hg, rest⟩
  · exact .inl h0
  · refine .inr ⟨g, cap, cur, rfl, hb, ?_, rest⟩
    rw [hc.block g (Array.getElem?_eq_some_iff.1 hg).1 (hn g rfl)]
    exact hg
theorem owns_lt {w : World} {B e sz n : Nat} {v : Value} {xs : List Value} (h : w.ownsRow B e sz v n xs) {g : Nat} (hg : v.ownBlock = some g) : B ≤ g ∧ g < w.heap.size := h.lt g hg
theorem owns_ne {w : World} {B e sz n b t : Nat} {v : Value} {xs cs : List Value} (h : w.ownsRow B e sz v n xs) (hb : Blk w b t cs) (hne : e ≠ t) {g : Nat} (hg : v.ownBlock = some g) : g ≠ b := fun he => by
  subst he
  rcases h.2 with ⟨rfl, _⟩ | ⟨g', cap, cur, rfl, _, hgg, _⟩
  · cases hg
  · have : g' = g := by simpa [Value.ownBlock] using hg
    subst this
    unfold Blk at hb
    rw [hgg] at hb
    injection hb with h3
    injection h3 with h4 h5
    exact hne h5
theorem owns_ne2 {w : World} {B e e2 sz sz2 n n2 : Nat} {v v2 : Value} {xs xs2 : List Value} (h : w.ownsRow B e sz v n xs) (h2 : w.ownsRow B e2 sz2 v2 n2 xs2) (hne : e ≠ e2) {g : Nat} (hg : v.ownBlock = some g) : v2.ownBlock ≠ some g := fun hg2 => by
  rcases h2.2 with ⟨rfl, _⟩ | ⟨g', cap, cur, rfl, _, hgg, _⟩
  · cases hg2
  · have e1 : g' = g := by simpa [Value.ownBlock] using hg2
    subst e1
    refine owns_ne (b := g') (t := e2) (cs := cur.toList) h ?_ hne hg rfl
    unfold Blk
    simpa using hgg

/-- The machine at bm. -/
structure Mac (B : Nat) (w : World) (bm : Nat) (v1 : Value) (es : Es) (v2 : Value) (os : List Int) : Prop where
  m : Blk w bm 147 [v1, v2]
  hb : B ≤ bm
  s : w.ownsRow B 83 1 v1 es.length (Sv es)
  o : w.ownsRow B 62 1 v2 os.length (Ov os)
  ent : ∀ e, e ∈ es → Ent w e.1 e.2 ∧ dlen e.2 ≤ 1024
  c4 : ∀ e, e ∈ es → ∀ b, e.1 = some ⟨b, 0, none⟩ → b ≠ bm ∧ v1.ownBlock ≠ some b ∧ v2.ownBlock ≠ some b ∧ B ≤ b
  dis : es.Pairwise (fun e f => ∀ b, e.1 = some ⟨b, 0, none⟩ → f.1 ≠ some ⟨b, 0, none⟩)
  n1 : es.length ≤ 16
  n2 : os.length ≤ 1000
theorem Mac.chg0 {B bm : Nat} {w w' : World} {v1 v2 : Value} {es : Es} {os : List Int} (h : Mac B w bm v1 es v2 os) (hc : Chg [] w w') : Mac B w' bm v1 es v2 os :=
  ⟨hc.blk h.m (by simp), h.hb, owns_chg h.s hc (fun _ _ => by simp), owns_chg h.o hc (fun _ _ => by simp), fun e he => ⟨(h.ent e he).1.chg0 hc, (h.ent e he).2⟩, h.c4, h.dis, h.n1, h.n2⟩
/-- An entry that may be pushed. -/
def Free (B : Nat) (bm : Nat) (v1 v2 : Value) (es : Es) (a : Option Addr) : Prop := ∀ b, a = some ⟨b, 0, none⟩ → b ≠ bm ∧ v1.ownBlock ≠ some b ∧ v2.ownBlock ≠ some b ∧ B ≤ b ∧ ∀ e, e ∈ es → e.1 ≠ some ⟨b, 0, none⟩
theorem Mac.free {B bm v : Nat} {w w' : World} {v1 v2 : Value} {es : Es} {os : List Int} {a : Option Addr} (h : Mac B w bm v1 es v2 os) (hn : New w w' a v) : Free B bm v1 v2 es a := fun b hb => by
  have h1 := hn.new b hb
  have h2 := h.m.lt
  have h3 := h.hb
  refine ⟨by omega, fun h4 => ?_, fun h4 => ?_, by omega, fun e he h4 => ?_⟩
  · have := owns_lt h.s h4; omega
  · have := owns_lt h.o h4; omega
  · have := (h.ent e he).1.lt h4; omega
theorem Free.take {B bm : Nat} {v1 v1' v2 v2' : Value} {es : Es} {a : Option Addr} (h : Free B bm v1 v2 es a) (n : Nat) (h1 : v1'.ownBlock = v1.ownBlock) (h2 : v2'.ownBlock = v2.ownBlock) : Free B bm v1' v2' (es.take n) a := fun b hb => by
  obtain ⟨q1, q2, q3, q4, q5⟩ := h b hb
  exact ⟨q1, by rw [h1]; exact q2, by rw [h2]; exact q3, q4, fun e he => q5 e (List.mem_of_mem_take he)⟩

theorem grown_chg {w w2 : World} {r : Option Nat} (h : w.grownBy w2 r) : Chg r.toList w w2 :=
  ⟨h.os, h.tape, h.output, h.size, fun k hk hn => h.block k hk (fun e => hn (by rw [← e]; simp))⟩

theorem Mac.pushed {B bm g n cap v : Nat} {w w1 w2 : World} {v1 v2 : Value} {es : Es} {os : List Int} {a : Option Addr} (h : Mac B w bm v1 es v2 os) (hc : Chg [] w w1) (hg : w1.grownBy w2 v1.ownBlock)
    (ho : w2.ownsRow B 83 1 (.slice (some ⟨g, 0, none⟩) n cap) n (Sv es ++ [.slice a (dlen v) (dlen v)])) (hn : n = es.length + 1) (hat : v1.ownBlock = some g ∨ g = w1.heap.size) (he : Ent w a v) (hd : dlen v ≤ 1024) (hf : Free B bm v1 v2 es a) (hl : es.length < 16) :
    Mac B (w2.setCell ⟨bm, 0, none⟩ (.slice (some ⟨g, 0, none⟩) n cap)) bm (.slice (some ⟨g, 0, none⟩) n cap) (es ++ [(a, v)]) v2 os ∧ Abv B w (w2.setCell ⟨bm, 0, none⟩ (.slice (some ⟨g, 0, none⟩) n cap)) := by
  have h1 := h.chg0 hc
  have he1 := he.chg0 hc
  have q := grown_chg hg
  have nm : bm ∉ v1.ownBlock.toList := fun hx => by
    rw [Option.mem_toList] at hx
    exact owns_ne h1.s h1.m (by decide) hx rfl
  have m2 := q.blk h1.m nm
  have o2 := owns_chg h1.o q (fun g' hg' hx => by
    rw [Option.mem_toList] at hx
    exact owns_ne2 h1.s h1.o (by decide) hx hg')
  have c3 := (Chg.refl [bm] w2).setCell ⟨bm, 0, none⟩ (by simp) (.slice (some ⟨g, 0, none⟩) n cap)
  have ngm : g ≠ bm := owns_ne ho m2 (by decide) rfl
  have hS := hc.size
  have ent2 : ∀ {x : Option Addr} {u : Nat}, Ent w1 x u → (∀ b, x = some ⟨b, 0, none⟩ → b ≠ bm ∧ v1.ownBlock ≠ some b) → Ent (w2.setCell ⟨bm, 0, none⟩ (.slice (some ⟨g, 0, none⟩) n cap)) x u := fun {x u} hx hy =>
    (hx.chg q (fun b hb hm => by rw [Option.mem_toList] at hm; exact (hy b hb).2 hm)).chg c3 (fun b hb => by have := (hy b hb).1; simpa using this)
  have sv' : Sv (es ++ [(a, v)]) = Sv es ++ [.slice a (dlen v) (dlen v)] := by simp [Sv, sv]
  refine ⟨⟨m2.set 0 _, h.hb, ?_, owns_chg o2 c3 (fun g' hg' => ?_), fun e hx => ?_, fun e hx b hb => ?_, ?_, by simp; omega, h.n2⟩, ?_⟩
  · rw [sv', List.length_append]
    rw [hn] at ho ⊢
    exact owns_chg ho (hn ▸ c3) (fun g' hg' => by
      have : g = g' := by simpa [Value.ownBlock] using hg'
      rw [← this]; simpa using ngm)
  · have := owns_ne o2 m2 (by decide) hg'
    simpa using this
  · rcases List.mem_append.mp hx with hx | hx
    · exact ⟨ent2 (h1.ent e hx).1 (fun b hb => ⟨(h.c4 e hx b hb).1, (h.c4 e hx b hb).2.1⟩), (h.ent e hx).2⟩
    · rw [List.mem_singleton] at hx
      subst hx
      exact ⟨ent2 he1 (fun b hb => ⟨(hf b hb).1, (hf b hb).2.1⟩), hd⟩
  · have hb4 : b ≠ bm ∧ v1.ownBlock ≠ some b ∧ v2.ownBlock ≠ some b ∧ B ≤ b ∧ b < w.heap.size := by
      rcases List.mem_append.mp hx with hx | hx
      · obtain ⟨q1, q2, q3, q4⟩ := h.c4 e hx b hb
        exact ⟨q1, q2, q3, q4, (h.ent e hx).1.lt hb⟩
      · rw [List.mem_singleton] at hx
        subst hx
        obtain ⟨q1, q2, q3, q4, _⟩ := hf b hb
        exact ⟨q1, q2, q3, q4, he.lt hb⟩
    obtain ⟨q1, q2, q3, q4, q5⟩ := hb4
    refine ⟨q1, fun hx => ?_, q3, q4⟩
    have hx : g = b := by simpa [Value.ownBlock] using hx
    rcases hat with h2 | h2
    · exact q2 (by rw [h2, hx])
    · omega
  · rw [List.pairwise_append]
    refine ⟨h.dis, List.pairwise_singleton _ _, fun e hx f hy b hb hfb => ?_⟩
    rw [List.mem_singleton] at hy
    subst hy
    exact (hf b hfb).2.2.2.2 e hx hb
  · refine ⟨bm :: v1.ownBlock.toList, fun b hb => ?_, ((hc.mono (by simp)).trans (q.mono (fun x hx => List.mem_cons_of_mem _ hx))).trans (c3.mono (by simp))⟩
    rcases List.mem_cons.mp hb with hb | hb
    · rw [hb]; exact h.hb
    · rw [Option.mem_toList] at hb; exact (owns_lt h.s hb).1

theorem Mac.putted {B bm g n cap : Nat} {w w1 w2 : World} {v1 v2 : Value} {es : Es} {os : List Int} {u : Int} (h : Mac B w bm v1 es v2 os) (hc : Chg [] w w1) (hg : w1.grownBy w2 v2.ownBlock)
    (ho : w2.ownsRow B 62 1 (.slice (some ⟨g, 0, none⟩) n cap) n (Ov os ++ [.int .i8 u])) (hn : n = os.length + 1) (hat : v2.ownBlock = some g ∨ g = w1.heap.size) (hl : os.length < 1000) :
    Mac B (w2.setCell ⟨bm, 1, none⟩ (.slice (some ⟨g, 0, none⟩) n cap)) bm v1 es (.slice (some ⟨g, 0, none⟩) n cap) (os ++ [u]) ∧ Abv B w (w2.setCell ⟨bm, 1, none⟩ (.slice (some ⟨g, 0, none⟩) n cap)) := by
  have h1 := h.chg0 hc
  have q := grown_chg hg
  have nm : bm ∉ v2.ownBlock.toList := fun hx => by
    rw [Option.mem_toList] at hx
    exact owns_ne h1.o h1.m (by decide) hx rfl
  have m2 := q.blk h1.m nm
  have s2 := owns_chg h1.s q (fun g' hg' hx => by
    rw [Option.mem_toList] at hx
    exact owns_ne2 h1.o h1.s (by decide) hx hg')
  have c3 := (Chg.refl [bm] w2).setCell ⟨bm, 1, none⟩ (by simp) (.slice (some ⟨g, 0, none⟩) n cap)
  have ngm : g ≠ bm := owns_ne ho m2 (by decide) rfl
  have hS := hc.size
  have ov' : Ov (os ++ [u]) = Ov os ++ [.int .i8 u] := by simp [Ov]
  refine ⟨⟨m2.set 1 _, h.hb, owns_chg s2 c3 (fun g' hg' => ?_), ?_, fun e hx => ⟨((h1.ent e hx).1.chg q (fun b hb hm => ?_)).chg c3 (fun b hb => ?_), (h.ent e hx).2⟩, fun e hx b hb => ?_, h.dis, h.n1, by simp; omega⟩, ?_⟩
  · have := owns_ne s2 m2 (by decide) hg'
    simpa using this
  · rw [ov', List.length_append]
    rw [hn] at ho ⊢
    exact owns_chg ho (hn ▸ c3) (fun g' hg' => by
      have : g = g' := by simpa [Value.ownBlock] using hg'
      rw [← this]; simpa using ngm)
  · rw [Option.mem_toList] at hm; exact (h.c4 e hx b hb).2.2.1 hm
  · have := (h.c4 e hx b hb).1
    simpa using this
  · obtain ⟨q1, q2, q3, q4⟩ := h.c4 e hx b hb
    refine ⟨q1, q2, fun hy => ?_, q4⟩
    have hy : g = b := by simpa [Value.ownBlock] using hy
    have := (h.ent e hx).1.lt hb
    rcases hat with h2 | h2
    · exact q3 (by rw [h2, hy])
    · omega
  · refine ⟨bm :: v2.ownBlock.toList, fun b hb => ?_, ((hc.mono (by simp)).trans (q.mono (fun x hx => List.mem_cons_of_mem _ hx))).trans (c3.mono (by simp))⟩
    rcases List.mem_cons.mp hb with hb | hb
    · rw [hb]; exact h.hb
    · rw [Option.mem_toList] at hb; exact (owns_lt h.o hb).1

theorem news1 (w : World) (v : Value) (t : Nat) : ∀ j u, [v][j]? = some u → (w.alloc (Obj.cells #[v] t)).cell? ((⟨w.heap.size, 0, none⟩ : Addr).add j) = some u := fun j u hj => by
  cases j with
  | zero =>
    have : v = u := by simpa using hj
    rw [addr_add, ← this]
    exact (Blk.new w [v] t).cell 0 _ rfl
  | succ j => simp at hj

theorem put_any (B bm : Nat) (v1 v2 : Value) (es : Es) (os : List Int) (u : Int) (w : World) (h : Mac B w bm v1 es v2 os) (hl : os.length < 1000) :
    Calls Takg.prog 126 #[.pointer (some ⟨bm, 0, none⟩), .int .i8 u] w fun e w' => e = .returned (.tuple #[]) ∧ ∃ v2', Mac B w' bm v1 es v2' (os ++ [u]) ∧ Abv B w w' := by
  have HM := hide h
  have HL := hide hl
  have f1 := h.m.cell 1 _ rfl
  have hbm := h.m.lt
  have hB := h.hb
  have HOW := hide h.o
  obtain ⟨i, hi, hz0, hz1, hz2⟩ := info_parts info62
  clear h
  go_enter Takg.func126, Takg.ntmps126
  go_wp2_with (at_builtin; refine wpList_append_lies _ rfl _ _ 90 rfl B 62 i (.int .i8 0) 1 1 Takg.underlying90 hi hz0 hz1 hz2 rfl (by decide) _ _ _ rfl (HOW.out.alloc _) ⟨w.heap.size, 0, none⟩ 1 1 [.int .i8 u] rfl rfl ?c1 ?c2 (by decide) ?c3 ?c4 ?c5 _ rfl ?_)
  case c1 => exact news1 w _ _
  case c2 => simp [Value.oneCell']
  case c3 => unfold maxLen; omega
  case c4 => omega
  case c5 => simp; omega
  intro g cap w2 hown hgrow hat hlt
  have HC := hide ((Chg.refl [] w).alloc (.cells #[.int .i8 u] 62))
  have HH := hide (Mac.putted HM.out HC.out hgrow hown rfl (hat.imp_right (fun h => by rw [h]; simp)) HL.out)
  have m2 : Blk w2 bm 147 [v1, v2] := (grown_chg hgrow).blk (HC.out.blk HM.out.m (by simp)) (fun hx => by
    rw [Option.mem_toList] at hx
    exact owns_ne HM.out.o HM.out.m (by decide) hx rfl)
  have g1 := m2.cell 1 _ rfl
  have g2 := m2.frozen 1 none
  clear hown hgrow hat f1
  go_wp2_with fail
  go_end0
  exact ⟨rfl, _, HH.out⟩

theorem push_any (B bm v : Nat) (v1 v2 : Value) (es : Es) (os : List Int) (a : Option Addr) (w : World) (h : Mac B w bm v1 es v2 os) (hl : es.length < 16) (he : Ent w a v) (hd : dlen v ≤ 1024) (hf : Free B bm v1 v2 es a) :
    Calls Takg.prog 127 #[.pointer (some ⟨bm, 0, none⟩), .slice a (dlen v) (dlen v)] w fun e w' => e = .returned (.tuple #[]) ∧ ∃ v1', Mac B w' bm v1' (es ++ [(a, v)]) v2 os ∧ Abv B w w' := by
  have HM := hide h
  have HL := hide hl
  have HE := hide he
  have HF := hide hf
  have HD := hide hd
  have f1 := h.m.cell 0 _ rfl
  have hbm := h.m.lt
  have hB := h.hb
  have HOW := hide h.s
  obtain ⟨i, hi, hz0, hz1, hz2⟩ := info_parts info83
  clear h he hf
  go_enter Takg.func127, Takg.ntmps127
  go_wp2_with (at_builtin; refine wpList_append_lies _ rfl _ _ 89 rfl B 83 i (.slice none 0 0) 1 24 Takg.underlying89 hi hz0 hz1 hz2 rfl (by decide) _ _ _ rfl (HOW.out.alloc _) ⟨w.heap.size, 0, none⟩ 1 1 [.slice a (dlen v) (dlen v)] rfl rfl ?c1 ?c2 (by decide) ?c3 ?c4 ?c5 _ rfl ?_)
  case c1 => exact news1 w _ _
  case c2 => simp [Value.oneCell']
  case c3 => unfold maxLen; omega
  case c4 => omega
  case c5 => simp; omega
  intro g cap w2 hown hgrow hat hlt
  have HC := hide ((Chg.refl [] w).alloc (.cells #[.slice a (dlen v) (dlen v)] 83))
  have HH := hide (Mac.pushed HM.out HC.out hgrow hown rfl (hat.imp_right (fun h => by rw [h]; simp)) HE.out HD.out HF.out HL.out)
  have m2 : Blk w2 bm 147 [v1, v2] := (grown_chg hgrow).blk (HC.out.blk HM.out.m (by simp)) (fun hx => by
    rw [Option.mem_toList] at hx
    exact owns_ne HM.out.s HM.out.m (by decide) hx rfl)
  have g1 := m2.cell 0 _ rfl
  have g2 := m2.frozen 0 none
  clear hown hgrow hat f1
  go_wp2_with fail
  go_end0
  exact ⟨rfl, _, HH.out⟩

/-- The stack cut to its first k entries. -/
theorem Mac.cutTo {B bm k : Nat} {w : World} {v1 v2 : Value} {es : Es} {os : List Int} (h : Mac B w bm v1 es v2 os) (hk : k ≤ es.length) (h0 : 0 < es.length) :
    ∃ g cap, v1 = .slice (some ⟨g, 0, none⟩) es.length cap ∧ es.length ≤ cap ∧ cap ≤ maxLen ∧
      Mac B (w.setCell ⟨bm, 0, none⟩ (.slice (some ⟨g, 0, none⟩) k cap)) bm (.slice (some ⟨g, 0, none⟩) k cap) (es.take k) v2 os ∧ Abv B w (w.setCell ⟨bm, 0, none⟩ (.slice (some ⟨g, 0, none⟩) k cap)) := by
  rcases h.s.2 with ⟨_, h1⟩ | ⟨g, cap, cur, e1, hb, hg, hn, hm, hsz, ht⟩
  · omega
  refine ⟨g, cap, e1, hn, hm, ?_⟩
  have c3 := (Chg.refl [bm] w).setCell ⟨bm, 0, none⟩ (by simp) (.slice (some ⟨g, 0, none⟩) k cap)
  have hl : (es.take k).length = k := by simp; omega
  have ngm : g ≠ bm := owns_ne h.s h.m (by decide) (by rw [e1]; rfl)
  refine ⟨⟨h.m.set 0 _, h.hb, ?_, owns_chg h.o c3 (fun g' hg' => ?_), fun e hx => ⟨(h.ent e (List.mem_of_mem_take hx)).1.chg c3 (fun b hb => ?_), (h.ent e (List.mem_of_mem_take hx)).2⟩, fun e hx b hb => ?_, h.dis.sublist (List.take_sublist k es), by have := h.n1; omega, h.n2⟩, [bm], by simpa using h.hb, c3⟩
  · rw [hl]
    have q : w.ownsRow B 83 1 (.slice (some ⟨g, 0, none⟩) k cap) k (Sv (es.take k)) := by
      refine ⟨by rw [Sv_length, hl]; omega, .inr ⟨g, cap, cur, rfl, hb, hg, by omega, hm, hsz, ?_⟩⟩
      have : Sv (es.take k) = (Sv es).take k := by unfold Sv; rw [List.map_take]
      rw [this, ← ht, List.take_take, Nat.mul_one, Nat.mul_one, Nat.min_eq_left hk]
    exact owns_chg q c3 (fun g' hg' => by
      have : g = g' := by simpa [Value.ownBlock] using hg'
      rw [← this]; simpa using ngm)
  · have := owns_ne h.o h.m (by decide) hg'
    simpa using this
  · have := (h.c4 e (List.mem_of_mem_take hx) b hb).1
    simpa using this
  · obtain ⟨q1, q2, q3, q4⟩ := h.c4 e (List.mem_of_mem_take hx) b hb
    exact ⟨q1, by rw [e1] at q2; exact q2, q3, q4⟩
end Na
end Go.Proofs.Ygctak
