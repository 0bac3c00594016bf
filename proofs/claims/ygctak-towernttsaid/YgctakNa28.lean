/-
  calc.outcome: the machine copied out.
-/
import Derived.Test.YgctakNa17
import Derived.Deep.RegionLaw
namespace Go.Proofs.Ygctak
open Go.RowKit
set_option linter.unusedVariables false
set_option linter.unusedSimpArgs false
attribute [local go_sem ↓] Go.wp_at_zero Go.wp_at_succ
namespace Na

theorem info98 : (Takg.prog.info? 98).map (·.size) = some 3 := by kernel_rfl
theorem alloc98 (w : World) : (Instr.alloc 98 true (.tuple #[])).run Takg.prog w = .ok (.pointer (some ⟨w.heap.size, 0, none⟩)) (w.alloc (.cells #[.bool false, .slice none 0 0, .slice none 0 0] 98)) := by kernel_rfl
theorem wpList_new98 {ops : Array Oper} {rest : List Oper} {o1 : Oper} {a : Act} {w : World} {Q : Exit → Act → World → Prop} (hg1 : o1.guard = none) (ho1 : o1.op = .alloc 98)
    (h : ∀ b w2, Hid (b = w.heap.size) → Blk w2 b 98 [.bool false, .slice none 0 0, .slice none 0 0] → Chg [] w w2 → wpList Takg.prog ops Q rest (a.put o1.dst (.pointer (some ⟨b, 0, none⟩))) w2) : wpList Takg.prog ops Q (o1 :: rest) a w := by
  refine wpList_allocVar hg1 98 ho1 _ alloc98 ?_
  exact h _ _ rfl (Blk.new w [.bool false, .slice none 0 0, .slice none 0 0] 98) ((Chg.refl [] w).alloc _)
theorem info22 : (Takg.prog.info? 22).map (fun i => (i.zero, i.size, i.bytes)) = some (some (.slice none 0 0), 1, 24) := by kernel_rfl
theorem size22 : (Takg.prog.info? 22).map (·.size) = some 1 := by kernel_rfl

/-- 'copy' into the front of a row, in a region that draws its order. -/
theorem step_copyF {ops : Array Oper} {o : Oper} {a : Act} {w : World} {K : Act → World → Prop} {Q : Exit → Act → World → Prop} {E : Prop} (hgd : o.guard = none) (d s : Operand) (dT sT : TypeId)
    (ho : o.op = .call { callee := .builtin .copy, args := #[d, s], argTypes := #[dT, sT] }) (elem : TypeId) (hu : Takg.prog.underlying dT = some (.slice elem)) (hsz : (Takg.prog.info? elem).map (·.size) = some 1)
    (dp sp : Option Addr) (dLen dCap sLen sCap : Nat) (hd : a.eval d = .slice dp dLen dCap) (hs : a.eval s = .slice sp sLen sCap)
    (g : Nat) (t : TypeId) (old more cs : List Value) (hlo : old.length = cs.length) (hB : Blk w g t (old ++ more)) (hn : cs.length = Nat.min sLen dLen)
    (hpos : 0 < cs.length → dp = some ⟨g, 0, none⟩ ∧ ∃ ad, sp = some ad ∧ ∀ j v, cs[j]? = some v → w.cell? (ad.add j) = some v) (h1 : ∀ v ∈ cs, v.oneCell' = true)
    (h : ∀ w2, Blk w2 g t (cs ++ more) → Chg [g] w w2 → K (a.put o.dst (goInt cs.length)) w2) :
    if Region.wanted o (yielded ops a.tmps) = true then Oper.wp Takg.prog o a w K Q else E := by
  have hw : Region.wanted o (yielded ops a.tmps) = true := by simp [Region.wanted, hgd]
  rw [if_pos hw]
  by_cases h0 : cs.length = 0
  · obtain rfl : cs = [] := List.eq_nil_of_length_eq_zero h0
    obtain rfl : old = [] := List.eq_nil_of_length_eq_zero hlo
    have hrun := run_copy_none (P := Takg.prog) w dT sT o.type elem dp sp dLen dCap sLen sCap hu hsz (by simpa using hn.symm)
    unfold Oper.wp
    simp [execOp, ho, resolve, invoke, builtin, hd, hs, hrun, Result.andThen]
    exact h w hB (Chg.refl _ _)
  · obtain ⟨rfl, ad, rfl, hsrc⟩ := hpos (by omega)
    have hg : w.heap[g]? = some (.cells (old ++ more).toArray t (0, 0)) := hB
    have hrun := run_copy_row (P := Takg.prog) w dT sT o.type elem g 0 dLen dCap ad sLen sCap (old ++ more).toArray t cs hu hsz hg hn hsrc (by simp; omega) h1
    have e : (List.take 0 (old ++ more).toArray.toList ++ cs ++ List.drop (0 + cs.length) (old ++ more).toArray.toList) = cs ++ more := by
      simp [← hlo]
    rw [e] at hrun
    unfold Oper.wp
    simp [execOp, ho, resolve, invoke, builtin, hd, hs, hrun, Result.andThen]
    refine h _ ?_ ⟨rfl, rfl, rfl, by simp [World.setRow], fun k hk hn => setRow_other w g k _ (by simpa using hn)⟩
    have := setRow_heap w g (old ++ more).toArray (cs ++ more).toArray t _ hg
    exact this

/-- Entries of a row of digits. -/
def T5 (w : World) (a : Option Addr) : Prop := ∀ b, a = some ⟨b, 0, none⟩ → ∃ cs, Blk w b 5 cs
/-- What was put out, copied. -/
def Ot (w : World) (a : Option Addr) (os : List Int) : Prop := Ov os = [] ∨ ∃ b, a = some ⟨b, 0, none⟩ ∧ Blk w b 62 (Ov os)
theorem Ot.cells {w : World} {a : Option Addr} {os : List Int} (h : Ot w a os) : Cells w a (Ov os) := by
  rcases h with h | ⟨b, h1, h2⟩
  · exact .inl h
  · rw [h1]; exact Cells.of h2
theorem Ot.chg {w w' : World} {a : Option Addr} {os : List Int} {b t : Nat} {cs : List Value} (h : Ot w a os) (hb : Blk w b t cs) (h62 : t ≠ 62) (hc : Chg [b] w w') : Ot w' a os := by
  rcases h with h | ⟨g, h1, h2⟩
  · exact .inl h
  · exact .inr ⟨g, h1, hc.blk h2 (by have := Blk.ne h2 hb h62.symm; simpa using this)⟩
theorem Ot.chg0 {w w' : World} {a : Option Addr} {os : List Int} (h : Ot w a os) (hc : Chg [] w w') : Ot w' a os := by
  rcases h with h | ⟨g, h1, h2⟩
  · exact .inl h
  · exact .inr ⟨g, h1, hc.blk h2 (by simp)⟩
/-- What is copied out. -/
structure Oc (w : World) (a1 : Option Addr) (n : Nat) (es : Es) : Prop where
  len : es.length ≤ n
  stk : n = 0 ∨ ∃ g, a1 = some ⟨g, 0, none⟩ ∧ Blk w g 22 (Sv es ++ List.replicate (n - es.length) (.slice none 0 0))
  ent : ∀ e, e ∈ es → Ent w e.1 e.2 ∧ T5 w e.1
theorem Oc.chg0 {w w' : World} {a1 : Option Addr} {n : Nat} {es : Es} (h : Oc w a1 n es) (hc : Chg [] w w') : Oc w' a1 n es :=
  ⟨h.len, h.stk.imp_right (fun ⟨g, h1, h2⟩ => ⟨g, h1, hc.blk h2 (by simp)⟩), fun e he => ⟨(h.ent e he).1.chg0 hc, fun b hb => by
    obtain ⟨cs, hk⟩ := (h.ent e he).2 b hb
    exact ⟨cs, hc.blk hk (by simp)⟩⟩⟩
/-- A write into a block of another type. -/
theorem Oc.chg {w w' : World} {a1 : Option Addr} {n b t : Nat} {cs : List Value} {es : Es} (h : Oc w a1 n es) (hb : Blk w b t cs) (h5 : t ≠ 5) (h22 : t ≠ 22) (hc : Chg [b] w w') : Oc w' a1 n es :=
  ⟨h.len, h.stk.imp_right (fun ⟨g, h1, h2⟩ => ⟨g, h1, hc.blk h2 (by have := Blk.ne h2 hb h22.symm; simpa using this)⟩), fun e he => by
    refine ⟨(h.ent e he).1.chg hc (fun b2 hb2 => ?_), fun b2 hb2 => ?_⟩
    · obtain ⟨cs2, hk⟩ := (h.ent e he).2 b2 hb2
      have := Blk.ne hk hb h5.symm
      simpa using this
    · obtain ⟨cs2, hk⟩ := (h.ent e he).2 b2 hb2
      have := Blk.ne hk hb h5.symm
      exact ⟨cs2, hc.blk hk (by simpa using this)⟩⟩

theorem Sv_zero (es : Es) {n : Nat} (h : es.length < n) : Sv (es ++ [(none, 0)]) ++ List.replicate (n - (es ++ [(none, 0)]).length) (Value.slice none 0 0) = Sv es ++ List.replicate (n - es.length) (Value.slice none 0 0) := by
  have e1 : n - es.length = (n - (es.length + 1)) + 1 := by omega
  rw [e1, List.replicate_succ, List.length_append, List.length_singleton]
  simp [Sv, sv, dlen_zero]
theorem Sv_set (es : Es) {n v : Nat} {a : Option Addr} (h : es.length < n) : (Sv es ++ List.replicate (n - es.length) (Value.slice none 0 0)).set es.length (.slice a (dlen v) (dlen v)) = Sv (es ++ [(a, v)]) ++ List.replicate (n - (es ++ [(a, v)]).length) (Value.slice none 0 0) := by
  have e1 : n - es.length = (n - (es.length + 1)) + 1 := by omega
  rw [List.set_append_right _ _ (by rw [Sv_length]; omega), Sv_length, Nat.sub_self, e1, List.replicate_succ, List.set_cons_zero, List.length_append, List.length_singleton]
  simp [Sv, sv]

/-- One entry more is copied out. -/
theorem Oc.next {wr w9 : World} {go gd n v d : Nat} {es : Es} (h : Oc wr (some ⟨go, 0, none⟩) n es) (hl : es.length < n) (hgd : gd = wr.heap.size) (hd : d = dlen v) (h0 : 0 < v)
    (hc : Chg [gd] ((wr.setCell ⟨go, es.length, none⟩ (.slice (some ⟨gd, 0, none⟩) d d)).alloc (.cells (Array.replicate d (Value.int .u8 0)) 5)).drew w9) (hk : Blk w9 gd 5 (D8 v d)) : Oc w9 (some ⟨go, 0, none⟩) n (es ++ [(some ⟨gd, 0, none⟩, v)]) := by
  obtain ⟨go', e1, kgo⟩ : ∃ g, some (⟨go, 0, none⟩ : Addr) = some ⟨g, 0, none⟩ ∧ Blk wr g 22 (Sv es ++ List.replicate (n - es.length) (.slice none 0 0)) := by
    rcases h.stk with h1 | h1
    · omega
    · exact h1
  have e2 : go' = go := by
    injection e1 with h4
    injection h4 with h5
    exact h5.symm
  subst e2
  have k8 := ((kgo.set es.length (.slice (some ⟨gd, 0, none⟩) d d)).alloc (.cells (Array.replicate d (Value.int .u8 0)) 5)).drew
  have c8 := (((Chg.refl [go'] wr).setCell ⟨go', es.length, none⟩ (by simp) (.slice (some ⟨gd, 0, none⟩) d d)).alloc (.cells (Array.replicate d (Value.int .u8 0)) 5)).drew
  have hne : go' ≠ gd := by have := kgo.lt; omega
  subst hd
  refine ⟨by simp; omega, .inr ⟨go', rfl, ?_⟩, fun e he => ?_⟩
  · have := hc.blk k8 (by simpa using hne)
    rw [Sv_set es hl] at this
    exact this
  · rcases List.mem_append.mp he with he | he
    · have hq : ∀ b, e.1 = some ⟨b, 0, none⟩ → b ≠ go' ∧ b ≠ gd := fun b hb => by
        obtain ⟨cs, hk2⟩ := (h.ent e he).2 b hb
        have := hk2.lt
        exact ⟨Blk.ne hk2 kgo (by decide), by omega⟩
      refine ⟨((h.ent e he).1.chg c8 (fun b hb => by simpa using (hq b hb).1)).chg hc (fun b hb => by simpa using (hq b hb).2), fun b hb => ?_⟩
      obtain ⟨cs, hk2⟩ := (h.ent e he).2 b hb
      exact ⟨cs, hc.blk (c8.blk hk2 (by simpa using (hq b hb).1)) (by simpa using (hq b hb).2)⟩
    · rw [List.mem_singleton] at he
      subst he
      refine ⟨⟨fun h => by omega, fun _ => ⟨gd, rfl, D8_row hk⟩, fun b hb => ?_⟩, fun b hb => ?_⟩
      · have : gd = b := by simpa using hb
        exact this ▸ ⟨5, _, hk⟩
      · have : gd = b := by simpa using hb
        exact this ▸ ⟨_, hk⟩

theorem Mac.outs {B bm : Nat} {w : World} {v1 v2 : Value} {es : Es} {os : List Int} (h : Mac B w bm v1 es v2 os) :
    ∃ a cap, v2 = .slice a os.length cap ∧ os.length ≤ cap ∧ cap ≤ maxLen ∧ Cells w a (Ov os) := by
  rcases h.o.2 with ⟨h1, h2⟩ | ⟨g, cap, cur, e1, hb, hg, hn, hm, hsz, ht⟩
  · exact ⟨none, 0, by rw [h2]; exact h1, by omega, by unfold maxLen; omega, .inl (by rw [List.eq_nil_of_length_eq_zero h2]; rfl)⟩
  · refine ⟨some ⟨g, 0, none⟩, cap, e1, hn, hm, .inr ⟨g, rfl, (Array.getElem?_eq_some_iff.1 hg).1, fun j v hv => ?_⟩⟩
    have hk : Blk w g 62 cur.toList := by unfold Blk; simpa using hg
    rw [hk.cellq j]
    rw [← ht, List.getElem?_take] at hv
    split at hv
    · exact hv
    · cases hv

set_option maxRecDepth 10000 in
set_option maxHeartbeats 4000000 in
theorem outcome_any (B bm : Nat) (v1 v2 : Value) (es : Es) (os : List Int) (w : World) (h : Mac B w bm v1 es v2 os) :
    Calls Takg.prog 94 #[.pointer (some ⟨bm, 0, none⟩)] w fun e w' => ∃ a1 a2 es', e = .returned (.agg #[.bool false, .slice a1 es.length es.length, .slice a2 os.length os.length]) ∧ Oc w' a1 es.length es' ∧ es'.map (·.2) = es.map (·.2) ∧ Ot w' a2 os ∧ Chg [] w w' := by
  obtain ⟨a, cap, rfl, hcap, hmax, hst⟩ := h.stk
  obtain ⟨ao, co, rfl, hco, hmo, hOs⟩ := h.outs
  have HM := hide h
  have HOS := hide hOs
  have hn16 := h.n1
  have hm1000 := h.n2
  obtain ⟨m, em⟩ : ∃ m, m = os.length := ⟨_, rfl⟩
  rw [← em] at HM hco hm1000 ⊢
  have HEM := hide em
  clear em hOs
  have HST := hide hst
  obtain ⟨n, en⟩ : ∃ n, n = es.length := ⟨_, rfl⟩
  rw [← en] at hcap hn16 HM ⊢
  have HEN := hide en
  clear h hst en
  go_enter Takg.func94, Takg.ntmps94
  go_upto_region 1 with (refine wpList_new98 (by rfl) (by rfl) ?_; intro b2 w2 hb2 k2 c2)
  go_upto_region 2 with (refine wpList_new98 (by rfl) (by rfl) ?_; intro b3 w3 hb3 k3 c3)
  simp only [Act.put, List.setIfInBounds_toArray, List.set_cons_zero, List.set_cons_succ]
  have n23 : b2 ≠ b3 := by have := k2.lt; have := hb3.out; omega
  have g3 : w.heap.size ≤ b3 := by have := hb3.out; have := c2.size; omega
  have g2 : w.heap.size ≤ b2 := by have := hb2.out; omega
  have k23 := c3.blk k2 (by simp)
  have c23 := c2.trans c3
  have fm := (c23.blk HM.out.m (by simp)).cell 0 _ rfl
  have hbm : bm < w3.heap.size := (c23.blk HM.out.m (by simp)).lt
  clear hb2 hb3 k2 c2 c3
  go_upto_if 10 with fail
  go_cut [] (fun wc => ∃ a1, Hid (∀ g, a1 = some ⟨g, 0, none⟩ → w.heap.size ≤ g) ∧ Blk wc b3 98 [.bool false, .slice a1 n n, .slice none 0 0] ∧ Oc wc a1 n [] ∧ Blk wc b2 98 [.bool false, .slice none 0 0, .slice none 0 0] ∧ Chg [] w wc)
  case first =>
    rcases Nat.eq_zero_or_pos n with h0 | h0
    · subst h0
      go_wp2_with fail
      go_meet
      exact ⟨none, hide (fun g hg => (by cases hg)), k3, ⟨Nat.le_refl _, .inl rfl, fun e he => by simp at he⟩, k23, c23⟩
    · have hmk := make_run (P := Takg.prog) 96 22 (.slice none 0 0) 24 n rfl Takg.underlying96 info22 (by omega) (by omega)
      have V2 := (k3.set 1 (.slice (some ⟨w3.heap.size, 0, none⟩) n n)).alloc (.cells (Array.replicate n (Value.slice none 0 0)) 22)
      have V3 := Blk.newRep (w3.setCell ⟨b3, 1, none⟩ (.slice (some ⟨w3.heap.size, 0, none⟩) n n)) n (Value.slice none 0 0) 22
      have eh : (w3.setCell ⟨b3, 1, none⟩ (.slice (some ⟨w3.heap.size, 0, none⟩) n n)).heap.size = w3.heap.size := by simp
      rw [eh] at V3
      clear eh
      have V4 := (k23.set_ne ⟨b3, 1, none⟩ n23 (.slice (some ⟨w3.heap.size, 0, none⟩) n n)).alloc (.cells (Array.replicate n (Value.slice none 0 0)) 22)
      have V5 := (c23.setNew ⟨b3, 1, none⟩ g3 (.slice (some ⟨w3.heap.size, 0, none⟩) n n)).alloc (.cells (Array.replicate n (Value.slice none 0 0)) 22)
      have VZ := k3.frozen 1 none
      have HV := hide (And.intro V2 (And.intro V3 (And.intro V4 V5)))
      have l3 := k3.lt
      have HSZ : Hid (w.heap.size ≤ w3.heap.size) := c23.size
      have f3 := k3.cell 1 _ rfl
      clear V2 V3 V4 V5 k3 k23 c23
      go_wp2_with fail
      go_meet
      exact ⟨_, hide (fun g hg => Nat.le_trans HSZ.out (Nat.le_of_eq (by simpa using hg))), HV.out.1, ⟨Nat.zero_le _, .inr ⟨_, rfl, by simpa [Sv] using HV.out.2.1⟩, fun e he => by simp at he⟩, HV.out.2.2.1, HV.out.2.2.2⟩
  case rest =>
    clear k3 k23 c23 fm hbm
    obtain ⟨a1, HA1, k3, hOc, k2, cw⟩ := hcut
    go_upto_region 5 with fail
    go_loopw [4] (fun x wr => ∃ (i : Nat) (es' : Es), x = .int .i64 i ∧ i ≤ n ∧ Hid (es'.length = i ∧ es'.map (·.2) = (es.take i).map (·.2)) ∧ Oc wr a1 n es' ∧ Blk wr b3 98 [.bool false, .slice a1 n n, .slice none 0 0] ∧ Blk wr b2 98 [.bool false, .slice none 0 0, .slice none 0 0] ∧ Chg [] w wr) (fun x _ => n - (intOf x).toNat)
    case atStart => exact ⟨0, [], rfl, by omega, ⟨rfl, rfl⟩, hOc, k3, k2, cw⟩
    case round =>
      clear k3 hOc k2 cw
      obtain ⟨i, es', rfl, hi, HE', hOc, k3, k2, cw⟩ := hrel
      have fm := (cw.blk HM.out.m (by simp)).cell 0 _ rfl
      have hbm : bm < wr.heap.size := (cw.blk HM.out.m (by simp)).lt
      by_cases hlt : i < n
      · obtain ⟨f, hf⟩ : ∃ f, es[i]? = some f := by
          rw [HEN.out] at hlt
          exact ⟨_, List.getElem?_eq_getElem hlt⟩
        obtain ⟨g, rfl, hS⟩ : ∃ g, a = some ⟨g, 0, none⟩ ∧ Stk wr g cap es := by
          rcases HST.out with h0 | ⟨g, h1, h2⟩
          · rw [h0] at hf; simp at hf
          · exact ⟨g, h1, h2.chg0 cw⟩
        have hcf := hS.cell i f hf
        have hgl := hS.lt
        have hEf := hS.ent f (List.mem_of_getElem? hf)
        have HEF := hide hEf
        have HF := hide hf
        obtain ⟨f1, f2⟩ := f
        dsimp only at hcf HEF hEf
        have hd := hEf.2
        have HTK : Hid ((es.take (i + 1)).map (·.2) = (es.take i).map (·.2) ++ [f2]) := by
          unfold Hid
          rw [List.take_add_one, hf]; simp
        clear hf hS hEf
        rcases Nat.eq_zero_or_pos f2 with h0 | h0
        · subst h0
          rw [dlen_zero] at hcf hd
          have HK := hide (And.intro k3 (And.intro k2 cw))
          clear k3 k2 cw
          go_wp2_with fail
          go_roundw
          case rel =>
            refine ⟨i + 1, es' ++ [(none, 0)], by go_num, by omega, ⟨by simp [HE'.out.1], by rw [List.map_append, HE'.out.2, HTK.out]; rfl⟩, ⟨by have := HE'.out.1; simp; omega, ?_, ?_⟩, HK.out.1, HK.out.2.1, HK.out.2.2⟩
            · rw [Sv_zero _ (by have := HE'.out.1; omega)]
              exact hOc.stk
            · intro e he
              rcases List.mem_append.mp he with he | he
              · exact hOc.ent e he
              · rw [List.mem_singleton] at he
                subst he
                exact ⟨Ent.zero _, fun b hb => by cases hb⟩
          case measure => simp [intOf]; omega
        · obtain ⟨go, rfl, kgo⟩ : ∃ go, a1 = some ⟨go, 0, none⟩ ∧ Blk wr go 22 (Sv es' ++ List.replicate (n - es'.length) (.slice none 0 0)) := by
            rcases hOc.stk with h1 | h1
            · omega
            · exact h1
          obtain ⟨bf, rfl, hrow⟩ := HEF.out.1.som h0
          have HROW := hide hrow
          have hbf := hrow.lt
          obtain ⟨d, hdd⟩ : ∃ d, d = dlen f2 := ⟨_, rfl⟩
          rw [← hdd] at hcf hd HROW
          have HD := hide hdd
          have hd0 : 0 < d := by rw [hdd]; exact dlen_pos h0
          have hmk := make_run (P := Takg.prog) 22 5 (.int .u8 0) 1 d rfl Takg.underlying22 info5 (by omega) (by omega)
          have hLl : (Sv es' ++ List.replicate (n - es'.length) (Value.slice none 0 0)).length = n := by
            have := HE'.out.1
            simp [Sv_length]; omega
          have fgo := kgo.cell i _ (List.getElem?_eq_getElem (by omega : i < (Sv es' ++ List.replicate (n - es'.length) (Value.slice none 0 0)).length))
          generalize (Sv es' ++ List.replicate (n - es'.length) (Value.slice none 0 0))[i]'(by omega) = pk at fgo
          have fz := kgo.frozen i none
          have f3 := k3.cell 1 _ rfl
          have l3 := k3.lt
          have lgo := kgo.lt
          have HOC := hide (And.intro hOc (And.intro k3 (And.intro k2 cw)))
          have HGO := hide kgo
          have H0F := hide h0
          clear hOc k3 k2 cw kgo hrow hdd h0
          go_upto_region 8 with fail
          go_region
          obtain ⟨gd, hgd⟩ : ∃ gd, gd = wr.heap.size := ⟨_, rfl⟩
          have HNX := hide (fun w9 hc hk => HOC.out.1.next (w9 := w9) (by have := HE'.out.1; omega) hgd HD.out H0F.out hc hk)
          rw [HE'.out.1] at HNX
          rw [← hgd]
          have ggo := HA1.out go rfl
          have P1 := ((HGO.out.set i (.slice (some ⟨gd, 0, none⟩) d d)).alloc (.cells (Array.replicate d (Value.int .u8 0)) 5)).drew
          have P2 := (Blk.newRep (wr.setCell ⟨go, i, none⟩ (.slice (some ⟨gd, 0, none⟩) d d)) d (Value.int .u8 0) 5).drew
          have eh : (wr.setCell ⟨go, i, none⟩ (.slice (some ⟨gd, 0, none⟩) d d)).heap.size = gd := by rw [hgd]; simp
          rw [eh] at P2
          have P3 := ((HOC.out.2.1.set_ne ⟨go, i, none⟩ (Blk.ne HOC.out.2.1 HGO.out (by decide)) (.slice (some ⟨gd, 0, none⟩) d d)).alloc (.cells (Array.replicate d (Value.int .u8 0)) 5)).drew
          have P4 := ((HOC.out.2.2.1.set_ne ⟨go, i, none⟩ (Blk.ne HOC.out.2.2.1 HGO.out (by decide)) (.slice (some ⟨gd, 0, none⟩) d d)).alloc (.cells (Array.replicate d (Value.int .u8 0)) 5)).drew
          have P5 := ((HOC.out.2.2.2.setNew ⟨go, i, none⟩ ggo (.slice (some ⟨gd, 0, none⟩) d d)).alloc (.cells (Array.replicate d (Value.int .u8 0)) 5)).drew
          clear fgo fz f3 l3 lgo hmk fm hcf eh
          generalize ((wr.setCell ⟨go, i, none⟩ (.slice (some ⟨gd, 0, none⟩) d d)).alloc (.cells (Array.replicate d (Value.int .u8 0)) 5)).drew = w8 at *
          have hSt8 : Stk w8 g cap es := by
            rcases HST.out with h1 | ⟨g', h1, h2⟩
            · have := HF.out; rw [h1] at this; simp at this
            · have : g' = g := by simpa using h1.symm
              subst this
              exact h2.chg0 P5
          have hcf := hSt8.cell i _ HF.out
          have hr8 := (hSt8.ent _ (List.mem_of_getElem? HF.out)).1
          have HSRC : Hid (∀ j v, (D8 f2 d)[j]? = some v → w8.drew.cell? ((⟨bf, 0, none⟩ : Addr).add j) = some v) := fun j x hx => by
            have hj : j < d := by
              rcases Nat.lt_or_ge j d with h | h
              · exact h
              · rw [List.getElem?_eq_none (by rw [D8_length]; exact h)] at hx; cases hx
            rw [D8_get f2 d j hj] at hx
            cases hx
            rw [addr_add]
            obtain ⟨b', h1, h2⟩ := hr8.som H0F.out
            have : bf = b' := by simpa using h1
            subst this
            rw [← HD.out] at h2
            exact h2.cell j hj
          clear hr8
          have fm := (P5.blk HM.out.m (by simp)).cell 0 _ rfl
          have f3 := P3.cell 1 _ rfl
          have fg := P1.cell i (.slice (some ⟨gd, 0, none⟩) d d) (by rw [List.getElem?_set_self (by omega)])
          dsimp only at hcf
          rw [← HD.out] at hcf
          have HP := hide (And.intro P1 (And.intro P2 (And.intro P3 (And.intro P4 P5))))
          have HGD := hide hgd
          clear P1 P3 P4 P5 hSt8 hgd hbm hgl hbf
          go_upto_region 9 with fail
          go_region_law (refine step_copyF (by rfl) (.tmp 53) (.tmp 60) 22 83 (by rfl) 5 Takg.underlying22 size5 (some ⟨gd, 0, none⟩) (some ⟨bf, 0, none⟩) d d d d (by rfl) (by rfl) gd 5 (List.replicate d (.int .u8 0)) [] (D8 f2 d) (by simp [D8_length]) (by simpa using P2.drew) (by rw [D8_length]; exact (Nat.min_self d).symm) (fun _ => ⟨rfl, _, rfl, HSRC.out⟩) (D8_one f2 d) ?_; intro w9 k9 c9)
          all_goals
            have HK9 := hide (And.intro k9 c9)
            clear k9 c9 hcf fm f3 fg P2
            go_wp2_with fail
            go_roundw
            case rel =>
              have hne1 : b3 ≠ gd := Blk.ne HP.out.2.2.1 HP.out.2.1 (by decide)
              have hne2 : b2 ≠ gd := Blk.ne HP.out.2.2.2.1 HP.out.2.1 (by decide)
              have hx9 : Chg [gd] w8 w9 := ((Chg.refl [gd] w8).drew).trans HK9.out.2
              refine ⟨i + 1, es' ++ [(some ⟨gd, 0, none⟩, f2)], by go_num, by omega, ⟨by simp [HE'.out.1], by rw [List.map_append, HE'.out.2, HTK.out]; rfl⟩, HNX.out _ hx9 (by simpa using HK9.out.1), hx9.blk HP.out.2.2.1 (by simpa using hne1), hx9.blk HP.out.2.2.2.1 (by simpa using hne2), HP.out.2.2.2.2.news hx9 (by have := HGD.out; have := HOC.out.2.2.2.size; simp; omega)⟩
            case measure => simp [intOf]; omega
      · have : i = n := by omega
        subst this
        have fo := (cw.blk HM.out.m (by simp)).cell 1 _ rfl
        have HOc := hide hOc
        clear hOc hlt hi
        go_upto_if 67 with fail
        go_cut [] (fun wc => ∃ a2, Blk wc b3 98 [.bool false, .slice a1 i i, .slice a2 m m] ∧ (Ov os = [] ∨ ∃ b, a2 = some ⟨b, 0, none⟩ ∧ Blk wc b 62 (Ov os)) ∧ Oc wc a1 i es' ∧ Blk wc b2 98 [.bool false, .slice none 0 0, .slice none 0 0] ∧ Chg [] w wc)
        case first =>
          rcases Nat.eq_zero_or_pos m with h0 | h0
          · subst h0
            go_wp2_with fail
            go_meet
            exact ⟨none, k3, .inl (by rw [List.eq_nil_of_length_eq_zero HEM.out.symm]; rfl), HOc.out, k2, cw⟩
          · have hmk := make_run (P := Takg.prog) 90 62 (.int .i8 0) 1 m rfl Takg.underlying90 info62 (by omega) (by omega)
            obtain ⟨gd, hgd⟩ : ∃ gd, gd = wr.heap.size := ⟨_, rfl⟩
            have P2 := Blk.newRep (wr.setCell ⟨b3, 2, none⟩ (.slice (some ⟨gd, 0, none⟩) m m)) m (Value.int .i8 0) 62
            have eh : (wr.setCell ⟨b3, 2, none⟩ (.slice (some ⟨gd, 0, none⟩) m m)).heap.size = gd := by rw [hgd]; simp
            rw [eh] at P2
            have P3 := (k3.set 2 (.slice (some ⟨gd, 0, none⟩) m m)).alloc (.cells (Array.replicate m (Value.int .i8 0)) 62)
            have P4 := (k2.set_ne ⟨b3, 2, none⟩ n23 (.slice (some ⟨gd, 0, none⟩) m m)).alloc (.cells (Array.replicate m (Value.int .i8 0)) 62)
            have P5 := (cw.setNew ⟨b3, 2, none⟩ g3 (.slice (some ⟨gd, 0, none⟩) m m)).alloc (.cells (Array.replicate m (Value.int .i8 0)) 62)
            have P6 := (HOc.out.chg k3 (by decide) (by decide) ((Chg.refl [b3] wr).setCell ⟨b3, 2, none⟩ (by simp) (.slice (some ⟨gd, 0, none⟩) m m))).chg0 ((Chg.refl [] _).alloc (.cells (Array.replicate m (Value.int .i8 0)) 62))
            have fz := k3.frozen 2 none
            have f3 := k3.cell 2 _ rfl
            have l3 := k3.lt
            have HPP := hide (And.intro P2 (And.intro P3 (And.intro P4 (And.intro P5 P6))))
            rw [hgd] at HPP
            clear P2 P3 P4 P5 P6 k3 k2 eh
            rw [hgd.symm] at HPP
            have HGD := hide hgd
            clear hgd
            go_upto_region 12 with fail
            rw [← HGD.out]
            clear fz f3 l3 hmk fm fo
            generalize (wr.setCell ⟨b3, 2, none⟩ (.slice (some ⟨gd, 0, none⟩) m m)).alloc (.cells (Array.replicate m (Value.int .i8 0)) 62) = w8 at *
            have k8 := HPP.out.1
            have f8 := HPP.out.2.1.cell 2 _ rfl
            have fo := (HPP.out.2.2.2.1.blk HM.out.m (by simp)).cell 1 _ rfl
            obtain ⟨bo, rfl, HSRC⟩ : ∃ bo, ao = some ⟨bo, 0, none⟩ ∧ Hid (∀ j v, (Ov os)[j]? = some v → w8.drew.cell? ((⟨bo, 0, none⟩ : Addr).add j) = some v) := by
              rcases (HOS.out.chg0 HPP.out.2.2.2.1) with h1 | ⟨bo, h1, h2, h3⟩
              · have := HEM.out
                have h4 : os = [] := by unfold Ov at h1; simpa using h1
                rw [h4] at this; simp at this; omega
              · exact ⟨bo, h1, fun j v hv => by rw [addr_add, Nat.zero_add]; exact h3 j v hv⟩
            have HOL : Hid ((Ov os).length = m) := by unfold Hid; rw [HEM.out]; simp [Ov]
            have HO1 : Hid (∀ v, v ∈ Ov os → v.oneCell' = true) := fun v hv => by
              unfold Ov at hv
              rw [List.mem_map] at hv
              obtain ⟨j, _, rfl⟩ := hv
              rfl
            clear hbm
            go_region_law (refine step_copyF (by rfl) (.tmp 76) (.tmp 80) 90 90 (by rfl) 62 Takg.underlying90 size62 (some ⟨gd, 0, none⟩) (some ⟨bo, 0, none⟩) m m m co (by rfl) (by rfl) gd 62 (List.replicate m (.int .i8 0)) [] (Ov os) (by rw [HOL.out]; simp) (by simpa using k8.drew) (by rw [HOL.out]; exact (Nat.min_self m).symm) (fun _ => ⟨rfl, _, rfl, HSRC.out⟩) HO1.out ?_; intro w9 k9 c9)
            all_goals
              have HK9 := hide (And.intro k9 c9)
              clear k9 c9 fo f8 k8
              go_wp2_with fail
              go_meet
              have hne1 : b3 ≠ gd := Blk.ne HPP.out.2.1 HPP.out.1 (by decide)
              have hne2 : b2 ≠ gd := Blk.ne HPP.out.2.2.1 HPP.out.1 (by decide)
              have hx9 : Chg [gd] w8 w9 := ((Chg.refl [gd] w8).drew).trans HK9.out.2
              exact ⟨some ⟨gd, 0, none⟩, hx9.blk HPP.out.2.1 (by simpa using hne1), .inr ⟨gd, rfl, by have := HK9.out.1; rwa [List.append_nil] at this⟩, HPP.out.2.2.2.2.chg HPP.out.1 (by decide) (by decide) hx9, hx9.blk HPP.out.2.2.1 (by simpa using hne2), HPP.out.2.2.2.1.news hx9 (by have := HGD.out; have := cw.size; simp; omega)⟩
        case rest =>
          clear k3 k2 cw fm fo hbm
          obtain ⟨a2, k3, hCo, hOc, k2, cw⟩ := hcut
          have x0 := k3.cell 0 _ rfl
          have x1 := k3.cell 1 _ rfl
          have x2 := k3.cell 2 _ rfl
          have y0 := k2.cell 0 _ rfl
          have y1 := k2.cell 1 _ rfl
          have y2 := k2.cell 2 _ rfl
          have z0 := k2.frozen 0 none
          have z1 := k2.frozen 1 none
          have z2 := k2.frozen 2 none
          have V1 := ((k2.set 0 (.bool false)).set 1 (.slice a1 i i)).set 2 (.slice a2 m m)
          have C1 := ((((Chg.refl [b2] wc)).setCell ⟨b2, 0, none⟩ (by simp) (.bool false)).setCell ⟨b2, 1, none⟩ (by simp) (.slice a1 i i)).setCell ⟨b2, 2, none⟩ (by simp) (.slice a2 m m)
          have HV := hide (And.intro V1 (And.intro C1 (And.intro cw (And.intro hOc hCo))))
          have HK2 := hide k2
          clear V1 C1 k3 k2 hCo hOc cw
          go_wp2_with fail
          refine bodyPost_ret (results_cell rfl _ _ _ b2 0 rfl [.bool false, .slice a1 i i, .slice a2 m m] _ (fun j v hj => by rw [Nat.zero_add]; exact HV.out.1.cell j v hj) Takg.underlying98 rfl info98) rfl ?_
          refine ⟨a1, a2, rfl, es', HV.out.2.2.2.1.chg HK2.out (by decide) (by decide) HV.out.2.1, ?_, ?_, HV.out.2.2.1.news HV.out.2.1 (by simp; omega)⟩
          · rw [HE'.out.2, HEN.out, List.take_length]
          · rcases HV.out.2.2.2.2 with h1 | ⟨b, h1, h2⟩
            · exact .inl h1
            · have := Blk.ne h2 HK2.out (by decide)
              exact .inr ⟨b, h1, HV.out.2.1.blk h2 (by simpa using this)⟩
end Na
end Go.Proofs.Ygctak
