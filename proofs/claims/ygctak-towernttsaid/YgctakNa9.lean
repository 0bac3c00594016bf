/-
  The law's own machine: law.times, law.multipliedRow.
-/
import Derived.Test.YgctakNa8
namespace Go.Proofs.Ygctak
open Go.RowKit
set_option linter.unusedVariables false
set_option linter.unusedSimpArgs false
attribute [local go_sem ↓] Go.wp_at_zero Go.wp_at_succ
namespace Na

theorem times_any (a1 a2 : Option Addr) (x y : Nat) (w : World) (l1 : dlen x ≤ 5000) (l2 : dlen y ≤ 5000) (h1 : Ent w a1 x) (h2 : Ent w a2 y) :
    Calls Takg.prog 121 #[.int .u8 0, .slice a1 (dlen x) (dlen x), .slice a2 (dlen y) (dlen y)] w fun e w' => ∃ a', e = .returned (.tuple #[.slice a' (dlen (x * y)) (dlen (x * y)), .bool true]) ∧ New w w' a' (x * y) ∧ Chg [] w w' := by
  have HM := hide (MulSchool_any a1 a2 x y w l1 l2 h1 h2)
  clear h1 h2
  go_enter Takg.func121, Takg.ntmps121
  go_wp2_with fail
  refine HM.out.mono ?_
  rintro e w1 ⟨a', rfl, hn, hc⟩
  go_wp2_with fail
  refine bodyPost_ret (results2 rfl _ _ _) rfl ?_
  exact ⟨a', rfl, hn, hc⟩

/-- A state: a stack and what was put out. -/
theorem info92 : (Takg.prog.info? 92).map (·.size) = some 2 := by kernel_rfl
theorem alloc92 (w : World) : (Instr.alloc 92 true (.tuple #[])).run Takg.prog w = .ok (.pointer (some ⟨w.heap.size, 0, none⟩)) (w.alloc (.cells #[.slice none 0 0, .slice none 0 0] 92)) := by kernel_rfl
theorem build92 (p q : Value) (w : World) (a1 a2 : Option Addr) (n1 n2 c1 c2 : Nat) (hp : p = .slice a1 n1 c1) (hq : q = .slice a2 n2 c2) : (Instr.build 92 #[(0, p), (1, q)]).run Takg.prog w = .ok (.agg #[p, q]) w := by
  subst hp hq
  kernel_rfl
theorem one92 {p q : Value} (hp : p.oneCell' = true) (hq : q.oneCell' = true) : (#[p, q] : Array Value).all (·.oneCell') = true := by simp [hp, hq]

theorem wpList_box92 {ops : Array Oper} {rest : List Oper} {o1 : Oper} {a : Act} {w : World} {Q : Exit → Act → World → Prop} (hg1 : o1.guard = none) (x : Operand) (ho1 : o1.op = .box 92 x) (p q : Value) (hx : a.eval x = .agg #[p, q])
    (h : ∀ b w2, Hid (b = w.heap.size) → Blk w2 b 92 [p, q] → Chg [] w w2 → wpList Takg.prog ops Q rest (a.put o1.dst (.pointer (some ⟨b, 0, none⟩))) w2) : wpList Takg.prog ops Q (o1 :: rest) a w := by
  refine wpList_plain hg1 fun K hK => ?_
  unfold Oper.wp
  have : (execOp a.eval o1).run Takg.prog w = .ok (.value (.pointer (some ⟨w.heap.size, 0, none⟩))) (w.alloc (.cells #[p, q] 92)) := by
    unfold execOp
    rw [ho1]
    simp only [hx]
    rfl
  rw [this, Oper.upon_value]
  exact hK _ _ (h _ _ rfl (Blk.new w [p, q] 92) ((Chg.refl [] w).alloc _))
theorem wpList_new92 {ops : Array Oper} {rest : List Oper} {o1 : Oper} {a : Act} {w : World} {Q : Exit → Act → World → Prop} (hg1 : o1.guard = none) (ho1 : o1.op = .alloc 92)
    (h : ∀ b w2, Hid (b = w.heap.size) → Blk w2 b 92 [.slice none 0 0, .slice none 0 0] → Chg [] w w2 → wpList Takg.prog ops Q rest (a.put o1.dst (.pointer (some ⟨b, 0, none⟩))) w2) : wpList Takg.prog ops Q (o1 :: rest) a w := by
  refine wpList_allocVar hg1 92 ho1 _ alloc92 ?_
  exact h _ _ rfl (Blk.new w [.slice none 0 0, .slice none 0 0] 92) ((Chg.refl [] w).alloc _)
theorem results_cell {fn : Func} {p : Tmp} {ty : TypeId} (h : fn.results = #[.cell p ty]) (tmps : Array Value) (P : Program) (w : World) (b o : Nat) (hp : tmps.getD p undef = .pointer (some ⟨b, o, none⟩)) (cs : List Value) (d : TypeDesc)
    (hc : w.rangeAt b o cs) (hu : P.underlying ty = some d) (hd : d.isRow = true) (hi : (P.info? ty).map (·.size) = some cs.length) : (results fn tmps).run P w = .ok (.agg cs.toArray) w := by
  have hl := run_loadVar_mid w b o ty cs d hc hu hd hi
  simp only [results, h]
  simp [Sem.run_bind, Result.andThen, hp, asAddr, hl]
  simp [Array.getD_eq_getD_getElem?] at hp
  simp [hp, hl, asAddr]

theorem takeL {P : Program} {Q : Exit → Act → World → Prop} {md : Region.Mode} {S : World → Prop} {L : List Oper} (i : Nat) {oi : Oper} {v : Value} {fuel : Nat} {listed : Array Bool} {a : Act} {w : World} (hi : L[i]? = some oi)
    (hs : Region.noSelect L.toArray = true) (hf : Region.free md L.toArray listed i = true) (hr : (Region.ready md L.toArray listed).contains i = true)
    (hQ : ∀ c a w, Q (.panic c) (a.put oi.dst v) w → Q (.panic c) a w) (hw : Region.wanted oi (yielded L.toArray a.tmps) = true) (hy : ∀ w, S w → (execOp a.eval oi).run P w = .ok (.value v) w) (hS : S w)
    (h : wpAnyH P md L.toArray Q S fuel (listed.setIfInBounds i true) (a.put oi.dst v) w) : wpAnyH P md L.toArray Q S (fuel + 1) listed a w :=
  wpAnyH_take (i := i) (by simpa using hi) hs hf hr hQ (Or.inl ⟨hw, hy⟩) hS h
theorem consL {P : Program} {Q : Exit → Act → World → Prop} {md : Region.Mode} {S : World → Prop} {L : List Oper} {fuel : Nat} {listed : Array Bool} {a : Act} {w : World} {i : Nat} {o : Oper} {rs : List Nat} (ho : L[i]? = some o) (hg : o.guard = none)
    (h : ∀ K' : Act → World → Prop, Shut (∀ a w, S w → (S w → wpAnyH P md L.toArray Q S fuel (listed.setIfInBounds i true) a w) → K' a w) → Oper.wp P o a w K' Q)
    (hs : AllReadyH P md L.toArray Q S fuel listed a w rs) : AllReadyH P md L.toArray Q S fuel listed a w (i :: rs) :=
  AllReadyH.cons (by simpa using ho) (fun K hK => by
    rw [if_pos (by simp [Region.wanted, hg])]
    exact h K hK) hs
theorem run_build92 {a : Act} {o : Oper} (x y : Operand) (h : o.op = .build 92 #[(0, x), (1, y)]) (a1 : Option Addr) (n1 c1 : Nat) (a2 : Option Addr) (n2 c2 : Nat) (w : World) (hx : a.eval x = .slice a1 n1 c1) (hy : a.eval y = .slice a2 n2 c2) :
    (execOp a.eval o).run Takg.prog w = .ok (.value (.agg #[.slice a1 n1 c1, .slice a2 n2 c2])) w := by
  unfold execOp
  rw [h]
  have hb := build92 (.slice a1 n1 c1) (.slice a2 n2 c2) w a1 a2 n1 n2 c1 c2 rfl rfl
  simp only [List.map_toArray, List.map_cons, List.map_nil, hx, hy, Sem.run_bind, hb, Result.andThen]
  rfl
theorem wp_new92 {o : Oper} {a : Act} {w : World} {K : Act → World → Prop} {Q' : Exit → Act → World → Prop} (ho : o.op = .alloc 92)
    (h : ∀ b w2, Hid (b = w.heap.size) → Blk w2 b 92 [.slice none 0 0, .slice none 0 0] → Chg [] w w2 → K (a.put o.dst (.pointer (some ⟨b, 0, none⟩))) w2) : Oper.wp Takg.prog o a w K Q' := by
  unfold Oper.wp
  have : (execOp a.eval o).run Takg.prog w = .ok (.value (.pointer (some ⟨w.heap.size, 0, none⟩))) (w.alloc (.cells #[.slice none 0 0, .slice none 0 0] 92)) := by
    unfold execOp
    rw [ho]
    simp [Sem.run_bind, alloc92, Result.andThen]
  rw [this, Oper.upon_value]
  exact h _ _ rfl (Blk.new w [.slice none 0 0, .slice none 0 0] 92) ((Chg.refl [] w).alloc _)
theorem there2 {w : World} {b t : Nat} {p q : Value} (h : Blk w b t [p, q]) : w.there b 0 2 := fun j hj => by
  rw [Nat.zero_add]
  refine ⟨?_, h.frozen _ _⟩
  rcases Nat.lt_or_ge j 1 with h1 | h1
  · obtain rfl : j = 0 := by omega
    rw [h.cell 0 _ rfl]; rfl
  · obtain rfl : j = 1 := by omega
    rw [h.cell 1 _ rfl]; rfl
theorem set2 {w : World} {b t : Nat} {p q p' q' : Value} (h : Blk w b t [p, q]) : Blk (w.setCells b 0 [p', q']) b t [p', q'] := by
  have h1 := (h.set 0 p').set 1 q'
  exact h1
theorem chg2 {w w2 : World} {b : Nat} {p q : Value} (h : Chg [] w w2) (hb : w.heap.size ≤ b) : Chg [] w (w2.setCells b 0 [p, q]) := (h.setNew ⟨b, 0, none⟩ hb p).setNew ⟨b, 0 + 1, none⟩ hb q
theorem ne2 {w : World} {b b2 t : Nat} {cs : List Value} {p q : Value} (h : Blk w b2 t cs) (hn : b2 ≠ b) : Blk (w.setCells b 0 [p, q]) b2 t cs := (h.set_ne ⟨b, 0, none⟩ hn p).set_ne ⟨b, 0 + 1, none⟩ hn q
theorem range2 {w : World} {b t : Nat} {p q : Value} (h : Blk w b t [p, q]) : w.rangeAt b 0 [p, q] := fun j v hv => by rw [Nat.zero_add]; exact h.cell j v hv

/-- Cells of that type lie there. -/
def Ty (w : World) (a : Option Addr) (t n : Nat) : Prop := n = 0 ∨ ∃ b cs, a = some ⟨b, 0, none⟩ ∧ Blk w b t cs
theorem Ty.of {w : World} {b t n : Nat} {cs : List Value} (h : Blk w b t cs) : Ty w (some ⟨b, 0, none⟩) t n := .inr ⟨b, cs, rfl, h⟩
theorem Ty.chg {S : List Nat} {w w2 : World} {a : Option Addr} {t n : Nat} (h : Ty w a t n) (hc : Chg S w w2) (hn : ∀ b, a = some ⟨b, 0, none⟩ → b ∉ S) : Ty w2 a t n := by
  rcases h with h | ⟨b, cs, h1, h2⟩
  · exact .inl h
  · exact .inr ⟨b, cs, h1, hc.blk h2 (hn b h1)⟩
theorem Ty.chg0 {w w2 : World} {a : Option Addr} {t n : Nat} (h : Ty w a t n) (hc : Chg [] w w2) : Ty w2 a t n := h.chg hc (fun _ _ => by simp)
/-- A state's slices. -/
structure StE (w : World) (a1 : Option Addr) (c1 : Nat) (es : Es) (a2 : Option Addr) (c2 : Nat) (os : List Int) : Prop where
  n1 : es.length ≤ 16
  k1 : es.length ≤ c1
  b1 : c1 ≤ 10000
  nil1 : a1 = none → c1 = 0
  som1 : ∀ x, a1 = some x → ∃ b, x = ⟨b, 0, none⟩
  cel1 : Cells w a1 (Sv es)
  ent : ∀ e, e ∈ es → Ent w e.1 e.2 ∧ dlen e.2 ≤ 1024
  n2 : os.length ≤ 1000
  k2 : os.length ≤ c2
  b2 : c2 ≤ 10000
  cel2 : Cells w a2 (Ov os)
  t1 : Ty w a1 83 es.length
  t2 : Ty w a2 62 os.length
theorem StE.chg0 {w w2 : World} {a1 a2 : Option Addr} {c1 c2 : Nat} {es : Es} {os : List Int} (h : StE w a1 c1 es a2 c2 os) (hc : Chg [] w w2) : StE w2 a1 c1 es a2 c2 os :=
  ⟨h.n1, h.k1, h.b1, h.nil1, h.som1, h.cel1.chg0 hc, fun e he => ⟨(h.ent e he).1.chg0 hc, (h.ent e he).2⟩, h.n2, h.k2, h.b2, h.cel2.chg0 hc, h.t1.chg0 hc, h.t2.chg0 hc⟩

set_option maxRecDepth 10000 in
set_option maxHeartbeats 1000000 in
theorem multipliedRow_any (a1 a2 b1 b2 : Option Addr) (c1 c2 k x y : Nat) (es : Es) (os : List Int) (w : World) (hs : StE w a1 c1 es a2 c2 os) (hk : k ≤ es.length) (l1 : dlen x ≤ 5000) (l2 : dlen y ≤ 5000) (h1 : Ent w b1 x) (h2 : Ent w b2 y) :
    Calls Takg.prog 91 #[.int .u8 0, .agg #[.slice a1 es.length c1, .slice a2 os.length c2], .int .i64 k, .slice b1 (dlen x) (dlen x), .slice b2 (dlen y) (dlen y)] w fun e w' =>
      ∃ b a', e = .returned (.agg #[.slice (some ⟨b, 0, none⟩) (es.length - k + 1) (es.length - k + 1), .slice a2 os.length c2]) ∧ Blk w' b 83 (Sv (es.take (es.length - k) ++ [(a', x * y)])) ∧ Ent w' a' (x * y) ∧ Chg [] w w' := by
  have HT := hide (fun W (hW : Chg [] w W) => times_any b1 b2 x y W l1 l2 (h1.chg0 hW) (h2.chg0 hW))
  have HS := hide (fun a' W (hW : Chg [] w W) => stacked_any a1 a' c1 k (x * y) es W (by have := hs.n1; omega) hs.k1 hk (by have := hs.b1; omega) hs.nil1 hs.som1 (hs.cel1.chg0 hW))
  generalize x * y = z at *
  generalize es.length = n at *
  generalize os.length = m at *
  clear hs hk l1 l2 h1 h2
  go_enter Takg.func91, Takg.ntmps91
  go_upto_region 1 with (first | (refine wpList_box92 (by rfl) (.tmp 1) (by rfl) (.slice a1 n c1) (.slice a2 m c2) (by rfl) ?_; intro bb wb hbb kbb cbb) | (refine wpList_new92 (by rfl) (by rfl) ?_; intro br wr hbr kbr cbr))
  have kbb2 := cbr.blk kbb (by simp)
  have cw := cbb.trans cbr
  have nbr : bb ≠ br := by have := kbb.lt; have := hbr.out; omega
  have g1 : w.heap.size ≤ bb := by have := hbb.out; omega
  have g2 : w.heap.size ≤ br := by have := hbr.out; have := cbb.size; omega
  clear kbb cbb cbr hbb hbr
  have HLR := hide kbr.lt
  go_wp2_with fail
  refine (HT.out _ cw).mono ?_
  rintro e w3 ⟨a', rfl, hnew, hc3⟩
  have kbb := hc3.blk kbb2 (by simp)
  have kbr := hc3.blk kbr (by simp)
  have cw3 := cw.trans hc3
  clear kbb2 cw hc3
  have f0 := kbb.cell 0 _ rfl
  have f1 := kbb.cell 1 _ rfl
  go_upto_region 2 with fail
  go_cut [13] (fun v wc => ∃ b13 b, v = .pointer (some ⟨b13, 0, none⟩) ∧ Blk wc b13 92 [.slice (some ⟨b, 0, none⟩) (n - k + 1) (n - k + 1), .slice a2 m c2] ∧ Blk wc b 83 (Sv (es.take (n - k) ++ [(a', z)])) ∧ Hid (b ≠ br) ∧ Chg [] w3 wc)
  case first =>
    have lbb := kbb.lt
    have lbr := kbr.lt
    clear f0 f1
    refine wp_region_held_drew (S := fun w1 => Blk w1 bb 92 [.slice a1 n c1, .slice a2 m c2] ∧ Chg [] w3 w1) (by kernel_rfl) ⟨kbb.drew, (Chg.refl [] _).drew⟩ (fun hHeld => ?_)
    refine takeL 0 (v := ?_) rfl (by kernel_rfl) (by kernel_rfl) (by kernel_rfl) (fun _ _ _ h => h) (by rfl) ?_ hHeld ?_
    rotate_left
    · (intro w1 hSw; have f0 := hSw.1.cell 0 _ rfl; have f1 := hSw.1.cell 1 _ rfl; go_simp; try with_reducible rfl)
    simp only [Act.put, List.setIfInBounds_toArray, List.set_cons_zero, List.set_cons_succ]
    refine takeL 1 (v := ?_) rfl (by kernel_rfl) (by kernel_rfl) (by kernel_rfl) (fun _ _ _ h => h) (by rfl) ?_ hHeld ?_
    rotate_left
    · (intro w1 hSw; have f0 := hSw.1.cell 0 _ rfl; have f1 := hSw.1.cell 1 _ rfl; go_simp; try with_reducible rfl)
    simp only [Act.put, List.setIfInBounds_toArray, List.set_cons_zero, List.set_cons_succ]
    refine takeL 2 (v := ?_) rfl (by kernel_rfl) (by kernel_rfl) (by kernel_rfl) (fun _ _ _ h => h) (by rfl) ?_ hHeld ?_
    rotate_left
    · (intro w1 hSw; have f0 := hSw.1.cell 0 _ rfl; have f1 := hSw.1.cell 1 _ rfl; go_simp; try with_reducible rfl)
    simp only [Act.put, List.setIfInBounds_toArray, List.set_cons_zero, List.set_cons_succ]
    refine takeL 3 (v := ?_) rfl (by kernel_rfl) (by kernel_rfl) (by kernel_rfl) (fun _ _ _ h => h) (by rfl) ?_ hHeld ?_
    rotate_left
    · (intro w1 hSw; have f0 := hSw.1.cell 0 _ rfl; have f1 := hSw.1.cell 1 _ rfl; go_simp; try with_reducible rfl)
    simp only [Act.put, List.setIfInBounds_toArray, List.set_cons_zero, List.set_cons_succ]
    refine takeL 5 (v := ?_) rfl (by kernel_rfl) (by kernel_rfl) (by kernel_rfl) (fun _ _ _ h => h) (by rfl) ?_ hHeld ?_
    rotate_left
    · (intro w1 hSw; have f0 := hSw.1.cell 0 _ rfl; have f1 := hSw.1.cell 1 _ rfl; go_simp; try with_reducible rfl)
    simp only [Act.put, List.setIfInBounds_toArray, List.set_cons_zero, List.set_cons_succ]
    refine takeL 6 (v := ?_) rfl (by kernel_rfl) (by kernel_rfl) (by kernel_rfl) (fun _ _ _ h => h) (by rfl) ?_ hHeld ?_
    rotate_left
    · (intro w1 hSw; have f0 := hSw.1.cell 0 _ rfl; have f1 := hSw.1.cell 1 _ rfl; go_simp; try with_reducible rfl)
    simp only [Act.put, List.setIfInBounds_toArray, List.set_cons_zero, List.set_cons_succ]
    refine wpAnyH_ready (rs := [4, 8]) (by kernel_rfl) (by simp) ?_
    refine consL rfl rfl (fun K hK => ?_) ?_
    · go_simp
      refine (HS.out a' _ (cw3.trans hHeld.2)).mono ?_
      rintro e wn ⟨b, rfl, gb, kb, hcn⟩
      have gb : w3.heap.size ≤ b := Nat.le_trans hHeld.2.size gb
      refine hK.out _ _ ⟨hcn.blk hHeld.1 (by simp), hHeld.2.trans hcn⟩ (fun hHeld => ?_)
      clear hK K
      try simp only [Act.put, List.setIfInBounds_toArray, List.set_cons_zero, List.set_cons_succ, List.toList_toArray]
      clear hcn
      refine takeL 7 rfl (by kernel_rfl) (by kernel_rfl) (by kernel_rfl) (fun _ _ _ h => h) (by rfl) (fun w1 hSw => run_build92 (.tmp 25) (.tmp 27) rfl (some ⟨b, 0, none⟩) (n - k + 1) (n - k + 1) a2 m c2 w1 rfl rfl) hHeld ?_
      simp only [Act.put, List.setIfInBounds_toArray, List.set_cons_zero, List.set_cons_succ]
      refine wpAnyH_ready (rs := [8]) (by kernel_rfl) (by simp) ?_
      refine consL rfl rfl (fun K hK => ?_) AllReadyH.nil
      have hsz := hHeld.2.size
      refine wp_new92 rfl ?_
      intro b13 wn hb13 k13 hcn
      have g13 : w3.heap.size ≤ b13 := by have := hb13.out; omega
      have nb13 : b ≠ b13 := by have := hb13.out; have := kb.lt; omega
      have kb := hcn.blk kb (by simp)
      refine hK.out _ _ ⟨hcn.blk hHeld.1 (by simp), hHeld.2.trans hcn⟩ (fun hHeld => ?_)
      clear hK K hsz
      try simp only [Act.put, List.setIfInBounds_toArray, List.set_cons_zero, List.set_cons_succ, List.toList_toArray]
      refine wpAnyH_ready (rs := [9]) (by kernel_rfl) (by simp) ?_
      refine consL rfl rfl (fun K hK => ?_) AllReadyH.nil
      refine wp_store_mid 92 _ _ rfl b13 0 #[.slice (some ⟨b, 0, none⟩) (n - k + 1) (n - k + 1), .slice a2 m c2] rfl rfl (there2 k13) info92 (one92 rfl rfl) ?_
      have V0 := set2 (p' := .slice (some ⟨b, 0, none⟩) (n - k + 1) (n - k + 1)) (q' := .slice a2 m c2) k13
      have V1 := ne2 (p := .slice (some ⟨b, 0, none⟩) (n - k + 1) (n - k + 1)) (q := .slice a2 m c2) kb nb13
      have V2 := ne2 (b := b13) (p := .slice (some ⟨b, 0, none⟩) (n - k + 1) (n - k + 1)) (q := .slice a2 m c2) hHeld.1 (by have := lbb; omega)
      have V3 := chg2 (b := b13) (p := .slice (some ⟨b, 0, none⟩) (n - k + 1) (n - k + 1)) (q := .slice a2 m c2) hHeld.2 g13
      refine hK.out _ _ ⟨V2, V3⟩ (fun hHeld => ?_)
      clear hK K
      try simp only [Act.put, List.setIfInBounds_toArray, List.set_cons_zero, List.set_cons_succ, List.toList_toArray]
      refine wpAnyH_done (by kernel_rfl) ?_ _
      go_wp2_with fail
      go_meet
      exact ⟨b13, b, rfl, V0, V1, (by unfold Hid; omega), V3⟩
    refine consL rfl rfl (fun K hK => ?_) AllReadyH.nil
    have hsz := hHeld.2.size
    refine wp_new92 rfl ?_
    intro b13 wn hb13 k13 hcn
    have g13 : w3.heap.size ≤ b13 := by have := hb13.out; omega
    refine hK.out _ _ ⟨hcn.blk hHeld.1 (by simp), hHeld.2.trans hcn⟩ (fun hHeld => ?_)
    clear hK K hsz
    try simp only [Act.put, List.setIfInBounds_toArray, List.set_cons_zero, List.set_cons_succ, List.toList_toArray]
    refine wpAnyH_ready (rs := [4]) (by kernel_rfl) (by simp) ?_
    refine consL rfl rfl (fun K hK => ?_) AllReadyH.nil
    go_simp
    refine (HS.out a' _ (cw3.trans hHeld.2)).mono ?_
    rintro e wn ⟨b, rfl, gb, kb, hcn⟩
    have nb13 : b ≠ b13 := by have := k13.lt; omega
    have k13 := hcn.blk k13 (by simp)
    have gb : w3.heap.size ≤ b := Nat.le_trans hHeld.2.size gb
    refine hK.out _ _ ⟨hcn.blk hHeld.1 (by simp), hHeld.2.trans hcn⟩ (fun hHeld => ?_)
    clear hK K
    try simp only [Act.put, List.setIfInBounds_toArray, List.set_cons_zero, List.set_cons_succ, List.toList_toArray]
    clear hcn
    refine takeL 7 rfl (by kernel_rfl) (by kernel_rfl) (by kernel_rfl) (fun _ _ _ h => h) (by rfl) (fun w1 hSw => run_build92 (.tmp 25) (.tmp 27) rfl (some ⟨b, 0, none⟩) (n - k + 1) (n - k + 1) a2 m c2 w1 rfl rfl) hHeld ?_
    simp only [Act.put, List.setIfInBounds_toArray, List.set_cons_zero, List.set_cons_succ]
    refine wpAnyH_ready (rs := [9]) (by kernel_rfl) (by simp) ?_
    refine consL rfl rfl (fun K hK => ?_) AllReadyH.nil
    refine wp_store_mid 92 _ _ rfl b13 0 #[.slice (some ⟨b, 0, none⟩) (n - k + 1) (n - k + 1), .slice a2 m c2] rfl rfl (there2 k13) info92 (one92 rfl rfl) ?_
    have V0 := set2 (p' := .slice (some ⟨b, 0, none⟩) (n - k + 1) (n - k + 1)) (q' := .slice a2 m c2) k13
    have V1 := ne2 (p := .slice (some ⟨b, 0, none⟩) (n - k + 1) (n - k + 1)) (q := .slice a2 m c2) kb nb13
    have V2 := ne2 (b := b13) (p := .slice (some ⟨b, 0, none⟩) (n - k + 1) (n - k + 1)) (q := .slice a2 m c2) hHeld.1 (by have := lbb; omega)
    have V3 := chg2 (b := b13) (p := .slice (some ⟨b, 0, none⟩) (n - k + 1) (n - k + 1)) (q := .slice a2 m c2) hHeld.2 g13
    refine hK.out _ _ ⟨V2, V3⟩ (fun hHeld => ?_)
    clear hK K
    try simp only [Act.put, List.setIfInBounds_toArray, List.set_cons_zero, List.set_cons_succ, List.toList_toArray]
    refine wpAnyH_done (by kernel_rfl) ?_ _
    go_wp2_with fail
    go_meet
    exact ⟨b13, b, rfl, V0, V1, (by unfold Hid; omega), V3⟩
  case rest =>
    obtain ⟨b13, b, rfl, k13, kb, HNB, hc⟩ := hcut
    have HNE : Hid (∀ b', a' = some ⟨b', 0, none⟩ → b' ≠ br) := fun b' hb' => by have := hnew.new b' hb'; have := HLR.out; omega
    have kbr := hc.blk kbr (by simp)
    have cw4 := cw3.trans hc
    have hnew2 := hnew.ent.chg0 hc
    clear f0 f1 kbb hc
    have V0 := set2 (p' := .slice (some ⟨b, 0, none⟩) (n - k + 1) (n - k + 1)) (q' := .slice a2 m c2) kbr
    have V3 := chg2 (b := br) (p := .slice (some ⟨b, 0, none⟩) (n - k + 1) (n - k + 1)) (q := .slice a2 m c2) cw4 g2
    have nbb : b ≠ br := HNB.out
    have V1 := ne2 (b := br) (p := .slice (some ⟨b, 0, none⟩) (n - k + 1) (n - k + 1)) (q := .slice a2 m c2) kb nbb
    have V5 : Ent (wc.setCells br 0 [.slice (some ⟨b, 0, none⟩) (n - k + 1) (n - k + 1), .slice a2 m c2]) a' z := ((Chg.refl [br] wc).setCell ⟨br, 0, none⟩ (by simp) _ |>.setCell ⟨br, 0 + 1, none⟩ (by simp) _ |> hnew2.chg) (fun b' hb' => by
      have h1 := HNE.out b' hb'
      simpa using h1)
    go_wp2_with (first | (refine wpList_load_mid (by rfl) 92 (.tmp 13) (by rfl) b13 0 (by rfl) [.slice (some ⟨b, 0, none⟩) (n - k + 1) (n - k + 1), .slice a2 m c2] _ (range2 k13) Takg.underlying92 (by rfl) info92 ?_) | (refine wpList_store_mid (by rfl) 92 (.tmp 10) (.tmp 35) (by rfl) br 0 #[.slice (some ⟨b, 0, none⟩) (n - k + 1) (n - k + 1), .slice a2 m c2] (by rfl) (by rfl) (there2 kbr) info92 (one92 rfl rfl) ?_))
    refine bodyPost_ret (results_cell (by rfl) _ _ _ br 0 (by rfl) [.slice (some ⟨b, 0, none⟩) (n - k + 1) (n - k + 1), .slice a2 m c2] _ (range2 V0) Takg.underlying92 (by rfl) info92) rfl ?_
    exact ⟨b, a', rfl, V1, V5, V3⟩
end Na
end Go.Proofs.Ygctak
