/-
  law.row.
-/
import Derived.Test.YgctakNa10
namespace Go.Proofs.Ygctak
open Go.RowKit
set_option linter.unusedVariables false
set_option linter.unusedSimpArgs false
attribute [local go_sem ↓] Go.wp_at_zero Go.wp_at_succ
namespace Na

/-- What an operation brings along: u is the value of its lowest 512 digits. -/
structure Arg (w : World) (a : Option Addr) (n cap u : Nat) : Prop where
  hc : n ≤ cap
  hc2 : cap ≤ 9223372036854775807
  nil : a = none → n = 0 ∧ cap = 0
  big : 512 < n → ∃ b off, a = some ⟨b, off, none⟩
  lt : u < 256 ^ min n 512
  op : Op8 w a (min n 512) u
theorem Arg.chg {w w2 : World} {a : Option Addr} {n cap u : Nat} (h : Arg w a n cap u) (hc : Chg [] w w2) : Arg w2 a n cap u := ⟨h.hc, h.hc2, h.nil, h.big, h.lt, h.op.chg hc⟩

theorem digits_any (a : Option Addr) (n cap u : Nat) (w : World) (h : Arg w a n cap u) :
    Calls Takg.prog 20 #[.slice a n cap, .int .i64 512] w fun e w' => ∃ cap', e = .returned (.slice a (min n 512) cap') ∧ min n 512 ≤ cap' ∧ cap' ≤ 9223372036854775807 ∧ (a = none → cap' = 0) ∧ Chg [] w w' := by
  have hnc := h.hc
  have hc := h.hc2
  have ha := h.big
  have hn := h.nil
  clear h
  by_cases h : 512 < n
  · obtain ⟨b, off, rfl⟩ := ha h
    have e : min n 512 = 512 := by omega
    rw [e]
    clear e ha hn
    go_enter Takg.func20, Takg.ntmps20
    go_wp2_with fail
    go_ret
    exact ⟨_, rfl, by omega, by omega, (fun h => nomatch h), Chg.refl _ _⟩
  · have e : min n 512 = n := by omega
    rw [e]
    have HNN := hide hn
    clear e ha hn
    go_enter Takg.func20, Takg.ntmps20
    go_wp2_with fail
    go_ret
    exact ⟨_, rfl, by omega, by omega, fun h => (HNN.out h).2, Chg.refl _ _⟩
theorem taken_any (a : Option Addr) (n cap cap' u : Nat) (w : World) (h : Arg w a n cap u) (h1 : min n 512 ≤ cap') (h2 : cap' ≤ 9223372036854775807) (h3 : a = none → cap' = 0) :
    Calls Takg.prog 48 #[.slice a (min n 512) cap'] w fun e w' => ∃ a', e = .returned (.slice a' (dlen u) (dlen u)) ∧ New w w' a' u ∧ Chg [] w w' :=
  Take_any a (min n 512) cap' u w (by omega) h1 h2 (fun he => ⟨by have := h.nil he; omega, h3 he⟩) h.lt h.op
theorem take_any (a : Option Addr) (n cap u : Nat) (w : World) (h : Arg w a n cap u) :
    Calls Takg.prog 128 #[.slice a n cap] w fun e w' => ∃ a', e = .returned (.slice a' (dlen u) (dlen u)) ∧ New w w' a' u ∧ Chg [] w w' := by
  have hnc := h.hc
  have hc := h.hc2
  have ha := h.big
  have hn := h.nil
  by_cases hb : 512 < n
  · obtain ⟨b, off, rfl⟩ := ha hb
    have e : min n 512 = 512 := by omega
    have HT := hide (taken_any (some ⟨b, off, none⟩) n cap 512 u w h (by omega) (by omega) (fun h => nomatch h))
    rw [e] at HT
    clear e ha hn h
    go_enter Takg.func128, Takg.ntmps128
    go_wp2_with fail
    refine HT.out.mono ?_
    rintro e wn ⟨a', rfl, hn, hc⟩
    go_wp2_with fail
    go_ret
    exact ⟨a', rfl, hn, hc⟩
  · have e : min n 512 = n := by omega
    have HT := hide (taken_any a n cap cap u w h (by omega) (by omega) (fun he => (h.nil he).2))
    rw [e] at HT
    clear e ha hn h
    go_enter Takg.func128, Takg.ntmps128
    go_wp2_with fail
    refine HT.out.mono ?_
    rintro e wn ⟨a', rfl, hn, hc⟩
    go_wp2_with fail
    go_ret
    exact ⟨a', rfl, hn, hc⟩

theorem wpList_box95 {ops : Array Oper} {rest : List Oper} {o1 : Oper} {a : Act} {w : World} {Q : Exit → Act → World → Prop} (hg1 : o1.guard = none) (x : Operand) (ho1 : o1.op = .box 95 x) (p q : Value) (hx : a.eval x = .agg #[p, q])
    (h : ∀ b w2, Hid (b = w.heap.size) → Blk w2 b 95 [p, q] → Chg [] w w2 → wpList Takg.prog ops Q rest (a.put o1.dst (.pointer (some ⟨b, 0, none⟩))) w2) : wpList Takg.prog ops Q (o1 :: rest) a w := by
  refine wpList_plain hg1 fun K hK => ?_
  unfold Oper.wp
  have : (execOp a.eval o1).run Takg.prog w = .ok (.value (.pointer (some ⟨w.heap.size, 0, none⟩))) (w.alloc (.cells #[p, q] 95)) := by
    unfold execOp
    rw [ho1]
    simp only [hx]
    rfl
  rw [this, Oper.upon_value]
  exact hK _ _ (h _ _ rfl (Blk.new w [p, q] 95) ((Chg.refl [] w).alloc _))
theorem multipliedRow_one (a1 a2 b1 b2 : Option Addr) (c1 c2 x y : Nat) (es : Es) (os : List Int) (w : World) (hs : StE w a1 c1 es a2 c2 os) (hk : 1 ≤ es.length) (l1 : dlen x ≤ 5000) (l2 : dlen y ≤ 5000) (h1 : Ent w b1 x) (h2 : Ent w b2 y) :
    Calls Takg.prog 91 #[.int .u8 0, .agg #[.slice a1 es.length c1, .slice a2 os.length c2], .int .i64 1, .slice b1 (dlen x) (dlen x), .slice b2 (dlen y) (dlen y)] w fun e w' =>
      ∃ b a', e = .returned (.agg #[.slice (some ⟨b, 0, none⟩) (es.length - 1 + 1) (es.length - 1 + 1), .slice a2 os.length c2]) ∧ Blk w' b 83 (Sv (es.take (es.length - 1) ++ [(a', x * y)])) ∧ Ent w' a' (x * y) ∧ Chg [] w w' :=
  multipliedRow_any a1 a2 b1 b2 c1 c2 1 x y es os w hs hk l1 l2 h1 h2
theorem chgBr {w : World} {br : Nat} {p q : Value} : Chg [br] w (w.setCells br 0 [p, q]) := ((Chg.refl [br] w).setCell ⟨br, 0, none⟩ (by simp) p).setCell ⟨br, 0 + 1, none⟩ (by simp) q
theorem size89 (w : World) : (sizeOf (Takg.prog.elem 89)).run Takg.prog w = .ok 1 w := by kernel_rfl
set_option maxRecDepth 10000 in
theorem run_index89 {a : Act} {o : Oper} (x y : Operand) (h : o.op = .indexAddr 89 x y) (b n c i : Nat) (w : World) (hx : a.eval x = .slice (some ⟨b, 0, none⟩) n c) (hy : a.eval y = .int .i64 (i : Nat)) (hi : i < n) :
    (execOp a.eval o).run Takg.prog w = .ok (.value (.pointer (some ⟨b, i, none⟩))) w := by
  unfold execOp
  rw [h]
  have hz := size89 w
  have h2 := run_indexAt_slice (P := Takg.prog) (w := w) 89 ⟨b, 0, none⟩ n c .i64 (i : Int) Takg.underlying89
  simp only [hx, hy, Sem.run_bind, h2, hz, Result.andThen]
  rw [if_pos (by omega)]
  simp only [Int.toNat_natCast, Nat.mul_one, addr_add, Nat.zero_add]
  rfl
theorem run_load83 {a : Act} {o : Oper} (x : Operand) (h : o.op = .load 83 x) (b i : Nat) (v : Option Addr) (k c : Nat) (w : World) (hx : a.eval x = .pointer (some ⟨b, i, none⟩)) (hc : w.cell? ⟨b, i, none⟩ = some (.slice v k c)) :
    (execOp a.eval o).run Takg.prog w = .ok (.value (.slice v k c)) w := by
  unfold execOp
  rw [h]
  simp only [hx]
  go_simp
/-- The entry at place i. -/
theorem StE.at {w : World} {a1 a2 : Option Addr} {c1 c2 i : Nat} {es : Es} {os : List Int} (h : StE w a1 c1 es a2 c2 os) {e : Option Addr × Nat} (hi : es[i]? = some e) : ∃ b, a1 = some ⟨b, 0, none⟩ ∧ ∀ W, Chg [] w W → W.cell? ⟨b, i, none⟩ = some (.slice e.1 (dlen e.2) (dlen e.2)) := by
  rcases h.cel1 with h1 | ⟨b, h1, h2, h3⟩
  · have : es = [] := by unfold Sv at h1; simpa using h1
    subst this; simp at hi
  · exact ⟨b, h1, fun W hW => (hW.cell b _ h2 (by simp)).trans (h3 i _ (by unfold Sv; rw [List.getElem?_map, hi]; rfl))⟩

set_option maxRecDepth 10000 in
set_option maxHeartbeats 4000000 in
theorem rowNoA (a1 a2 aa : Option Addr) (c1 c2 kd na ca u : Nat) (es : Es) (os : List Int) (w : World) (hs : StE w a1 c1 es a2 c2 os) (ho : os.length < 1000) (hA : Arg w aa na ca u) (hk : (kd = 0 ∧ es.length = 16) ∨ (kd = 6 ∧ es.length = 0) ∨ (kd = 6 ∧ es.length = 16)) :
    Calls Takg.prog 52 #[.int .u8 0, .agg #[.slice a1 es.length c1, .slice a2 os.length c2], .agg #[.int .u8 kd, .slice aa na ca]] w fun e w' => Res w w' e (es.map (·.2)) (os ++ [-2]) := by
  have HNO := hide (fun W (hW : Chg [] w W) => appended_any a2 c2 os (-2) W (by omega) hs.k2 (hs.cel2.chg0 hW))
  have HO := hide ho
  have HN16 := hide hs.n1
  have hn16 := hs.n1
  have hb1 := hs.b1
  obtain ⟨n, en⟩ : ∃ n, n = es.length := ⟨_, rfl⟩
  obtain ⟨m, em⟩ : ∃ n, n = os.length := ⟨_, rfl⟩
  rw [← en] at hn16 HN16 hk ⊢
  rw [← em] at HNO ho  ⊢
  have HEN := hide en
  have HEM := hide em
  have HS0 := hide hs
  have HAA := hide hA
  have HK := hide hk
  clear en em hs ho hA hk
  go_enter Takg.func52, Takg.ntmps52
  go_upto_region 1 with (first | (refine wpList_box92 (by rfl) (.tmp 1) (by rfl) (.slice a1 n c1) (.slice a2 m c2) (by rfl) ?_; intro b4 wb hbb k4 cbb) | (refine wpList_box95 (by rfl) (.tmp 2) (by rfl) (.int .u8 kd) (.slice aa na ca) (by rfl) ?_; intro b5 wd hbd k5 cbd) | (refine wpList_new92 (by rfl) (by rfl) ?_; intro br wr hbr kbr cbr))
  have k5r := cbr.blk k5 (by simp)
  have k4d := cbd.blk k4 (by simp)
  have k4r := cbr.blk k4d (by simp)
  have cw := (cbb.trans cbd).trans cbr
  have n4r : b4 ≠ br := by have := k4d.lt; have := hbr.out; omega
  have n5r : b5 ≠ br := by have := k5.lt; have := hbr.out; omega
  have gr : w.heap.size ≤ br := by have := hbr.out; have := cbb.size; have := cbd.size; omega
  clear k4 k5 cbb cbr hbb hbr k4d cbd hbd
  simp only [Act.put, List.setIfInBounds_toArray, List.set_cons_zero, List.set_cons_succ]
  have f0 := k4r.cell 0 _ rfl
  go_upto_region 2 with fail
  clear f0
  go_cut [8] (fun v wc => ∃ bq bo, v = .pointer (some ⟨bq, 0, none⟩) ∧ Blk wc bq 92 [.slice a1 n c1, .slice (some ⟨bo, 0, none⟩) (m + 1) (m + 1)] ∧ bq ≠ br ∧ bo ≠ br ∧ Blk wc bo 62 (Ov (os ++ [-2])) ∧ Blk wc b4 92 [.slice a1 n c1, .slice a2 m c2] ∧ Blk wc b5 95 [.int .u8 kd, .slice aa na ca] ∧ (∃ (p : Option Addr × Nat × Nat) (q : Value), Blk wc br 92 [.slice p.1 p.2.1 p.2.2, q]) ∧ Chg [] w wc)
  case first =>
    refine wp_region_held_drew (S := fun w1 => Blk w1 b4 92 [.slice a1 n c1, .slice a2 m c2] ∧ Blk w1 b5 95 [.int .u8 kd, .slice aa na ca] ∧ (∃ (p : Option Addr × Nat × Nat) (q : Value), Blk w1 br 92 [.slice p.1 p.2.1 p.2.2, q]) ∧ Chg [] w w1 ∧ Ent w1 none 0) (by kernel_rfl) ⟨k4r.drew, k5r.drew, ⟨(none, 0, 0), _, kbr.drew⟩, cw.drew, Ent.zero _⟩ (fun hHeld => ?_)
    refine takeL 0 (v := ?_) rfl (by kernel_rfl) (by kernel_rfl) (by kernel_rfl) (fun _ _ _ h => h) (by rfl) ?_ hHeld ?_
    rotate_left
    · (intro w1 hSw; have f0 := hSw.1.cell 0 _ rfl; have f1 := hSw.1.cell 1 _ rfl; have f2 := hSw.2.1.cell 0 _ rfl; have f3 := hSw.2.1.cell 1 _ rfl; go_simp; try with_reducible rfl)
    simp only [Act.put, List.setIfInBounds_toArray, List.set_cons_zero, List.set_cons_succ]
    refine takeL 1 (v := ?_) rfl (by kernel_rfl) (by kernel_rfl) (by kernel_rfl) (fun _ _ _ h => h) (by rfl) ?_ hHeld ?_
    rotate_left
    · (intro w1 hSw; have f0 := hSw.1.cell 0 _ rfl; have f1 := hSw.1.cell 1 _ rfl; have f2 := hSw.2.1.cell 0 _ rfl; have f3 := hSw.2.1.cell 1 _ rfl; go_simp; try with_reducible rfl)
    simp only [Act.put, List.setIfInBounds_toArray, List.set_cons_zero, List.set_cons_succ]
    refine takeL 2 (v := ?_) rfl (by kernel_rfl) (by kernel_rfl) (by kernel_rfl) (fun _ _ _ h => h) (by rfl) ?_ hHeld ?_
    rotate_left
    · (intro w1 hSw; have f0 := hSw.1.cell 0 _ rfl; have f1 := hSw.1.cell 1 _ rfl; have f2 := hSw.2.1.cell 0 _ rfl; have f3 := hSw.2.1.cell 1 _ rfl; go_simp; try with_reducible rfl)
    simp only [Act.put, List.setIfInBounds_toArray, List.set_cons_zero, List.set_cons_succ]
    refine takeL 3 (v := ?_) rfl (by kernel_rfl) (by kernel_rfl) (by kernel_rfl) (fun _ _ _ h => h) (by rfl) ?_ hHeld ?_
    rotate_left
    · (intro w1 hSw; have f0 := hSw.1.cell 0 _ rfl; have f1 := hSw.1.cell 1 _ rfl; have f2 := hSw.2.1.cell 0 _ rfl; have f3 := hSw.2.1.cell 1 _ rfl; go_simp; try with_reducible rfl)
    simp only [Act.put, List.setIfInBounds_toArray, List.set_cons_zero, List.set_cons_succ]
    refine wpAnyH_ready (rs := [4, 6]) (by kernel_rfl) (by simp) ?_
    refine consL rfl rfl (fun K hK => ?_) ?_
    · go_simp
      refine (HNO.out _ hHeld.2.2.2.1).mono ?_
      rintro e wn ⟨bo, rfl, go, ko, hcn⟩
      have nor : bo ≠ br := by obtain ⟨p, q, hpq⟩ := hHeld.2.2.1; have := hpq.lt; omega
      have go : w.heap.size ≤ bo := Nat.le_trans hHeld.2.2.2.1.size go
      refine hK.out _ _ ⟨hcn.blk hHeld.1 (by simp), hcn.blk hHeld.2.1 (by simp), (by obtain ⟨p, q, hpq⟩ := hHeld.2.2.1; exact ⟨p, q, hcn.blk hpq (by simp)⟩), hHeld.2.2.2.1.trans hcn, hHeld.2.2.2.2.chg0 hcn⟩ (fun hHeld => ?_)
      clear hK K
      try simp only [Act.put, List.setIfInBounds_toArray, List.set_cons_zero, List.set_cons_succ, List.toList_toArray]
      clear hcn
      refine takeL 5 rfl (by kernel_rfl) (by kernel_rfl) (by kernel_rfl) (fun _ _ _ h => h) (by rfl) (fun w1 hSw => run_build92 (.tmp 13) (.tmp 16) rfl a1 n c1 (some ⟨bo, 0, none⟩) (m + 1) (m + 1) w1 rfl rfl) hHeld ?_
      simp only [Act.put, List.setIfInBounds_toArray, List.set_cons_zero, List.set_cons_succ]
      refine wpAnyH_ready (rs := [6]) (by kernel_rfl) (by simp) ?_
      refine consL rfl rfl (fun K hK => ?_) AllReadyH.nil
      have hsz := hHeld.2.2.2.1.size
      have lr := (by obtain ⟨p, q, hpq⟩ := hHeld.2.2.1; exact hpq.lt : br < _)
      have l4 := hHeld.1.lt
      have l5 := hHeld.2.1.lt
      refine wp_new92 rfl ?_
      intro bq wn hbq kq hcn
      have gq : w.heap.size ≤ bq := by have := hbq.out; omega
      have nqr : bq ≠ br := by have := hbq.out; omega
      have nq4 : b4 ≠ bq := by have := hbq.out; omega
      have nq5 : b5 ≠ bq := by have := hbq.out; omega
      have nq : bo ≠ bq := by have := hbq.out; have := ko.lt; omega
      have ko := hcn.blk ko (by simp)
      refine hK.out _ _ ⟨hcn.blk hHeld.1 (by simp), hcn.blk hHeld.2.1 (by simp), (by obtain ⟨p, q, hpq⟩ := hHeld.2.2.1; exact ⟨p, q, hcn.blk hpq (by simp)⟩), hHeld.2.2.2.1.trans hcn, hHeld.2.2.2.2.chg0 hcn⟩ (fun hHeld => ?_)
      clear hK K hsz lr l4 l5
      try simp only [Act.put, List.setIfInBounds_toArray, List.set_cons_zero, List.set_cons_succ, List.toList_toArray]
      refine wpAnyH_ready (rs := [7]) (by kernel_rfl) (by simp) ?_
      refine consL rfl rfl (fun K hK => ?_) AllReadyH.nil
      refine wp_store_mid 92 _ _ rfl bq 0 #[.slice a1 n c1, .slice (some ⟨bo, 0, none⟩) (m + 1) (m + 1)] rfl rfl (there2 kq) info92 (one92 rfl rfl) ?_
      have V0 := set2 (p' := (.slice a1 n c1)) (q' := (.slice (some ⟨bo, 0, none⟩) (m + 1) (m + 1))) kq
      have V1 := ne2 (b := bq) (p := (.slice a1 n c1)) (q := (.slice (some ⟨bo, 0, none⟩) (m + 1) (m + 1))) ko nq
      have V2 := ne2 (b := bq) (p := (.slice a1 n c1)) (q := (.slice (some ⟨bo, 0, none⟩) (m + 1) (m + 1))) hHeld.1 nq4
      have V2b := ne2 (b := bq) (p := (.slice a1 n c1)) (q := (.slice (some ⟨bo, 0, none⟩) (m + 1) (m + 1))) hHeld.2.1 nq5
      have V3 := chg2 (b := bq) (p := (.slice a1 n c1)) (q := (.slice (some ⟨bo, 0, none⟩) (m + 1) (m + 1))) hHeld.2.2.2.1 gq
      have V4 : (∃ (p : Option Addr × Nat × Nat) (q : Value), Blk (World.setCells wn bq 0 [(.slice a1 n c1), (.slice (some ⟨bo, 0, none⟩) (m + 1) (m + 1))]) br 92 [.slice p.1 p.2.1 p.2.2, q]) := by
        obtain ⟨p, q, hpq⟩ := hHeld.2.2.1
        exact ⟨p, q, ne2 (b := bq) hpq (Ne.symm nqr)⟩
      refine hK.out _ _ ⟨V2, V2b, V4, V3, Ent.zero _⟩ (fun hHeld => ?_)
      clear hK K
      try simp only [Act.put, List.setIfInBounds_toArray, List.set_cons_zero, List.set_cons_succ, List.toList_toArray]
      refine wpAnyH_done (by kernel_rfl) ?_ _
      go_wp2_with fail
      go_meet
      exact ⟨bq, bo, rfl, V0, nqr, nor, V1, V2, V2b, V4, V3⟩
    refine consL rfl rfl (fun K hK => ?_) AllReadyH.nil
    have hsz := hHeld.2.2.2.1.size
    have lr := (by obtain ⟨p, q, hpq⟩ := hHeld.2.2.1; exact hpq.lt : br < _)
    have l4 := hHeld.1.lt
    have l5 := hHeld.2.1.lt
    refine wp_new92 rfl ?_
    intro bq wn hbq kq hcn
    have gq : w.heap.size ≤ bq := by have := hbq.out; omega
    have nqr : bq ≠ br := by have := hbq.out; omega
    have nq4 : b4 ≠ bq := by have := hbq.out; omega
    have nq5 : b5 ≠ bq := by have := hbq.out; omega
    refine hK.out _ _ ⟨hcn.blk hHeld.1 (by simp), hcn.blk hHeld.2.1 (by simp), (by obtain ⟨p, q, hpq⟩ := hHeld.2.2.1; exact ⟨p, q, hcn.blk hpq (by simp)⟩), hHeld.2.2.2.1.trans hcn, hHeld.2.2.2.2.chg0 hcn⟩ (fun hHeld => ?_)
    clear hK K hsz lr l4 l5
    try simp only [Act.put, List.setIfInBounds_toArray, List.set_cons_zero, List.set_cons_succ, List.toList_toArray]
    refine wpAnyH_ready (rs := [4]) (by kernel_rfl) (by simp) ?_
    refine consL rfl rfl (fun K hK => ?_) AllReadyH.nil
    go_simp
    refine (HNO.out _ hHeld.2.2.2.1).mono ?_
    rintro e wn ⟨bo, rfl, go, ko, hcn⟩
    have nq : bo ≠ bq := by have := kq.lt; omega
    have kq := hcn.blk kq (by simp)
    have nor : bo ≠ br := by obtain ⟨p, q, hpq⟩ := hHeld.2.2.1; have := hpq.lt; omega
    have go : w.heap.size ≤ bo := Nat.le_trans hHeld.2.2.2.1.size go
    refine hK.out _ _ ⟨hcn.blk hHeld.1 (by simp), hcn.blk hHeld.2.1 (by simp), (by obtain ⟨p, q, hpq⟩ := hHeld.2.2.1; exact ⟨p, q, hcn.blk hpq (by simp)⟩), hHeld.2.2.2.1.trans hcn, hHeld.2.2.2.2.chg0 hcn⟩ (fun hHeld => ?_)
    clear hK K
    try simp only [Act.put, List.setIfInBounds_toArray, List.set_cons_zero, List.set_cons_succ, List.toList_toArray]
    clear hcn
    refine takeL 5 rfl (by kernel_rfl) (by kernel_rfl) (by kernel_rfl) (fun _ _ _ h => h) (by rfl) (fun w1 hSw => run_build92 (.tmp 13) (.tmp 16) rfl a1 n c1 (some ⟨bo, 0, none⟩) (m + 1) (m + 1) w1 rfl rfl) hHeld ?_
    simp only [Act.put, List.setIfInBounds_toArray, List.set_cons_zero, List.set_cons_succ]
    refine wpAnyH_ready (rs := [7]) (by kernel_rfl) (by simp) ?_
    refine consL rfl rfl (fun K hK => ?_) AllReadyH.nil
    refine wp_store_mid 92 _ _ rfl bq 0 #[.slice a1 n c1, .slice (some ⟨bo, 0, none⟩) (m + 1) (m + 1)] rfl rfl (there2 kq) info92 (one92 rfl rfl) ?_
    have V0 := set2 (p' := (.slice a1 n c1)) (q' := (.slice (some ⟨bo, 0, none⟩) (m + 1) (m + 1))) kq
    have V1 := ne2 (b := bq) (p := (.slice a1 n c1)) (q := (.slice (some ⟨bo, 0, none⟩) (m + 1) (m + 1))) ko nq
    have V2 := ne2 (b := bq) (p := (.slice a1 n c1)) (q := (.slice (some ⟨bo, 0, none⟩) (m + 1) (m + 1))) hHeld.1 nq4
    have V2b := ne2 (b := bq) (p := (.slice a1 n c1)) (q := (.slice (some ⟨bo, 0, none⟩) (m + 1) (m + 1))) hHeld.2.1 nq5
    have V3 := chg2 (b := bq) (p := (.slice a1 n c1)) (q := (.slice (some ⟨bo, 0, none⟩) (m + 1) (m + 1))) hHeld.2.2.2.1 gq
    have V4 : (∃ (p : Option Addr × Nat × Nat) (q : Value), Blk (World.setCells wn bq 0 [(.slice a1 n c1), (.slice (some ⟨bo, 0, none⟩) (m + 1) (m + 1))]) br 92 [.slice p.1 p.2.1 p.2.2, q]) := by
      obtain ⟨p, q, hpq⟩ := hHeld.2.2.1
      exact ⟨p, q, ne2 (b := bq) hpq (Ne.symm nqr)⟩
    refine hK.out _ _ ⟨V2, V2b, V4, V3, Ent.zero _⟩ (fun hHeld => ?_)
    clear hK K
    try simp only [Act.put, List.setIfInBounds_toArray, List.set_cons_zero, List.set_cons_succ, List.toList_toArray]
    refine wpAnyH_done (by kernel_rfl) ?_ _
    go_wp2_with fail
    go_meet
    exact ⟨bq, bo, rfl, V0, nqr, nor, V1, V2, V2b, V4, V3⟩
  case rest =>
    obtain ⟨bq, bo, rfl, kq, nqr, nor, ko, k4, k5, kr, cwA⟩ := hcut
    clear k4r k5r kbr cw
    have f0 := k4.cell 0 _ rfl
    have f1 := k4.cell 1 _ rfl
    have f2 := k5.cell 0 _ rfl
    have hk := HK.out
    rcases hk with ⟨hk, hlt⟩ | ⟨hk, hlt⟩ | ⟨hk, hlt⟩
    · obtain ⟨p, q, kr⟩ := kr
      have V0 := set2 (p' := .slice a1 n c1) (q' := .slice (some ⟨bo, 0, none⟩) (m + 1) (m + 1)) kr
      have V1 := ne2 (b := br) (p := .slice a1 n c1) (q := .slice (some ⟨bo, 0, none⟩) (m + 1) (m + 1)) ko nor
      have V3 := chg2 (b := br) (p := .slice a1 n c1) (q := .slice (some ⟨bo, 0, none⟩) (m + 1) (m + 1)) cwA gr
      go_wp2_with (first | (refine wpList_load_mid (by rfl) 92 (.tmp 8) (by rfl) bq 0 (by rfl) [.slice a1 n c1, .slice (some ⟨bo, 0, none⟩) (m + 1) (m + 1)] _ (range2 kq) Takg.underlying92 (by rfl) info92 ?_) | (refine wpList_store_mid (by rfl) 92 (.tmp 6) (.tmp 24) (by rfl) br 0 #[.slice a1 n c1, .slice (some ⟨bo, 0, none⟩) (m + 1) (m + 1)] (by rfl) (by rfl) (there2 kr) info92 (one92 rfl rfl) ?_) | (refine wpList_store_mid (by rfl) 92 (.tmp 6) (.tmp 43) (by rfl) br 0 #[.slice a1 n c1, .slice (some ⟨bo, 0, none⟩) (m + 1) (m + 1)] (by rfl) (by rfl) (there2 kr) info92 (one92 rfl rfl) ?_) | (refine wpList_store_mid (by rfl) 92 (.tmp 6) (.tmp 60) (by rfl) br 0 #[.slice a1 n c1, .slice (some ⟨bo, 0, none⟩) (m + 1) (m + 1)] (by rfl) (by rfl) (there2 kr) info92 (one92 rfl rfl) ?_) | (refine wpList_store_mid (by rfl) 92 (.tmp 6) (.tmp 85) (by rfl) br 0 #[.slice a1 n c1, .slice (some ⟨bo, 0, none⟩) (m + 1) (m + 1)] (by rfl) (by rfl) (there2 kr) info92 (one92 rfl rfl) ?_) | (refine wpList_store_mid (by rfl) 92 (.tmp 6) (.tmp 107) (by rfl) br 0 #[.slice a1 n c1, .slice (some ⟨bo, 0, none⟩) (m + 1) (m + 1)] (by rfl) (by rfl) (there2 kr) info92 (one92 rfl rfl) ?_))
      refine bodyPost_ret (results_cell (by rfl) _ _ _ br 0 (by rfl) [.slice a1 n c1, .slice (some ⟨bo, 0, none⟩) (m + 1) (m + 1)] _ (range2 V0) Takg.underlying92 (by rfl) info92) rfl ?_
      exact Res.of HEN.out (by simp [HEM.out]) (HS0.out.out V3 HO.out V1 (by rw [HEM.out])) rfl V3
    · obtain ⟨p, q, kr⟩ := kr
      have V0 := set2 (p' := .slice a1 n c1) (q' := .slice (some ⟨bo, 0, none⟩) (m + 1) (m + 1)) kr
      have V1 := ne2 (b := br) (p := .slice a1 n c1) (q := .slice (some ⟨bo, 0, none⟩) (m + 1) (m + 1)) ko nor
      have V3 := chg2 (b := br) (p := .slice a1 n c1) (q := .slice (some ⟨bo, 0, none⟩) (m + 1) (m + 1)) cwA gr
      go_wp2_with (first | (refine wpList_load_mid (by rfl) 92 (.tmp 8) (by rfl) bq 0 (by rfl) [.slice a1 n c1, .slice (some ⟨bo, 0, none⟩) (m + 1) (m + 1)] _ (range2 kq) Takg.underlying92 (by rfl) info92 ?_) | (refine wpList_store_mid (by rfl) 92 (.tmp 6) (.tmp 24) (by rfl) br 0 #[.slice a1 n c1, .slice (some ⟨bo, 0, none⟩) (m + 1) (m + 1)] (by rfl) (by rfl) (there2 kr) info92 (one92 rfl rfl) ?_) | (refine wpList_store_mid (by rfl) 92 (.tmp 6) (.tmp 43) (by rfl) br 0 #[.slice a1 n c1, .slice (some ⟨bo, 0, none⟩) (m + 1) (m + 1)] (by rfl) (by rfl) (there2 kr) info92 (one92 rfl rfl) ?_) | (refine wpList_store_mid (by rfl) 92 (.tmp 6) (.tmp 60) (by rfl) br 0 #[.slice a1 n c1, .slice (some ⟨bo, 0, none⟩) (m + 1) (m + 1)] (by rfl) (by rfl) (there2 kr) info92 (one92 rfl rfl) ?_) | (refine wpList_store_mid (by rfl) 92 (.tmp 6) (.tmp 85) (by rfl) br 0 #[.slice a1 n c1, .slice (some ⟨bo, 0, none⟩) (m + 1) (m + 1)] (by rfl) (by rfl) (there2 kr) info92 (one92 rfl rfl) ?_) | (refine wpList_store_mid (by rfl) 92 (.tmp 6) (.tmp 107) (by rfl) br 0 #[.slice a1 n c1, .slice (some ⟨bo, 0, none⟩) (m + 1) (m + 1)] (by rfl) (by rfl) (there2 kr) info92 (one92 rfl rfl) ?_))
      refine bodyPost_ret (results_cell (by rfl) _ _ _ br 0 (by rfl) [.slice a1 n c1, .slice (some ⟨bo, 0, none⟩) (m + 1) (m + 1)] _ (range2 V0) Takg.underlying92 (by rfl) info92) rfl ?_
      exact Res.of HEN.out (by simp [HEM.out]) (HS0.out.out V3 HO.out V1 (by rw [HEM.out])) rfl V3
    · obtain ⟨p, q, kr⟩ := kr
      have V0 := set2 (p' := .slice a1 n c1) (q' := .slice (some ⟨bo, 0, none⟩) (m + 1) (m + 1)) kr
      have V1 := ne2 (b := br) (p := .slice a1 n c1) (q := .slice (some ⟨bo, 0, none⟩) (m + 1) (m + 1)) ko nor
      have V3 := chg2 (b := br) (p := .slice a1 n c1) (q := .slice (some ⟨bo, 0, none⟩) (m + 1) (m + 1)) cwA gr
      go_wp2_with (first | (refine wpList_load_mid (by rfl) 92 (.tmp 8) (by rfl) bq 0 (by rfl) [.slice a1 n c1, .slice (some ⟨bo, 0, none⟩) (m + 1) (m + 1)] _ (range2 kq) Takg.underlying92 (by rfl) info92 ?_) | (refine wpList_store_mid (by rfl) 92 (.tmp 6) (.tmp 24) (by rfl) br 0 #[.slice a1 n c1, .slice (some ⟨bo, 0, none⟩) (m + 1) (m + 1)] (by rfl) (by rfl) (there2 kr) info92 (one92 rfl rfl) ?_) | (refine wpList_store_mid (by rfl) 92 (.tmp 6) (.tmp 43) (by rfl) br 0 #[.slice a1 n c1, .slice (some ⟨bo, 0, none⟩) (m + 1) (m + 1)] (by rfl) (by rfl) (there2 kr) info92 (one92 rfl rfl) ?_) | (refine wpList_store_mid (by rfl) 92 (.tmp 6) (.tmp 60) (by rfl) br 0 #[.slice a1 n c1, .slice (some ⟨bo, 0, none⟩) (m + 1) (m + 1)] (by rfl) (by rfl) (there2 kr) info92 (one92 rfl rfl) ?_) | (refine wpList_store_mid (by rfl) 92 (.tmp 6) (.tmp 85) (by rfl) br 0 #[.slice a1 n c1, .slice (some ⟨bo, 0, none⟩) (m + 1) (m + 1)] (by rfl) (by rfl) (there2 kr) info92 (one92 rfl rfl) ?_) | (refine wpList_store_mid (by rfl) 92 (.tmp 6) (.tmp 107) (by rfl) br 0 #[.slice a1 n c1, .slice (some ⟨bo, 0, none⟩) (m + 1) (m + 1)] (by rfl) (by rfl) (there2 kr) info92 (one92 rfl rfl) ?_))
      refine bodyPost_ret (results_cell (by rfl) _ _ _ br 0 (by rfl) [.slice a1 n c1, .slice (some ⟨bo, 0, none⟩) (m + 1) (m + 1)] _ (range2 V0) Takg.underlying92 (by rfl) info92) rfl ?_
      exact Res.of HEN.out (by simp [HEM.out]) (HS0.out.out V3 HO.out V1 (by rw [HEM.out])) rfl V3

set_option maxRecDepth 10000 in
set_option maxHeartbeats 4000000 in
theorem rowNoB (a1 a2 aa : Option Addr) (c1 c2 kd na ca u : Nat) (es : Es) (os : List Int) (w : World) (hs : StE w a1 c1 es a2 c2 os) (ho : os.length < 1000) (hA : Arg w aa na ca u) (hk : kd = 8 ∧ es.length = 0) :
    Calls Takg.prog 52 #[.int .u8 0, .agg #[.slice a1 es.length c1, .slice a2 os.length c2], .agg #[.int .u8 kd, .slice aa na ca]] w fun e w' => Res w w' e (es.map (·.2)) (os ++ [-2]) := by
  have HNO := hide (fun W (hW : Chg [] w W) => appended_any a2 c2 os (-2) W (by omega) hs.k2 (hs.cel2.chg0 hW))
  have HO := hide ho
  have HN16 := hide hs.n1
  have hn16 := hs.n1
  have hb1 := hs.b1
  obtain ⟨n, en⟩ : ∃ n, n = es.length := ⟨_, rfl⟩
  obtain ⟨m, em⟩ : ∃ n, n = os.length := ⟨_, rfl⟩
  rw [← en] at hn16 HN16 hk ⊢
  rw [← em] at HNO ho  ⊢
  have HEN := hide en
  have HEM := hide em
  have HS0 := hide hs
  have HAA := hide hA
  have HK := hide hk
  clear en em hs ho hA hk
  go_enter Takg.func52, Takg.ntmps52
  go_upto_region 1 with (first | (refine wpList_box92 (by rfl) (.tmp 1) (by rfl) (.slice a1 n c1) (.slice a2 m c2) (by rfl) ?_; intro b4 wb hbb k4 cbb) | (refine wpList_box95 (by rfl) (.tmp 2) (by rfl) (.int .u8 kd) (.slice aa na ca) (by rfl) ?_; intro b5 wd hbd k5 cbd) | (refine wpList_new92 (by rfl) (by rfl) ?_; intro br wr hbr kbr cbr))
  have k5r := cbr.blk k5 (by simp)
  have k4d := cbd.blk k4 (by simp)
  have k4r := cbr.blk k4d (by simp)
  have cw := (cbb.trans cbd).trans cbr
  have n4r : b4 ≠ br := by have := k4d.lt; have := hbr.out; omega
  have n5r : b5 ≠ br := by have := k5.lt; have := hbr.out; omega
  have gr : w.heap.size ≤ br := by have := hbr.out; have := cbb.size; have := cbd.size; omega
  clear k4 k5 cbb cbr hbb hbr k4d cbd hbd
  simp only [Act.put, List.setIfInBounds_toArray, List.set_cons_zero, List.set_cons_succ]
  have f0 := k4r.cell 0 _ rfl
  go_upto_region 2 with fail
  clear f0
  go_cut [8] (fun v wc => ∃ bq bo, v = .pointer (some ⟨bq, 0, none⟩) ∧ Blk wc bq 92 [.slice a1 n c1, .slice (some ⟨bo, 0, none⟩) (m + 1) (m + 1)] ∧ bq ≠ br ∧ bo ≠ br ∧ Blk wc bo 62 (Ov (os ++ [-2])) ∧ Blk wc b4 92 [.slice a1 n c1, .slice a2 m c2] ∧ Blk wc b5 95 [.int .u8 kd, .slice aa na ca] ∧ (∃ (p : Option Addr × Nat × Nat) (q : Value), Blk wc br 92 [.slice p.1 p.2.1 p.2.2, q]) ∧ Chg [] w wc)
  case first =>
    refine wp_region_held_drew (S := fun w1 => Blk w1 b4 92 [.slice a1 n c1, .slice a2 m c2] ∧ Blk w1 b5 95 [.int .u8 kd, .slice aa na ca] ∧ (∃ (p : Option Addr × Nat × Nat) (q : Value), Blk w1 br 92 [.slice p.1 p.2.1 p.2.2, q]) ∧ Chg [] w w1 ∧ Ent w1 none 0) (by kernel_rfl) ⟨k4r.drew, k5r.drew, ⟨(none, 0, 0), _, kbr.drew⟩, cw.drew, Ent.zero _⟩ (fun hHeld => ?_)
    refine takeL 0 (v := ?_) rfl (by kernel_rfl) (by kernel_rfl) (by kernel_rfl) (fun _ _ _ h => h) (by rfl) ?_ hHeld ?_
    rotate_left
    · (intro w1 hSw; have f0 := hSw.1.cell 0 _ rfl; have f1 := hSw.1.cell 1 _ rfl; have f2 := hSw.2.1.cell 0 _ rfl; have f3 := hSw.2.1.cell 1 _ rfl; go_simp; try with_reducible rfl)
    simp only [Act.put, List.setIfInBounds_toArray, List.set_cons_zero, List.set_cons_succ]
    refine takeL 1 (v := ?_) rfl (by kernel_rfl) (by kernel_rfl) (by kernel_rfl) (fun _ _ _ h => h) (by rfl) ?_ hHeld ?_
    rotate_left
    · (intro w1 hSw; have f0 := hSw.1.cell 0 _ rfl; have f1 := hSw.1.cell 1 _ rfl; have f2 := hSw.2.1.cell 0 _ rfl; have f3 := hSw.2.1.cell 1 _ rfl; go_simp; try with_reducible rfl)
    simp only [Act.put, List.setIfInBounds_toArray, List.set_cons_zero, List.set_cons_succ]
    refine takeL 2 (v := ?_) rfl (by kernel_rfl) (by kernel_rfl) (by kernel_rfl) (fun _ _ _ h => h) (by rfl) ?_ hHeld ?_
    rotate_left
    · (intro w1 hSw; have f0 := hSw.1.cell 0 _ rfl; have f1 := hSw.1.cell 1 _ rfl; have f2 := hSw.2.1.cell 0 _ rfl; have f3 := hSw.2.1.cell 1 _ rfl; go_simp; try with_reducible rfl)
    simp only [Act.put, List.setIfInBounds_toArray, List.set_cons_zero, List.set_cons_succ]
    refine takeL 3 (v := ?_) rfl (by kernel_rfl) (by kernel_rfl) (by kernel_rfl) (fun _ _ _ h => h) (by rfl) ?_ hHeld ?_
    rotate_left
    · (intro w1 hSw; have f0 := hSw.1.cell 0 _ rfl; have f1 := hSw.1.cell 1 _ rfl; have f2 := hSw.2.1.cell 0 _ rfl; have f3 := hSw.2.1.cell 1 _ rfl; go_simp; try with_reducible rfl)
    simp only [Act.put, List.setIfInBounds_toArray, List.set_cons_zero, List.set_cons_succ]
    refine wpAnyH_ready (rs := [4, 6]) (by kernel_rfl) (by simp) ?_
    refine consL rfl rfl (fun K hK => ?_) ?_
    · go_simp
      refine (HNO.out _ hHeld.2.2.2.1).mono ?_
      rintro e wn ⟨bo, rfl, go, ko, hcn⟩
      have nor : bo ≠ br := by obtain ⟨p, q, hpq⟩ := hHeld.2.2.1; have := hpq.lt; omega
      have go : w.heap.size ≤ bo := Nat.le_trans hHeld.2.2.2.1.size go
      refine hK.out _ _ ⟨hcn.blk hHeld.1 (by simp), hcn.blk hHeld.2.1 (by simp), (by obtain ⟨p, q, hpq⟩ := hHeld.2.2.1; exact ⟨p, q, hcn.blk hpq (by simp)⟩), hHeld.2.2.2.1.trans hcn, hHeld.2.2.2.2.chg0 hcn⟩ (fun hHeld => ?_)
      clear hK K
      try simp only [Act.put, List.setIfInBounds_toArray, List.set_cons_zero, List.set_cons_succ, List.toList_toArray]
      clear hcn
      refine takeL 5 rfl (by kernel_rfl) (by kernel_rfl) (by kernel_rfl) (fun _ _ _ h => h) (by rfl) (fun w1 hSw => run_build92 (.tmp 13) (.tmp 16) rfl a1 n c1 (some ⟨bo, 0, none⟩) (m + 1) (m + 1) w1 rfl rfl) hHeld ?_
      simp only [Act.put, List.setIfInBounds_toArray, List.set_cons_zero, List.set_cons_succ]
      refine wpAnyH_ready (rs := [6]) (by kernel_rfl) (by simp) ?_
      refine consL rfl rfl (fun K hK => ?_) AllReadyH.nil
      have hsz := hHeld.2.2.2.1.size
      have lr := (by obtain ⟨p, q, hpq⟩ := hHeld.2.2.1; exact hpq.lt : br < _)
      have l4 := hHeld.1.lt
      have l5 := hHeld.2.1.lt
      refine wp_new92 rfl ?_
      intro bq wn hbq kq hcn
      have gq : w.heap.size ≤ bq := by have := hbq.out; omega
      have nqr : bq ≠ br := by have := hbq.out; omega
      have nq4 : b4 ≠ bq := by have := hbq.out; omega
      have nq5 : b5 ≠ bq := by have := hbq.out; omega
      have nq : bo ≠ bq := by have := hbq.out; have := ko.lt; omega
      have ko := hcn.blk ko (by simp)
      refine hK.out _ _ ⟨hcn.blk hHeld.1 (by simp), hcn.blk hHeld.2.1 (by simp), (by obtain ⟨p, q, hpq⟩ := hHeld.2.2.1; exact ⟨p, q, hcn.blk hpq (by simp)⟩), hHeld.2.2.2.1.trans hcn, hHeld.2.2.2.2.chg0 hcn⟩ (fun hHeld => ?_)
      clear hK K hsz lr l4 l5
      try simp only [Act.put, List.setIfInBounds_toArray, List.set_cons_zero, List.set_cons_succ, List.toList_toArray]
      refine wpAnyH_ready (rs := [7]) (by kernel_rfl) (by simp) ?_
      refine consL rfl rfl (fun K hK => ?_) AllReadyH.nil
      refine wp_store_mid 92 _ _ rfl bq 0 #[.slice a1 n c1, .slice (some ⟨bo, 0, none⟩) (m + 1) (m + 1)] rfl rfl (there2 kq) info92 (one92 rfl rfl) ?_
      have V0 := set2 (p' := (.slice a1 n c1)) (q' := (.slice (some ⟨bo, 0, none⟩) (m + 1) (m + 1))) kq
      have V1 := ne2 (b := bq) (p := (.slice a1 n c1)) (q := (.slice (some ⟨bo, 0, none⟩) (m + 1) (m + 1))) ko nq
      have V2 := ne2 (b := bq) (p := (.slice a1 n c1)) (q := (.slice (some ⟨bo, 0, none⟩) (m + 1) (m + 1))) hHeld.1 nq4
      have V2b := ne2 (b := bq) (p := (.slice a1 n c1)) (q := (.slice (some ⟨bo, 0, none⟩) (m + 1) (m + 1))) hHeld.2.1 nq5
      have V3 := chg2 (b := bq) (p := (.slice a1 n c1)) (q := (.slice (some ⟨bo, 0, none⟩) (m + 1) (m + 1))) hHeld.2.2.2.1 gq
      have V4 : (∃ (p : Option Addr × Nat × Nat) (q : Value), Blk (World.setCells wn bq 0 [(.slice a1 n c1), (.slice (some ⟨bo, 0, none⟩) (m + 1) (m + 1))]) br 92 [.slice p.1 p.2.1 p.2.2, q]) := by
        obtain ⟨p, q, hpq⟩ := hHeld.2.2.1
        exact ⟨p, q, ne2 (b := bq) hpq (Ne.symm nqr)⟩
      refine hK.out _ _ ⟨V2, V2b, V4, V3, Ent.zero _⟩ (fun hHeld => ?_)
      clear hK K
      try simp only [Act.put, List.setIfInBounds_toArray, List.set_cons_zero, List.set_cons_succ, List.toList_toArray]
      refine wpAnyH_done (by kernel_rfl) ?_ _
      go_wp2_with fail
      go_meet
      exact ⟨bq, bo, rfl, V0, nqr, nor, V1, V2, V2b, V4, V3⟩
    refine consL rfl rfl (fun K hK => ?_) AllReadyH.nil
    have hsz := hHeld.2.2.2.1.size
    have lr := (by obtain ⟨p, q, hpq⟩ := hHeld.2.2.1; exact hpq.lt : br < _)
    have l4 := hHeld.1.lt
    have l5 := hHeld.2.1.lt
    refine wp_new92 rfl ?_
    intro bq wn hbq kq hcn
    have gq : w.heap.size ≤ bq := by have := hbq.out; omega
    have nqr : bq ≠ br := by have := hbq.out; omega
    have nq4 : b4 ≠ bq := by have := hbq.out; omega
    have nq5 : b5 ≠ bq := by have := hbq.out; omega
    refine hK.out _ _ ⟨hcn.blk hHeld.1 (by simp), hcn.blk hHeld.2.1 (by simp), (by obtain ⟨p, q, hpq⟩ := hHeld.2.2.1; exact ⟨p, q, hcn.blk hpq (by simp)⟩), hHeld.2.2.2.1.trans hcn, hHeld.2.2.2.2.chg0 hcn⟩ (fun hHeld => ?_)
    clear hK K hsz lr l4 l5
    try simp only [Act.put, List.setIfInBounds_toArray, List.set_cons_zero, List.set_cons_succ, List.toList_toArray]
    refine wpAnyH_ready (rs := [4]) (by kernel_rfl) (by simp) ?_
    refine consL rfl rfl (fun K hK => ?_) AllReadyH.nil
    go_simp
    refine (HNO.out _ hHeld.2.2.2.1).mono ?_
    rintro e wn ⟨bo, rfl, go, ko, hcn⟩
    have nq : bo ≠ bq := by have := kq.lt; omega
    have kq := hcn.blk kq (by simp)
    have nor : bo ≠ br := by obtain ⟨p, q, hpq⟩ := hHeld.2.2.1; have := hpq.lt; omega
    have go : w.heap.size ≤ bo := Nat.le_trans hHeld.2.2.2.1.size go
    refine hK.out _ _ ⟨hcn.blk hHeld.1 (by simp), hcn.blk hHeld.2.1 (by simp), (by obtain ⟨p, q, hpq⟩ := hHeld.2.2.1; exact ⟨p, q, hcn.blk hpq (by simp)⟩), hHeld.2.2.2.1.trans hcn, hHeld.2.2.2.2.chg0 hcn⟩ (fun hHeld => ?_)
    clear hK K
    try simp only [Act.put, List.setIfInBounds_toArray, List.set_cons_zero, List.set_cons_succ, List.toList_toArray]
    clear hcn
    refine takeL 5 rfl (by kernel_rfl) (by kernel_rfl) (by kernel_rfl) (fun _ _ _ h => h) (by rfl) (fun w1 hSw => run_build92 (.tmp 13) (.tmp 16) rfl a1 n c1 (some ⟨bo, 0, none⟩) (m + 1) (m + 1) w1 rfl rfl) hHeld ?_
    simp only [Act.put, List.setIfInBounds_toArray, List.set_cons_zero, List.set_cons_succ]
    refine wpAnyH_ready (rs := [7]) (by kernel_rfl) (by simp) ?_
    refine consL rfl rfl (fun K hK => ?_) AllReadyH.nil
    refine wp_store_mid 92 _ _ rfl bq 0 #[.slice a1 n c1, .slice (some ⟨bo, 0, none⟩) (m + 1) (m + 1)] rfl rfl (there2 kq) info92 (one92 rfl rfl) ?_
    have V0 := set2 (p' := (.slice a1 n c1)) (q' := (.slice (some ⟨bo, 0, none⟩) (m + 1) (m + 1))) kq
    have V1 := ne2 (b := bq) (p := (.slice a1 n c1)) (q := (.slice (some ⟨bo, 0, none⟩) (m + 1) (m + 1))) ko nq
    have V2 := ne2 (b := bq) (p := (.slice a1 n c1)) (q := (.slice (some ⟨bo, 0, none⟩) (m + 1) (m + 1))) hHeld.1 nq4
    have V2b := ne2 (b := bq) (p := (.slice a1 n c1)) (q := (.slice (some ⟨bo, 0, none⟩) (m + 1) (m + 1))) hHeld.2.1 nq5
    have V3 := chg2 (b := bq) (p := (.slice a1 n c1)) (q := (.slice (some ⟨bo, 0, none⟩) (m + 1) (m + 1))) hHeld.2.2.2.1 gq
    have V4 : (∃ (p : Option Addr × Nat × Nat) (q : Value), Blk (World.setCells wn bq 0 [(.slice a1 n c1), (.slice (some ⟨bo, 0, none⟩) (m + 1) (m + 1))]) br 92 [.slice p.1 p.2.1 p.2.2, q]) := by
      obtain ⟨p, q, hpq⟩ := hHeld.2.2.1
      exact ⟨p, q, ne2 (b := bq) hpq (Ne.symm nqr)⟩
    refine hK.out _ _ ⟨V2, V2b, V4, V3, Ent.zero _⟩ (fun hHeld => ?_)
    clear hK K
    try simp only [Act.put, List.setIfInBounds_toArray, List.set_cons_zero, List.set_cons_succ, List.toList_toArray]
    refine wpAnyH_done (by kernel_rfl) ?_ _
    go_wp2_with fail
    go_meet
    exact ⟨bq, bo, rfl, V0, nqr, nor, V1, V2, V2b, V4, V3⟩
  case rest =>
    obtain ⟨bq, bo, rfl, kq, nqr, nor, ko, k4, k5, kr, cwA⟩ := hcut
    clear k4r k5r kbr cw
    have f0 := k4.cell 0 _ rfl
    have f1 := k4.cell 1 _ rfl
    have f2 := k5.cell 0 _ rfl
    have hk := HK.out
    rcases hk with ⟨hk, hlt⟩
    · obtain ⟨p, q, kr⟩ := kr
      have V0 := set2 (p' := .slice a1 n c1) (q' := .slice (some ⟨bo, 0, none⟩) (m + 1) (m + 1)) kr
      have V1 := ne2 (b := br) (p := .slice a1 n c1) (q := .slice (some ⟨bo, 0, none⟩) (m + 1) (m + 1)) ko nor
      have V3 := chg2 (b := br) (p := .slice a1 n c1) (q := .slice (some ⟨bo, 0, none⟩) (m + 1) (m + 1)) cwA gr
      go_wp2_with (first | (refine wpList_load_mid (by rfl) 92 (.tmp 8) (by rfl) bq 0 (by rfl) [.slice a1 n c1, .slice (some ⟨bo, 0, none⟩) (m + 1) (m + 1)] _ (range2 kq) Takg.underlying92 (by rfl) info92 ?_) | (refine wpList_store_mid (by rfl) 92 (.tmp 6) (.tmp 24) (by rfl) br 0 #[.slice a1 n c1, .slice (some ⟨bo, 0, none⟩) (m + 1) (m + 1)] (by rfl) (by rfl) (there2 kr) info92 (one92 rfl rfl) ?_) | (refine wpList_store_mid (by rfl) 92 (.tmp 6) (.tmp 43) (by rfl) br 0 #[.slice a1 n c1, .slice (some ⟨bo, 0, none⟩) (m + 1) (m + 1)] (by rfl) (by rfl) (there2 kr) info92 (one92 rfl rfl) ?_) | (refine wpList_store_mid (by rfl) 92 (.tmp 6) (.tmp 60) (by rfl) br 0 #[.slice a1 n c1, .slice (some ⟨bo, 0, none⟩) (m + 1) (m + 1)] (by rfl) (by rfl) (there2 kr) info92 (one92 rfl rfl) ?_) | (refine wpList_store_mid (by rfl) 92 (.tmp 6) (.tmp 85) (by rfl) br 0 #[.slice a1 n c1, .slice (some ⟨bo, 0, none⟩) (m + 1) (m + 1)] (by rfl) (by rfl) (there2 kr) info92 (one92 rfl rfl) ?_) | (refine wpList_store_mid (by rfl) 92 (.tmp 6) (.tmp 107) (by rfl) br 0 #[.slice a1 n c1, .slice (some ⟨bo, 0, none⟩) (m + 1) (m + 1)] (by rfl) (by rfl) (there2 kr) info92 (one92 rfl rfl) ?_))
      refine bodyPost_ret (results_cell (by rfl) _ _ _ br 0 (by rfl) [.slice a1 n c1, .slice (some ⟨bo, 0, none⟩) (m + 1) (m + 1)] _ (range2 V0) Takg.underlying92 (by rfl) info92) rfl ?_
      exact Res.of HEN.out (by simp [HEM.out]) (HS0.out.out V3 HO.out V1 (by rw [HEM.out])) rfl V3

set_option maxRecDepth 10000 in
set_option maxHeartbeats 4000000 in
theorem rowNoD (a1 a2 aa : Option Addr) (c1 c2 kd na ca u : Nat) (es : Es) (os : List Int) (w : World) (hs : StE w a1 c1 es a2 c2 os) (ho : os.length < 1000) (hA : Arg w aa na ca u) (hk : kd = 4 ∧ es.length = 0) :
    Calls Takg.prog 52 #[.int .u8 0, .agg #[.slice a1 es.length c1, .slice a2 os.length c2], .agg #[.int .u8 kd, .slice aa na ca]] w fun e w' => Res w w' e (es.map (·.2)) (os ++ [-2]) := by
  have HNO := hide (fun W (hW : Chg [] w W) => appended_any a2 c2 os (-2) W (by omega) hs.k2 (hs.cel2.chg0 hW))
  have HO := hide ho
  have HN16 := hide hs.n1
  have hn16 := hs.n1
  have hb1 := hs.b1
  obtain ⟨n, en⟩ : ∃ n, n = es.length := ⟨_, rfl⟩
  obtain ⟨m, em⟩ : ∃ n, n = os.length := ⟨_, rfl⟩
  rw [← en] at hn16 HN16 hk ⊢
  rw [← em] at HNO ho  ⊢
  have HEN := hide en
  have HEM := hide em
  have HS0 := hide hs
  have HAA := hide hA
  have HK := hide hk
  clear en em hs ho hA hk
  go_enter Takg.func52, Takg.ntmps52
  go_upto_region 1 with (first | (refine wpList_box92 (by rfl) (.tmp 1) (by rfl) (.slice a1 n c1) (.slice a2 m c2) (by rfl) ?_; intro b4 wb hbb k4 cbb) | (refine wpList_box95 (by rfl) (.tmp 2) (by rfl) (.int .u8 kd) (.slice aa na ca) (by rfl) ?_; intro b5 wd hbd k5 cbd) | (refine wpList_new92 (by rfl) (by rfl) ?_; intro br wr hbr kbr cbr))
  have k5r := cbr.blk k5 (by simp)
  have k4d := cbd.blk k4 (by simp)
  have k4r := cbr.blk k4d (by simp)
  have cw := (cbb.trans cbd).trans cbr
  have n4r : b4 ≠ br := by have := k4d.lt; have := hbr.out; omega
  have n5r : b5 ≠ br := by have := k5.lt; have := hbr.out; omega
  have gr : w.heap.size ≤ br := by have := hbr.out; have := cbb.size; have := cbd.size; omega
  clear k4 k5 cbb cbr hbb hbr k4d cbd hbd
  simp only [Act.put, List.setIfInBounds_toArray, List.set_cons_zero, List.set_cons_succ]
  have f0 := k4r.cell 0 _ rfl
  go_upto_region 2 with fail
  clear f0
  go_cut [8] (fun v wc => ∃ bq bo, v = .pointer (some ⟨bq, 0, none⟩) ∧ Blk wc bq 92 [.slice a1 n c1, .slice (some ⟨bo, 0, none⟩) (m + 1) (m + 1)] ∧ bq ≠ br ∧ bo ≠ br ∧ Blk wc bo 62 (Ov (os ++ [-2])) ∧ Blk wc b4 92 [.slice a1 n c1, .slice a2 m c2] ∧ Blk wc b5 95 [.int .u8 kd, .slice aa na ca] ∧ (∃ (p : Option Addr × Nat × Nat) (q : Value), Blk wc br 92 [.slice p.1 p.2.1 p.2.2, q]) ∧ Chg [] w wc)
  case first =>
    refine wp_region_held_drew (S := fun w1 => Blk w1 b4 92 [.slice a1 n c1, .slice a2 m c2] ∧ Blk w1 b5 95 [.int .u8 kd, .slice aa na ca] ∧ (∃ (p : Option Addr × Nat × Nat) (q : Value), Blk w1 br 92 [.slice p.1 p.2.1 p.2.2, q]) ∧ Chg [] w w1 ∧ Ent w1 none 0) (by kernel_rfl) ⟨k4r.drew, k5r.drew, ⟨(none, 0, 0), _, kbr.drew⟩, cw.drew, Ent.zero _⟩ (fun hHeld => ?_)
    refine takeL 0 (v := ?_) rfl (by kernel_rfl) (by kernel_rfl) (by kernel_rfl) (fun _ _ _ h => h) (by rfl) ?_ hHeld ?_
    rotate_left
    · (intro w1 hSw; have f0 := hSw.1.cell 0 _ rfl; have f1 := hSw.1.cell 1 _ rfl; have f2 := hSw.2.1.cell 0 _ rfl; have f3 := hSw.2.1.cell 1 _ rfl; go_simp; try with_reducible rfl)
    simp only [Act.put, List.setIfInBounds_toArray, List.set_cons_zero, List.set_cons_succ]
    refine takeL 1 (v := ?_) rfl (by kernel_rfl) (by kernel_rfl) (by kernel_rfl) (fun _ _ _ h => h) (by rfl) ?_ hHeld ?_
    rotate_left
    · (intro w1 hSw; have f0 := hSw.1.cell 0 _ rfl; have f1 := hSw.1.cell 1 _ rfl; have f2 := hSw.2.1.cell 0 _ rfl; have f3 := hSw.2.1.cell 1 _ rfl; go_simp; try with_reducible rfl)
    simp only [Act.put, List.setIfInBounds_toArray, List.set_cons_zero, List.set_cons_succ]
    refine takeL 2 (v := ?_) rfl (by kernel_rfl) (by kernel_rfl) (by kernel_rfl) (fun _ _ _ h => h) (by rfl) ?_ hHeld ?_
    rotate_left
    · (intro w1 hSw; have f0 := hSw.1.cell 0 _ rfl; have f1 := hSw.1.cell 1 _ rfl; have f2 := hSw.2.1.cell 0 _ rfl; have f3 := hSw.2.1.cell 1 _ rfl; go_simp; try with_reducible rfl)
    simp only [Act.put, List.setIfInBounds_toArray, List.set_cons_zero, List.set_cons_succ]
    refine takeL 3 (v := ?_) rfl (by kernel_rfl) (by kernel_rfl) (by kernel_rfl) (fun _ _ _ h => h) (by rfl) ?_ hHeld ?_
    rotate_left
    · (intro w1 hSw; have f0 := hSw.1.cell 0 _ rfl; have f1 := hSw.1.cell 1 _ rfl; have f2 := hSw.2.1.cell 0 _ rfl; have f3 := hSw.2.1.cell 1 _ rfl; go_simp; try with_reducible rfl)
    simp only [Act.put, List.setIfInBounds_toArray, List.set_cons_zero, List.set_cons_succ]
    refine wpAnyH_ready (rs := [4, 6]) (by kernel_rfl) (by simp) ?_
    refine consL rfl rfl (fun K hK => ?_) ?_
    · go_simp
      refine (HNO.out _ hHeld.2.2.2.1).mono ?_
      rintro e wn ⟨bo, rfl, go, ko, hcn⟩
      have nor : bo ≠ br := by obtain ⟨p, q, hpq⟩ := hHeld.2.2.1; have := hpq.lt; omega
      have go : w.heap.size ≤ bo := Nat.le_trans hHeld.2.2.2.1.size go
      refine hK.out _ _ ⟨hcn.blk hHeld.1 (by simp), hcn.blk hHeld.2.1 (by simp), (by obtain ⟨p, q, hpq⟩ := hHeld.2.2.1; exact ⟨p, q, hcn.blk hpq (by simp)⟩), hHeld.2.2.2.1.trans hcn, hHeld.2.2.2.2.chg0 hcn⟩ (fun hHeld => ?_)
      clear hK K
      try simp only [Act.put, List.setIfInBounds_toArray, List.set_cons_zero, List.set_cons_succ, List.toList_toArray]
      clear hcn
      refine takeL 5 rfl (by kernel_rfl) (by kernel_rfl) (by kernel_rfl) (fun _ _ _ h => h) (by rfl) (fun w1 hSw => run_build92 (.tmp 13) (.tmp 16) rfl a1 n c1 (some ⟨bo, 0, none⟩) (m + 1) (m + 1) w1 rfl rfl) hHeld ?_
      simp only [Act.put, List.setIfInBounds_toArray, List.set_cons_zero, List.set_cons_succ]
      refine wpAnyH_ready (rs := [6]) (by kernel_rfl) (by simp) ?_
      refine consL rfl rfl (fun K hK => ?_) AllReadyH.nil
      have hsz := hHeld.2.2.2.1.size
      have lr := (by obtain ⟨p, q, hpq⟩ := hHeld.2.2.1; exact hpq.lt : br < _)
      have l4 := hHeld.1.lt
      have l5 := hHeld.2.1.lt
      refine wp_new92 rfl ?_
      intro bq wn hbq kq hcn
      have gq : w.heap.size ≤ bq := by have := hbq.out; omega
      have nqr : bq ≠ br := by have := hbq.out; omega
      have nq4 : b4 ≠ bq := by have := hbq.out; omega
      have nq5 : b5 ≠ bq := by have := hbq.out; omega
      have nq : bo ≠ bq := by have := hbq.out; have := ko.lt; omega
      have ko := hcn.blk ko (by simp)
      refine hK.out _ _ ⟨hcn.blk hHeld.1 (by simp), hcn.blk hHeld.2.1 (by simp), (by obtain ⟨p, q, hpq⟩ := hHeld.2.2.1; exact ⟨p, q, hcn.blk hpq (by simp)⟩), hHeld.2.2.2.1.trans hcn, hHeld.2.2.2.2.chg0 hcn⟩ (fun hHeld => ?_)
      clear hK K hsz lr l4 l5
      try simp only [Act.put, List.setIfInBounds_toArray, List.set_cons_zero, List.set_cons_succ, List.toList_toArray]
      refine wpAnyH_ready (rs := [7]) (by kernel_rfl) (by simp) ?_
      refine consL rfl rfl (fun K hK => ?_) AllReadyH.nil
      refine wp_store_mid 92 _ _ rfl bq 0 #[.slice a1 n c1, .slice (some ⟨bo, 0, none⟩) (m + 1) (m + 1)] rfl rfl (there2 kq) info92 (one92 rfl rfl) ?_
      have V0 := set2 (p' := (.slice a1 n c1)) (q' := (.slice (some ⟨bo, 0, none⟩) (m + 1) (m + 1))) kq
      have V1 := ne2 (b := bq) (p := (.slice a1 n c1)) (q := (.slice (some ⟨bo, 0, none⟩) (m + 1) (m + 1))) ko nq
      have V2 := ne2 (b := bq) (p := (.slice a1 n c1)) (q := (.slice (some ⟨bo, 0, none⟩) (m + 1) (m + 1))) hHeld.1 nq4
      have V2b := ne2 (b := bq) (p := (.slice a1 n c1)) (q := (.slice (some ⟨bo, 0, none⟩) (m + 1) (m + 1))) hHeld.2.1 nq5
      have V3 := chg2 (b := bq) (p := (.slice a1 n c1)) (q := (.slice (some ⟨bo, 0, none⟩) (m + 1) (m + 1))) hHeld.2.2.2.1 gq
      have V4 : (∃ (p : Option Addr × Nat × Nat) (q : Value), Blk (World.setCells wn bq 0 [(.slice a1 n c1), (.slice (some ⟨bo, 0, none⟩) (m + 1) (m + 1))]) br 92 [.slice p.1 p.2.1 p.2.2, q]) := by
        obtain ⟨p, q, hpq⟩ := hHeld.2.2.1
        exact ⟨p, q, ne2 (b := bq) hpq (Ne.symm nqr)⟩
      refine hK.out _ _ ⟨V2, V2b, V4, V3, Ent.zero _⟩ (fun hHeld => ?_)
      clear hK K
      try simp only [Act.put, List.setIfInBounds_toArray, List.set_cons_zero, List.set_cons_succ, List.toList_toArray]
      refine wpAnyH_done (by kernel_rfl) ?_ _
      go_wp2_with fail
      go_meet
      exact ⟨bq, bo, rfl, V0, nqr, nor, V1, V2, V2b, V4, V3⟩
    refine consL rfl rfl (fun K hK => ?_) AllReadyH.nil
    have hsz := hHeld.2.2.2.1.size
    have lr := (by obtain ⟨p, q, hpq⟩ := hHeld.2.2.1; exact hpq.lt : br < _)
    have l4 := hHeld.1.lt
    have l5 := hHeld.2.1.lt
    refine wp_new92 rfl ?_
    intro bq wn hbq kq hcn
    have gq : w.heap.size ≤ bq := by have := hbq.out; omega
    have nqr : bq ≠ br := by have := hbq.out; omega
    have nq4 : b4 ≠ bq := by have := hbq.out; omega
    have nq5 : b5 ≠ bq := by have := hbq.out; omega
    refine hK.out _ _ ⟨hcn.blk hHeld.1 (by simp), hcn.blk hHeld.2.1 (by simp), (by obtain ⟨p, q, hpq⟩ := hHeld.2.2.1; exact ⟨p, q, hcn.blk hpq (by simp)⟩), hHeld.2.2.2.1.trans hcn, hHeld.2.2.2.2.chg0 hcn⟩ (fun hHeld => ?_)
    clear hK K hsz lr l4 l5
    try simp only [Act.put, List.setIfInBounds_toArray, List.set_cons_zero, List.set_cons_succ, List.toList_toArray]
    refine wpAnyH_ready (rs := [4]) (by kernel_rfl) (by simp) ?_
    refine consL rfl rfl (fun K hK => ?_) AllReadyH.nil
    go_simp
    refine (HNO.out _ hHeld.2.2.2.1).mono ?_
    rintro e wn ⟨bo, rfl, go, ko, hcn⟩
    have nq : bo ≠ bq := by have := kq.lt; omega
    have kq := hcn.blk kq (by simp)
    have nor : bo ≠ br := by obtain ⟨p, q, hpq⟩ := hHeld.2.2.1; have := hpq.lt; omega
    have go : w.heap.size ≤ bo := Nat.le_trans hHeld.2.2.2.1.size go
    refine hK.out _ _ ⟨hcn.blk hHeld.1 (by simp), hcn.blk hHeld.2.1 (by simp), (by obtain ⟨p, q, hpq⟩ := hHeld.2.2.1; exact ⟨p, q, hcn.blk hpq (by simp)⟩), hHeld.2.2.2.1.trans hcn, hHeld.2.2.2.2.chg0 hcn⟩ (fun hHeld => ?_)
    clear hK K
    try simp only [Act.put, List.setIfInBounds_toArray, List.set_cons_zero, List.set_cons_succ, List.toList_toArray]
    clear hcn
    refine takeL 5 rfl (by kernel_rfl) (by kernel_rfl) (by kernel_rfl) (fun _ _ _ h => h) (by rfl) (fun w1 hSw => run_build92 (.tmp 13) (.tmp 16) rfl a1 n c1 (some ⟨bo, 0, none⟩) (m + 1) (m + 1) w1 rfl rfl) hHeld ?_
    simp only [Act.put, List.setIfInBounds_toArray, List.set_cons_zero, List.set_cons_succ]
    refine wpAnyH_ready (rs := [7]) (by kernel_rfl) (by simp) ?_
    refine consL rfl rfl (fun K hK => ?_) AllReadyH.nil
    refine wp_store_mid 92 _ _ rfl bq 0 #[.slice a1 n c1, .slice (some ⟨bo, 0, none⟩) (m + 1) (m + 1)] rfl rfl (there2 kq) info92 (one92 rfl rfl) ?_
    have V0 := set2 (p' := (.slice a1 n c1)) (q' := (.slice (some ⟨bo, 0, none⟩) (m + 1) (m + 1))) kq
    have V1 := ne2 (b := bq) (p := (.slice a1 n c1)) (q := (.slice (some ⟨bo, 0, none⟩) (m + 1) (m + 1))) ko nq
    have V2 := ne2 (b := bq) (p := (.slice a1 n c1)) (q := (.slice (some ⟨bo, 0, none⟩) (m + 1) (m + 1))) hHeld.1 nq4
    have V2b := ne2 (b := bq) (p := (.slice a1 n c1)) (q := (.slice (some ⟨bo, 0, none⟩) (m + 1) (m + 1))) hHeld.2.1 nq5
    have V3 := chg2 (b := bq) (p := (.slice a1 n c1)) (q := (.slice (some ⟨bo, 0, none⟩) (m + 1) (m + 1))) hHeld.2.2.2.1 gq
    have V4 : (∃ (p : Option Addr × Nat × Nat) (q : Value), Blk (World.setCells wn bq 0 [(.slice a1 n c1), (.slice (some ⟨bo, 0, none⟩) (m + 1) (m + 1))]) br 92 [.slice p.1 p.2.1 p.2.2, q]) := by
      obtain ⟨p, q, hpq⟩ := hHeld.2.2.1
      exact ⟨p, q, ne2 (b := bq) hpq (Ne.symm nqr)⟩
    refine hK.out _ _ ⟨V2, V2b, V4, V3, Ent.zero _⟩ (fun hHeld => ?_)
    clear hK K
    try simp only [Act.put, List.setIfInBounds_toArray, List.set_cons_zero, List.set_cons_succ, List.toList_toArray]
    refine wpAnyH_done (by kernel_rfl) ?_ _
    go_wp2_with fail
    go_meet
    exact ⟨bq, bo, rfl, V0, nqr, nor, V1, V2, V2b, V4, V3⟩
  case rest =>
    obtain ⟨bq, bo, rfl, kq, nqr, nor, ko, k4, k5, kr, cwA⟩ := hcut
    clear k4r k5r kbr cw
    have f0 := k4.cell 0 _ rfl
    have f1 := k4.cell 1 _ rfl
    have f2 := k5.cell 0 _ rfl
    have hk := HK.out
    obtain ⟨hk, hlt⟩ := hk
    go_upto_region 17 with fail
    subst hlt
    rw [show ((0 : Nat) : Int) = 0 from rfl]
    go_upto_region 18 with fail
    obtain ⟨p, q, kr⟩ := kr
    have V0 := set2 (p' := .slice a1 0 c1) (q' := .slice (some ⟨bo, 0, none⟩) (m + 1) (m + 1)) kr
    have V1 := ne2 (b := br) (p := .slice a1 0 c1) (q := .slice (some ⟨bo, 0, none⟩) (m + 1) (m + 1)) ko nor
    have V3 := chg2 (b := br) (p := .slice a1 0 c1) (q := .slice (some ⟨bo, 0, none⟩) (m + 1) (m + 1)) cwA gr
    go_wp2_with (first | (refine wpList_load_mid (by rfl) 92 (.tmp 8) (by rfl) bq 0 (by rfl) [.slice a1 0 c1, .slice (some ⟨bo, 0, none⟩) (m + 1) (m + 1)] _ (range2 kq) Takg.underlying92 (by rfl) info92 ?_) | (refine wpList_store_mid (by rfl) 92 (.tmp 6) (.tmp 85) (by rfl) br 0 #[.slice a1 0 c1, .slice (some ⟨bo, 0, none⟩) (m + 1) (m + 1)] (by rfl) (by rfl) (there2 kr) info92 (one92 rfl rfl) ?_))
    refine bodyPost_ret (results_cell (by rfl) _ _ _ br 0 (by rfl) [.slice a1 0 c1, .slice (some ⟨bo, 0, none⟩) (m + 1) (m + 1)] _ (range2 V0) Takg.underlying92 (by rfl) info92) rfl ?_
    exact Res.of HEN.out (by simp [HEM.out]) (HS0.out.out V3 HO.out V1 (by rw [HEM.out])) rfl V3

set_option maxRecDepth 10000 in
set_option maxHeartbeats 4000000 in
theorem rowNoC (a1 a2 aa : Option Addr) (c1 c2 kd na ca u : Nat) (es : Es) (os : List Int) (w : World) (hs : StE w a1 c1 es a2 c2 os) (ho : os.length < 1000) (hA : Arg w aa na ca u) (hk : (kd = 1 ∨ kd = 2 ∨ kd = 3 ∨ kd = 5 ∨ kd = 7) ∧ es.length < 2) :
    Calls Takg.prog 52 #[.int .u8 0, .agg #[.slice a1 es.length c1, .slice a2 os.length c2], .agg #[.int .u8 kd, .slice aa na ca]] w fun e w' => Res w w' e (es.map (·.2)) (os ++ [-2]) := by
  have HNO := hide (fun W (hW : Chg [] w W) => appended_any a2 c2 os (-2) W (by omega) hs.k2 (hs.cel2.chg0 hW))
  have HO := hide ho
  have HN16 := hide hs.n1
  have hn16 := hs.n1
  have hb1 := hs.b1
  obtain ⟨n, en⟩ : ∃ n, n = es.length := ⟨_, rfl⟩
  obtain ⟨m, em⟩ : ∃ n, n = os.length := ⟨_, rfl⟩
  rw [← en] at hn16 HN16 hk ⊢
  rw [← em] at HNO ho  ⊢
  have HEN := hide en
  have HEM := hide em
  have HS0 := hide hs
  have HAA := hide hA
  have HK := hide hk
  clear en em hs ho hA hk
  go_enter Takg.func52, Takg.ntmps52
  go_upto_region 1 with (first | (refine wpList_box92 (by rfl) (.tmp 1) (by rfl) (.slice a1 n c1) (.slice a2 m c2) (by rfl) ?_; intro b4 wb hbb k4 cbb) | (refine wpList_box95 (by rfl) (.tmp 2) (by rfl) (.int .u8 kd) (.slice aa na ca) (by rfl) ?_; intro b5 wd hbd k5 cbd) | (refine wpList_new92 (by rfl) (by rfl) ?_; intro br wr hbr kbr cbr))
  have k5r := cbr.blk k5 (by simp)
  have k4d := cbd.blk k4 (by simp)
  have k4r := cbr.blk k4d (by simp)
  have cw := (cbb.trans cbd).trans cbr
  have n4r : b4 ≠ br := by have := k4d.lt; have := hbr.out; omega
  have n5r : b5 ≠ br := by have := k5.lt; have := hbr.out; omega
  have gr : w.heap.size ≤ br := by have := hbr.out; have := cbb.size; have := cbd.size; omega
  clear k4 k5 cbb cbr hbb hbr k4d cbd hbd
  simp only [Act.put, List.setIfInBounds_toArray, List.set_cons_zero, List.set_cons_succ]
  have f0 := k4r.cell 0 _ rfl
  go_upto_region 2 with fail
  clear f0
  go_cut [8] (fun v wc => ∃ bq bo, v = .pointer (some ⟨bq, 0, none⟩) ∧ Blk wc bq 92 [.slice a1 n c1, .slice (some ⟨bo, 0, none⟩) (m + 1) (m + 1)] ∧ bq ≠ br ∧ bo ≠ br ∧ Blk wc bo 62 (Ov (os ++ [-2])) ∧ Blk wc b4 92 [.slice a1 n c1, .slice a2 m c2] ∧ Blk wc b5 95 [.int .u8 kd, .slice aa na ca] ∧ (∃ (p : Option Addr × Nat × Nat) (q : Value), Blk wc br 92 [.slice p.1 p.2.1 p.2.2, q]) ∧ Chg [] w wc)
  case first =>
    refine wp_region_held_drew (S := fun w1 => Blk w1 b4 92 [.slice a1 n c1, .slice a2 m c2] ∧ Blk w1 b5 95 [.int .u8 kd, .slice aa na ca] ∧ (∃ (p : Option Addr × Nat × Nat) (q : Value), Blk w1 br 92 [.slice p.1 p.2.1 p.2.2, q]) ∧ Chg [] w w1 ∧ Ent w1 none 0) (by kernel_rfl) ⟨k4r.drew, k5r.drew, ⟨(none, 0, 0), _, kbr.drew⟩, cw.drew, Ent.zero _⟩ (fun hHeld => ?_)
    refine takeL 0 (v := ?_) rfl (by kernel_rfl) (by kernel_rfl) (by kernel_rfl) (fun _ _ _ h => h) (by rfl) ?_ hHeld ?_
    rotate_left
    · (intro w1 hSw; have f0 := hSw.1.cell 0 _ rfl; have f1 := hSw.1.cell 1 _ rfl; have f2 := hSw.2.1.cell 0 _ rfl; have f3 := hSw.2.1.cell 1 _ rfl; go_simp; try with_reducible rfl)
    simp only [Act.put, List.setIfInBounds_toArray, List.set_cons_zero, List.set_cons_succ]
    refine takeL 1 (v := ?_) rfl (by kernel_rfl) (by kernel_rfl) (by kernel_rfl) (fun _ _ _ h => h) (by rfl) ?_ hHeld ?_
    rotate_left
    · (intro w1 hSw; have f0 := hSw.1.cell 0 _ rfl; have f1 := hSw.1.cell 1 _ rfl; have f2 := hSw.2.1.cell 0 _ rfl; have f3 := hSw.2.1.cell 1 _ rfl; go_simp; try with_reducible rfl)
    simp only [Act.put, List.setIfInBounds_toArray, List.set_cons_zero, List.set_cons_succ]
    refine takeL 2 (v := ?_) rfl (by kernel_rfl) (by kernel_rfl) (by kernel_rfl) (fun _ _ _ h => h) (by rfl) ?_ hHeld ?_
    rotate_left
    · (intro w1 hSw; have f0 := hSw.1.cell 0 _ rfl; have f1 := hSw.1.cell 1 _ rfl; have f2 := hSw.2.1.cell 0 _ rfl; have f3 := hSw.2.1.cell 1 _ rfl; go_simp; try with_reducible rfl)
    simp only [Act.put, List.setIfInBounds_toArray, List.set_cons_zero, List.set_cons_succ]
    refine takeL 3 (v := ?_) rfl (by kernel_rfl) (by kernel_rfl) (by kernel_rfl) (fun _ _ _ h => h) (by rfl) ?_ hHeld ?_
    rotate_left
    · (intro w1 hSw; have f0 := hSw.1.cell 0 _ rfl; have f1 := hSw.1.cell 1 _ rfl; have f2 := hSw.2.1.cell 0 _ rfl; have f3 := hSw.2.1.cell 1 _ rfl; go_simp; try with_reducible rfl)
    simp only [Act.put, List.setIfInBounds_toArray, List.set_cons_zero, List.set_cons_succ]
    refine wpAnyH_ready (rs := [4, 6]) (by kernel_rfl) (by simp) ?_
    refine consL rfl rfl (fun K hK => ?_) ?_
    · go_simp
      refine (HNO.out _ hHeld.2.2.2.1).mono ?_
      rintro e wn ⟨bo, rfl, go, ko, hcn⟩
      have nor : bo ≠ br := by obtain ⟨p, q, hpq⟩ := hHeld.2.2.1; have := hpq.lt; omega
      have go : w.heap.size ≤ bo := Nat.le_trans hHeld.2.2.2.1.size go
      refine hK.out _ _ ⟨hcn.blk hHeld.1 (by simp), hcn.blk hHeld.2.1 (by simp), (by obtain ⟨p, q, hpq⟩ := hHeld.2.2.1; exact ⟨p, q, hcn.blk hpq (by simp)⟩), hHeld.2.2.2.1.trans hcn, hHeld.2.2.2.2.chg0 hcn⟩ (fun hHeld => ?_)
      clear hK K
      try simp only [Act.put, List.setIfInBounds_toArray, List.set_cons_zero, List.set_cons_succ, List.toList_toArray]
      clear hcn
      refine takeL 5 rfl (by kernel_rfl) (by kernel_rfl) (by kernel_rfl) (fun _ _ _ h => h) (by rfl) (fun w1 hSw => run_build92 (.tmp 13) (.tmp 16) rfl a1 n c1 (some ⟨bo, 0, none⟩) (m + 1) (m + 1) w1 rfl rfl) hHeld ?_
      simp only [Act.put, List.setIfInBounds_toArray, List.set_cons_zero, List.set_cons_succ]
      refine wpAnyH_ready (rs := [6]) (by kernel_rfl) (by simp) ?_
      refine consL rfl rfl (fun K hK => ?_) AllReadyH.nil
      have hsz := hHeld.2.2.2.1.size
      have lr := (by obtain ⟨p, q, hpq⟩ := hHeld.2.2.1; exact hpq.lt : br < _)
      have l4 := hHeld.1.lt
      have l5 := hHeld.2.1.lt
      refine wp_new92 rfl ?_
      intro bq wn hbq kq hcn
      have gq : w.heap.size ≤ bq := by have := hbq.out; omega
      have nqr : bq ≠ br := by have := hbq.out; omega
      have nq4 : b4 ≠ bq := by have := hbq.out; omega
      have nq5 : b5 ≠ bq := by have := hbq.out; omega
      have nq : bo ≠ bq := by have := hbq.out; have := ko.lt; omega
      have ko := hcn.blk ko (by simp)
      refine hK.out _ _ ⟨hcn.blk hHeld.1 (by simp), hcn.blk hHeld.2.1 (by simp), (by obtain ⟨p, q, hpq⟩ := hHeld.2.2.1; exact ⟨p, q, hcn.blk hpq (by simp)⟩), hHeld.2.2.2.1.trans hcn, hHeld.2.2.2.2.chg0 hcn⟩ (fun hHeld => ?_)
      clear hK K hsz lr l4 l5
      try simp only [Act.put, List.setIfInBounds_toArray, List.set_cons_zero, List.set_cons_succ, List.toList_toArray]
      refine wpAnyH_ready (rs := [7]) (by kernel_rfl) (by simp) ?_
      refine consL rfl rfl (fun K hK => ?_) AllReadyH.nil
      refine wp_store_mid 92 _ _ rfl bq 0 #[.slice a1 n c1, .slice (some ⟨bo, 0, none⟩) (m + 1) (m + 1)] rfl rfl (there2 kq) info92 (one92 rfl rfl) ?_
      have V0 := set2 (p' := (.slice a1 n c1)) (q' := (.slice (some ⟨bo, 0, none⟩) (m + 1) (m + 1))) kq
      have V1 := ne2 (b := bq) (p := (.slice a1 n c1)) (q := (.slice (some ⟨bo, 0, none⟩) (m + 1) (m + 1))) ko nq
      have V2 := ne2 (b := bq) (p := (.slice a1 n c1)) (q := (.slice (some ⟨bo, 0, none⟩) (m + 1) (m + 1))) hHeld.1 nq4
      have V2b := ne2 (b := bq) (p := (.slice a1 n c1)) (q := (.slice (some ⟨bo, 0, none⟩) (m + 1) (m + 1))) hHeld.2.1 nq5
      have V3 := chg2 (b := bq) (p := (.slice a1 n c1)) (q := (.slice (some ⟨bo, 0, none⟩) (m + 1) (m + 1))) hHeld.2.2.2.1 gq
      have V4 : (∃ (p : Option Addr × Nat × Nat) (q : Value), Blk (World.setCells wn bq 0 [(.slice a1 n c1), (.slice (some ⟨bo, 0, none⟩) (m + 1) (m + 1))]) br 92 [.slice p.1 p.2.1 p.2.2, q]) := by
        obtain ⟨p, q, hpq⟩ := hHeld.2.2.1
        exact ⟨p, q, ne2 (b := bq) hpq (Ne.symm nqr)⟩
      refine hK.out _ _ ⟨V2, V2b, V4, V3, Ent.zero _⟩ (fun hHeld => ?_)
      clear hK K
      try simp only [Act.put, List.setIfInBounds_toArray, List.set_cons_zero, List.set_cons_succ, List.toList_toArray]
      refine wpAnyH_done (by kernel_rfl) ?_ _
      go_wp2_with fail
      go_meet
      exact ⟨bq, bo, rfl, V0, nqr, nor, V1, V2, V2b, V4, V3⟩
    refine consL rfl rfl (fun K hK => ?_) AllReadyH.nil
    have hsz := hHeld.2.2.2.1.size
    have lr := (by obtain ⟨p, q, hpq⟩ := hHeld.2.2.1; exact hpq.lt : br < _)
    have l4 := hHeld.1.lt
    have l5 := hHeld.2.1.lt
    refine wp_new92 rfl ?_
    intro bq wn hbq kq hcn
    have gq : w.heap.size ≤ bq := by have := hbq.out; omega
    have nqr : bq ≠ br := by have := hbq.out; omega
    have nq4 : b4 ≠ bq := by have := hbq.out; omega
    have nq5 : b5 ≠ bq := by have := hbq.out; omega
    refine hK.out _ _ ⟨hcn.blk hHeld.1 (by simp), hcn.blk hHeld.2.1 (by simp), (by obtain ⟨p, q, hpq⟩ := hHeld.2.2.1; exact ⟨p, q, hcn.blk hpq (by simp)⟩), hHeld.2.2.2.1.trans hcn, hHeld.2.2.2.2.chg0 hcn⟩ (fun hHeld => ?_)
    clear hK K hsz lr l4 l5
    try simp only [Act.put, List.setIfInBounds_toArray, List.set_cons_zero, List.set_cons_succ, List.toList_toArray]
    refine wpAnyH_ready (rs := [4]) (by kernel_rfl) (by simp) ?_
    refine consL rfl rfl (fun K hK => ?_) AllReadyH.nil
    go_simp
    refine (HNO.out _ hHeld.2.2.2.1).mono ?_
    rintro e wn ⟨bo, rfl, go, ko, hcn⟩
    have nq : bo ≠ bq := by have := kq.lt; omega
    have kq := hcn.blk kq (by simp)
    have nor : bo ≠ br := by obtain ⟨p, q, hpq⟩ := hHeld.2.2.1; have := hpq.lt; omega
    have go : w.heap.size ≤ bo := Nat.le_trans hHeld.2.2.2.1.size go
    refine hK.out _ _ ⟨hcn.blk hHeld.1 (by simp), hcn.blk hHeld.2.1 (by simp), (by obtain ⟨p, q, hpq⟩ := hHeld.2.2.1; exact ⟨p, q, hcn.blk hpq (by simp)⟩), hHeld.2.2.2.1.trans hcn, hHeld.2.2.2.2.chg0 hcn⟩ (fun hHeld => ?_)
    clear hK K
    try simp only [Act.put, List.setIfInBounds_toArray, List.set_cons_zero, List.set_cons_succ, List.toList_toArray]
    clear hcn
    refine takeL 5 rfl (by kernel_rfl) (by kernel_rfl) (by kernel_rfl) (fun _ _ _ h => h) (by rfl) (fun w1 hSw => run_build92 (.tmp 13) (.tmp 16) rfl a1 n c1 (some ⟨bo, 0, none⟩) (m + 1) (m + 1) w1 rfl rfl) hHeld ?_
    simp only [Act.put, List.setIfInBounds_toArray, List.set_cons_zero, List.set_cons_succ]
    refine wpAnyH_ready (rs := [7]) (by kernel_rfl) (by simp) ?_
    refine consL rfl rfl (fun K hK => ?_) AllReadyH.nil
    refine wp_store_mid 92 _ _ rfl bq 0 #[.slice a1 n c1, .slice (some ⟨bo, 0, none⟩) (m + 1) (m + 1)] rfl rfl (there2 kq) info92 (one92 rfl rfl) ?_
    have V0 := set2 (p' := (.slice a1 n c1)) (q' := (.slice (some ⟨bo, 0, none⟩) (m + 1) (m + 1))) kq
    have V1 := ne2 (b := bq) (p := (.slice a1 n c1)) (q := (.slice (some ⟨bo, 0, none⟩) (m + 1) (m + 1))) ko nq
    have V2 := ne2 (b := bq) (p := (.slice a1 n c1)) (q := (.slice (some ⟨bo, 0, none⟩) (m + 1) (m + 1))) hHeld.1 nq4
    have V2b := ne2 (b := bq) (p := (.slice a1 n c1)) (q := (.slice (some ⟨bo, 0, none⟩) (m + 1) (m + 1))) hHeld.2.1 nq5
    have V3 := chg2 (b := bq) (p := (.slice a1 n c1)) (q := (.slice (some ⟨bo, 0, none⟩) (m + 1) (m + 1))) hHeld.2.2.2.1 gq
    have V4 : (∃ (p : Option Addr × Nat × Nat) (q : Value), Blk (World.setCells wn bq 0 [(.slice a1 n c1), (.slice (some ⟨bo, 0, none⟩) (m + 1) (m + 1))]) br 92 [.slice p.1 p.2.1 p.2.2, q]) := by
      obtain ⟨p, q, hpq⟩ := hHeld.2.2.1
      exact ⟨p, q, ne2 (b := bq) hpq (Ne.symm nqr)⟩
    refine hK.out _ _ ⟨V2, V2b, V4, V3, Ent.zero _⟩ (fun hHeld => ?_)
    clear hK K
    try simp only [Act.put, List.setIfInBounds_toArray, List.set_cons_zero, List.set_cons_succ, List.toList_toArray]
    refine wpAnyH_done (by kernel_rfl) ?_ _
    go_wp2_with fail
    go_meet
    exact ⟨bq, bo, rfl, V0, nqr, nor, V1, V2, V2b, V4, V3⟩
  case rest =>
    obtain ⟨bq, bo, rfl, kq, nqr, nor, ko, k4, k5, kr, cwA⟩ := hcut
    clear k4r k5r kbr cw
    have f0 := k4.cell 0 _ rfl
    have f1 := k4.cell 1 _ rfl
    have f2 := k5.cell 0 _ rfl
    have hk := HK.out
    rcases hk with ⟨(hk | hk | hk | hk | hk), hlt⟩
    · obtain ⟨p, q, kr⟩ := kr
      have V0 := set2 (p' := .slice a1 n c1) (q' := .slice (some ⟨bo, 0, none⟩) (m + 1) (m + 1)) kr
      have V1 := ne2 (b := br) (p := .slice a1 n c1) (q := .slice (some ⟨bo, 0, none⟩) (m + 1) (m + 1)) ko nor
      have V3 := chg2 (b := br) (p := .slice a1 n c1) (q := .slice (some ⟨bo, 0, none⟩) (m + 1) (m + 1)) cwA gr
      go_wp2_with (first | (refine wpList_load_mid (by rfl) 92 (.tmp 8) (by rfl) bq 0 (by rfl) [.slice a1 n c1, .slice (some ⟨bo, 0, none⟩) (m + 1) (m + 1)] _ (range2 kq) Takg.underlying92 (by rfl) info92 ?_) | (refine wpList_store_mid (by rfl) 92 (.tmp 6) (.tmp 24) (by rfl) br 0 #[.slice a1 n c1, .slice (some ⟨bo, 0, none⟩) (m + 1) (m + 1)] (by rfl) (by rfl) (there2 kr) info92 (one92 rfl rfl) ?_) | (refine wpList_store_mid (by rfl) 92 (.tmp 6) (.tmp 43) (by rfl) br 0 #[.slice a1 n c1, .slice (some ⟨bo, 0, none⟩) (m + 1) (m + 1)] (by rfl) (by rfl) (there2 kr) info92 (one92 rfl rfl) ?_) | (refine wpList_store_mid (by rfl) 92 (.tmp 6) (.tmp 60) (by rfl) br 0 #[.slice a1 n c1, .slice (some ⟨bo, 0, none⟩) (m + 1) (m + 1)] (by rfl) (by rfl) (there2 kr) info92 (one92 rfl rfl) ?_) | (refine wpList_store_mid (by rfl) 92 (.tmp 6) (.tmp 85) (by rfl) br 0 #[.slice a1 n c1, .slice (some ⟨bo, 0, none⟩) (m + 1) (m + 1)] (by rfl) (by rfl) (there2 kr) info92 (one92 rfl rfl) ?_) | (refine wpList_store_mid (by rfl) 92 (.tmp 6) (.tmp 107) (by rfl) br 0 #[.slice a1 n c1, .slice (some ⟨bo, 0, none⟩) (m + 1) (m + 1)] (by rfl) (by rfl) (there2 kr) info92 (one92 rfl rfl) ?_))
      refine bodyPost_ret (results_cell (by rfl) _ _ _ br 0 (by rfl) [.slice a1 n c1, .slice (some ⟨bo, 0, none⟩) (m + 1) (m + 1)] _ (range2 V0) Takg.underlying92 (by rfl) info92) rfl ?_
      exact Res.of HEN.out (by simp [HEM.out]) (HS0.out.out V3 HO.out V1 (by rw [HEM.out])) rfl V3
    · obtain ⟨p, q, kr⟩ := kr
      have V0 := set2 (p' := .slice a1 n c1) (q' := .slice (some ⟨bo, 0, none⟩) (m + 1) (m + 1)) kr
      have V1 := ne2 (b := br) (p := .slice a1 n c1) (q := .slice (some ⟨bo, 0, none⟩) (m + 1) (m + 1)) ko nor
      have V3 := chg2 (b := br) (p := .slice a1 n c1) (q := .slice (some ⟨bo, 0, none⟩) (m + 1) (m + 1)) cwA gr
      go_wp2_with (first | (refine wpList_load_mid (by rfl) 92 (.tmp 8) (by rfl) bq 0 (by rfl) [.slice a1 n c1, .slice (some ⟨bo, 0, none⟩) (m + 1) (m + 1)] _ (range2 kq) Takg.underlying92 (by rfl) info92 ?_) | (refine wpList_store_mid (by rfl) 92 (.tmp 6) (.tmp 24) (by rfl) br 0 #[.slice a1 n c1, .slice (some ⟨bo, 0, none⟩) (m + 1) (m + 1)] (by rfl) (by rfl) (there2 kr) info92 (one92 rfl rfl) ?_) | (refine wpList_store_mid (by rfl) 92 (.tmp 6) (.tmp 43) (by rfl) br 0 #[.slice a1 n c1, .slice (some ⟨bo, 0, none⟩) (m + 1) (m + 1)] (by rfl) (by rfl) (there2 kr) info92 (one92 rfl rfl) ?_) | (refine wpList_store_mid (by rfl) 92 (.tmp 6) (.tmp 60) (by rfl) br 0 #[.slice a1 n c1, .slice (some ⟨bo, 0, none⟩) (m + 1) (m + 1)] (by rfl) (by rfl) (there2 kr) info92 (one92 rfl rfl) ?_) | (refine wpList_store_mid (by rfl) 92 (.tmp 6) (.tmp 85) (by rfl) br 0 #[.slice a1 n c1, .slice (some ⟨bo, 0, none⟩) (m + 1) (m + 1)] (by rfl) (by rfl) (there2 kr) info92 (one92 rfl rfl) ?_) | (refine wpList_store_mid (by rfl) 92 (.tmp 6) (.tmp 107) (by rfl) br 0 #[.slice a1 n c1, .slice (some ⟨bo, 0, none⟩) (m + 1) (m + 1)] (by rfl) (by rfl) (there2 kr) info92 (one92 rfl rfl) ?_))
      refine bodyPost_ret (results_cell (by rfl) _ _ _ br 0 (by rfl) [.slice a1 n c1, .slice (some ⟨bo, 0, none⟩) (m + 1) (m + 1)] _ (range2 V0) Takg.underlying92 (by rfl) info92) rfl ?_
      exact Res.of HEN.out (by simp [HEM.out]) (HS0.out.out V3 HO.out V1 (by rw [HEM.out])) rfl V3
    · obtain ⟨p, q, kr⟩ := kr
      have V0 := set2 (p' := .slice a1 n c1) (q' := .slice (some ⟨bo, 0, none⟩) (m + 1) (m + 1)) kr
      have V1 := ne2 (b := br) (p := .slice a1 n c1) (q := .slice (some ⟨bo, 0, none⟩) (m + 1) (m + 1)) ko nor
      have V3 := chg2 (b := br) (p := .slice a1 n c1) (q := .slice (some ⟨bo, 0, none⟩) (m + 1) (m + 1)) cwA gr
      go_wp2_with (first | (refine wpList_load_mid (by rfl) 92 (.tmp 8) (by rfl) bq 0 (by rfl) [.slice a1 n c1, .slice (some ⟨bo, 0, none⟩) (m + 1) (m + 1)] _ (range2 kq) Takg.underlying92 (by rfl) info92 ?_) | (refine wpList_store_mid (by rfl) 92 (.tmp 6) (.tmp 24) (by rfl) br 0 #[.slice a1 n c1, .slice (some ⟨bo, 0, none⟩) (m + 1) (m + 1)] (by rfl) (by rfl) (there2 kr) info92 (one92 rfl rfl) ?_) | (refine wpList_store_mid (by rfl) 92 (.tmp 6) (.tmp 43) (by rfl) br 0 #[.slice a1 n c1, .slice (some ⟨bo, 0, none⟩) (m + 1) (m + 1)] (by rfl) (by rfl) (there2 kr) info92 (one92 rfl rfl) ?_) | (refine wpList_store_mid (by rfl) 92 (.tmp 6) (.tmp 60) (by rfl) br 0 #[.slice a1 n c1, .slice (some ⟨bo, 0, none⟩) (m + 1) (m + 1)] (by rfl) (by rfl) (there2 kr) info92 (one92 rfl rfl) ?_) | (refine wpList_store_mid (by rfl) 92 (.tmp 6) (.tmp 85) (by rfl) br 0 #[.slice a1 n c1, .slice (some ⟨bo, 0, none⟩) (m + 1) (m + 1)] (by rfl) (by rfl) (there2 kr) info92 (one92 rfl rfl) ?_) | (refine wpList_store_mid (by rfl) 92 (.tmp 6) (.tmp 107) (by rfl) br 0 #[.slice a1 n c1, .slice (some ⟨bo, 0, none⟩) (m + 1) (m + 1)] (by rfl) (by rfl) (there2 kr) info92 (one92 rfl rfl) ?_))
      refine bodyPost_ret (results_cell (by rfl) _ _ _ br 0 (by rfl) [.slice a1 n c1, .slice (some ⟨bo, 0, none⟩) (m + 1) (m + 1)] _ (range2 V0) Takg.underlying92 (by rfl) info92) rfl ?_
      exact Res.of HEN.out (by simp [HEM.out]) (HS0.out.out V3 HO.out V1 (by rw [HEM.out])) rfl V3
    · obtain ⟨p, q, kr⟩ := kr
      have V0 := set2 (p' := .slice a1 n c1) (q' := .slice (some ⟨bo, 0, none⟩) (m + 1) (m + 1)) kr
      have V1 := ne2 (b := br) (p := .slice a1 n c1) (q := .slice (some ⟨bo, 0, none⟩) (m + 1) (m + 1)) ko nor
      have V3 := chg2 (b := br) (p := .slice a1 n c1) (q := .slice (some ⟨bo, 0, none⟩) (m + 1) (m + 1)) cwA gr
      go_wp2_with (first | (refine wpList_load_mid (by rfl) 92 (.tmp 8) (by rfl) bq 0 (by rfl) [.slice a1 n c1, .slice (some ⟨bo, 0, none⟩) (m + 1) (m + 1)] _ (range2 kq) Takg.underlying92 (by rfl) info92 ?_) | (refine wpList_store_mid (by rfl) 92 (.tmp 6) (.tmp 24) (by rfl) br 0 #[.slice a1 n c1, .slice (some ⟨bo, 0, none⟩) (m + 1) (m + 1)] (by rfl) (by rfl) (there2 kr) info92 (one92 rfl rfl) ?_) | (refine wpList_store_mid (by rfl) 92 (.tmp 6) (.tmp 43) (by rfl) br 0 #[.slice a1 n c1, .slice (some ⟨bo, 0, none⟩) (m + 1) (m + 1)] (by rfl) (by rfl) (there2 kr) info92 (one92 rfl rfl) ?_) | (refine wpList_store_mid (by rfl) 92 (.tmp 6) (.tmp 60) (by rfl) br 0 #[.slice a1 n c1, .slice (some ⟨bo, 0, none⟩) (m + 1) (m + 1)] (by rfl) (by rfl) (there2 kr) info92 (one92 rfl rfl) ?_) | (refine wpList_store_mid (by rfl) 92 (.tmp 6) (.tmp 85) (by rfl) br 0 #[.slice a1 n c1, .slice (some ⟨bo, 0, none⟩) (m + 1) (m + 1)] (by rfl) (by rfl) (there2 kr) info92 (one92 rfl rfl) ?_) | (refine wpList_store_mid (by rfl) 92 (.tmp 6) (.tmp 107) (by rfl) br 0 #[.slice a1 n c1, .slice (some ⟨bo, 0, none⟩) (m + 1) (m + 1)] (by rfl) (by rfl) (there2 kr) info92 (one92 rfl rfl) ?_))
      refine bodyPost_ret (results_cell (by rfl) _ _ _ br 0 (by rfl) [.slice a1 n c1, .slice (some ⟨bo, 0, none⟩) (m + 1) (m + 1)] _ (range2 V0) Takg.underlying92 (by rfl) info92) rfl ?_
      exact Res.of HEN.out (by simp [HEM.out]) (HS0.out.out V3 HO.out V1 (by rw [HEM.out])) rfl V3
    · obtain ⟨p, q, kr⟩ := kr
      have V0 := set2 (p' := .slice a1 n c1) (q' := .slice (some ⟨bo, 0, none⟩) (m + 1) (m + 1)) kr
      have V1 := ne2 (b := br) (p := .slice a1 n c1) (q := .slice (some ⟨bo, 0, none⟩) (m + 1) (m + 1)) ko nor
      have V3 := chg2 (b := br) (p := .slice a1 n c1) (q := .slice (some ⟨bo, 0, none⟩) (m + 1) (m + 1)) cwA gr
      go_wp2_with (first | (refine wpList_load_mid (by rfl) 92 (.tmp 8) (by rfl) bq 0 (by rfl) [.slice a1 n c1, .slice (some ⟨bo, 0, none⟩) (m + 1) (m + 1)] _ (range2 kq) Takg.underlying92 (by rfl) info92 ?_) | (refine wpList_store_mid (by rfl) 92 (.tmp 6) (.tmp 24) (by rfl) br 0 #[.slice a1 n c1, .slice (some ⟨bo, 0, none⟩) (m + 1) (m + 1)] (by rfl) (by rfl) (there2 kr) info92 (one92 rfl rfl) ?_) | (refine wpList_store_mid (by rfl) 92 (.tmp 6) (.tmp 43) (by rfl) br 0 #[.slice a1 n c1, .slice (some ⟨bo, 0, none⟩) (m + 1) (m + 1)] (by rfl) (by rfl) (there2 kr) info92 (one92 rfl rfl) ?_) | (refine wpList_store_mid (by rfl) 92 (.tmp 6) (.tmp 60) (by rfl) br 0 #[.slice a1 n c1, .slice (some ⟨bo, 0, none⟩) (m + 1) (m + 1)] (by rfl) (by rfl) (there2 kr) info92 (one92 rfl rfl) ?_) | (refine wpList_store_mid (by rfl) 92 (.tmp 6) (.tmp 85) (by rfl) br 0 #[.slice a1 n c1, .slice (some ⟨bo, 0, none⟩) (m + 1) (m + 1)] (by rfl) (by rfl) (there2 kr) info92 (one92 rfl rfl) ?_) | (refine wpList_store_mid (by rfl) 92 (.tmp 6) (.tmp 107) (by rfl) br 0 #[.slice a1 n c1, .slice (some ⟨bo, 0, none⟩) (m + 1) (m + 1)] (by rfl) (by rfl) (there2 kr) info92 (one92 rfl rfl) ?_))
      refine bodyPost_ret (results_cell (by rfl) _ _ _ br 0 (by rfl) [.slice a1 n c1, .slice (some ⟨bo, 0, none⟩) (m + 1) (m + 1)] _ (range2 V0) Takg.underlying92 (by rfl) info92) rfl ?_
      exact Res.of HEN.out (by simp [HEM.out]) (HS0.out.out V3 HO.out V1 (by rw [HEM.out])) rfl V3

set_option maxRecDepth 10000 in
set_option maxHeartbeats 4000000 in
theorem rowSame (a1 a2 aa : Option Addr) (c1 c2 kd na ca u : Nat) (es : Es) (os : List Int) (w : World) (hs : StE w a1 c1 es a2 c2 os) (ho : os.length < 1000) (hA : Arg w aa na ca u) (hk : 8 < kd) (hk2 : kd < 256) :
    Calls Takg.prog 52 #[.int .u8 0, .agg #[.slice a1 es.length c1, .slice a2 os.length c2], .agg #[.int .u8 kd, .slice aa na ca]] w fun e w' => Res w w' e (es.map (·.2)) os := by
  have HNO := hide (fun W (hW : Chg [] w W) => appended_any a2 c2 os (-2) W (by omega) hs.k2 (hs.cel2.chg0 hW))
  have HO := hide ho
  have HN16 := hide hs.n1
  have hn16 := hs.n1
  have hb1 := hs.b1
  obtain ⟨n, en⟩ : ∃ n, n = es.length := ⟨_, rfl⟩
  obtain ⟨m, em⟩ : ∃ n, n = os.length := ⟨_, rfl⟩
  rw [← en] at hn16 HN16  ⊢
  rw [← em] at HNO ho  ⊢
  have HEN := hide en
  have HEM := hide em
  have HS0 := hide hs
  have HAA := hide hA
  have HK := hide hk
  clear en em hs ho hA hk
  go_enter Takg.func52, Takg.ntmps52
  go_upto_region 1 with (first | (refine wpList_box92 (by rfl) (.tmp 1) (by rfl) (.slice a1 n c1) (.slice a2 m c2) (by rfl) ?_; intro b4 wb hbb k4 cbb) | (refine wpList_box95 (by rfl) (.tmp 2) (by rfl) (.int .u8 kd) (.slice aa na ca) (by rfl) ?_; intro b5 wd hbd k5 cbd) | (refine wpList_new92 (by rfl) (by rfl) ?_; intro br wr hbr kbr cbr))
  have k5r := cbr.blk k5 (by simp)
  have k4d := cbd.blk k4 (by simp)
  have k4r := cbr.blk k4d (by simp)
  have cw := (cbb.trans cbd).trans cbr
  have n4r : b4 ≠ br := by have := k4d.lt; have := hbr.out; omega
  have n5r : b5 ≠ br := by have := k5.lt; have := hbr.out; omega
  have gr : w.heap.size ≤ br := by have := hbr.out; have := cbb.size; have := cbd.size; omega
  clear k4 k5 cbb cbr hbb hbr k4d cbd hbd
  simp only [Act.put, List.setIfInBounds_toArray, List.set_cons_zero, List.set_cons_succ]
  have f0 := k4r.cell 0 _ rfl
  go_upto_region 2 with fail
  clear f0
  go_cut [8] (fun v wc => ∃ bq bo, v = .pointer (some ⟨bq, 0, none⟩) ∧ Blk wc bq 92 [.slice a1 n c1, .slice (some ⟨bo, 0, none⟩) (m + 1) (m + 1)] ∧ bq ≠ br ∧ bo ≠ br ∧ Blk wc bo 62 (Ov (os ++ [-2])) ∧ Blk wc b4 92 [.slice a1 n c1, .slice a2 m c2] ∧ Blk wc b5 95 [.int .u8 kd, .slice aa na ca] ∧ (∃ (p : Option Addr × Nat × Nat) (q : Value), Blk wc br 92 [.slice p.1 p.2.1 p.2.2, q]) ∧ Chg [] w wc)
  case first =>
    refine wp_region_held_drew (S := fun w1 => Blk w1 b4 92 [.slice a1 n c1, .slice a2 m c2] ∧ Blk w1 b5 95 [.int .u8 kd, .slice aa na ca] ∧ (∃ (p : Option Addr × Nat × Nat) (q : Value), Blk w1 br 92 [.slice p.1 p.2.1 p.2.2, q]) ∧ Chg [] w w1 ∧ Ent w1 none 0) (by kernel_rfl) ⟨k4r.drew, k5r.drew, ⟨(none, 0, 0), _, kbr.drew⟩, cw.drew, Ent.zero _⟩ (fun hHeld => ?_)
    refine takeL 0 (v := ?_) rfl (by kernel_rfl) (by kernel_rfl) (by kernel_rfl) (fun _ _ _ h => h) (by rfl) ?_ hHeld ?_
    rotate_left
    · (intro w1 hSw; have f0 := hSw.1.cell 0 _ rfl; have f1 := hSw.1.cell 1 _ rfl; have f2 := hSw.2.1.cell 0 _ rfl; have f3 := hSw.2.1.cell 1 _ rfl; go_simp; try with_reducible rfl)
    simp only [Act.put, List.setIfInBounds_toArray, List.set_cons_zero, List.set_cons_succ]
    refine takeL 1 (v := ?_) rfl (by kernel_rfl) (by kernel_rfl) (by kernel_rfl) (fun _ _ _ h => h) (by rfl) ?_ hHeld ?_
    rotate_left
    · (intro w1 hSw; have f0 := hSw.1.cell 0 _ rfl; have f1 := hSw.1.cell 1 _ rfl; have f2 := hSw.2.1.cell 0 _ rfl; have f3 := hSw.2.1.cell 1 _ rfl; go_simp; try with_reducible rfl)
    simp only [Act.put, List.setIfInBounds_toArray, List.set_cons_zero, List.set_cons_succ]
    refine takeL 2 (v := ?_) rfl (by kernel_rfl) (by kernel_rfl) (by kernel_rfl) (fun _ _ _ h => h) (by rfl) ?_ hHeld ?_
    rotate_left
    · (intro w1 hSw; have f0 := hSw.1.cell 0 _ rfl; have f1 := hSw.1.cell 1 _ rfl; have f2 := hSw.2.1.cell 0 _ rfl; have f3 := hSw.2.1.cell 1 _ rfl; go_simp; try with_reducible rfl)
    simp only [Act.put, List.setIfInBounds_toArray, List.set_cons_zero, List.set_cons_succ]
    refine takeL 3 (v := ?_) rfl (by kernel_rfl) (by kernel_rfl) (by kernel_rfl) (fun _ _ _ h => h) (by rfl) ?_ hHeld ?_
    rotate_left
    · (intro w1 hSw; have f0 := hSw.1.cell 0 _ rfl; have f1 := hSw.1.cell 1 _ rfl; have f2 := hSw.2.1.cell 0 _ rfl; have f3 := hSw.2.1.cell 1 _ rfl; go_simp; try with_reducible rfl)
    simp only [Act.put, List.setIfInBounds_toArray, List.set_cons_zero, List.set_cons_succ]
    refine wpAnyH_ready (rs := [4, 6]) (by kernel_rfl) (by simp) ?_
    refine consL rfl rfl (fun K hK => ?_) ?_
    · go_simp
      refine (HNO.out _ hHeld.2.2.2.1).mono ?_
      rintro e wn ⟨bo, rfl, go, ko, hcn⟩
      have nor : bo ≠ br := by obtain ⟨p, q, hpq⟩ := hHeld.2.2.1; have := hpq.lt; omega
      have go : w.heap.size ≤ bo := Nat.le_trans hHeld.2.2.2.1.size go
      refine hK.out _ _ ⟨hcn.blk hHeld.1 (by simp), hcn.blk hHeld.2.1 (by simp), (by obtain ⟨p, q, hpq⟩ := hHeld.2.2.1; exact ⟨p, q, hcn.blk hpq (by simp)⟩), hHeld.2.2.2.1.trans hcn, hHeld.2.2.2.2.chg0 hcn⟩ (fun hHeld => ?_)
      clear hK K
      try simp only [Act.put, List.setIfInBounds_toArray, List.set_cons_zero, List.set_cons_succ, List.toList_toArray]
      clear hcn
      refine takeL 5 rfl (by kernel_rfl) (by kernel_rfl) (by kernel_rfl) (fun _ _ _ h => h) (by rfl) (fun w1 hSw => run_build92 (.tmp 13) (.tmp 16) rfl a1 n c1 (some ⟨bo, 0, none⟩) (m + 1) (m + 1) w1 rfl rfl) hHeld ?_
      simp only [Act.put, List.setIfInBounds_toArray, List.set_cons_zero, List.set_cons_succ]
      refine wpAnyH_ready (rs := [6]) (by kernel_rfl) (by simp) ?_
      refine consL rfl rfl (fun K hK => ?_) AllReadyH.nil
      have hsz := hHeld.2.2.2.1.size
      have lr := (by obtain ⟨p, q, hpq⟩ := hHeld.2.2.1; exact hpq.lt : br < _)
      have l4 := hHeld.1.lt
      have l5 := hHeld.2.1.lt
      refine wp_new92 rfl ?_
      intro bq wn hbq kq hcn
      have gq : w.heap.size ≤ bq := by have := hbq.out; omega
      have nqr : bq ≠ br := by have := hbq.out; omega
      have nq4 : b4 ≠ bq := by have := hbq.out; omega
      have nq5 : b5 ≠ bq := by have := hbq.out; omega
      have nq : bo ≠ bq := by have := hbq.out; have := ko.lt; omega
      have ko := hcn.blk ko (by simp)
      refine hK.out _ _ ⟨hcn.blk hHeld.1 (by simp), hcn.blk hHeld.2.1 (by simp), (by obtain ⟨p, q, hpq⟩ := hHeld.2.2.1; exact ⟨p, q, hcn.blk hpq (by simp)⟩), hHeld.2.2.2.1.trans hcn, hHeld.2.2.2.2.chg0 hcn⟩ (fun hHeld => ?_)
      clear hK K hsz lr l4 l5
      try simp only [Act.put, List.setIfInBounds_toArray, List.set_cons_zero, List.set_cons_succ, List.toList_toArray]
      refine wpAnyH_ready (rs := [7]) (by kernel_rfl) (by simp) ?_
      refine consL rfl rfl (fun K hK => ?_) AllReadyH.nil
      refine wp_store_mid 92 _ _ rfl bq 0 #[.slice a1 n c1, .slice (some ⟨bo, 0, none⟩) (m + 1) (m + 1)] rfl rfl (there2 kq) info92 (one92 rfl rfl) ?_
      have V0 := set2 (p' := (.slice a1 n c1)) (q' := (.slice (some ⟨bo, 0, none⟩) (m + 1) (m + 1))) kq
      have V1 := ne2 (b := bq) (p := (.slice a1 n c1)) (q := (.slice (some ⟨bo, 0, none⟩) (m + 1) (m + 1))) ko nq
      have V2 := ne2 (b := bq) (p := (.slice a1 n c1)) (q := (.slice (some ⟨bo, 0, none⟩) (m + 1) (m + 1))) hHeld.1 nq4
      have V2b := ne2 (b := bq) (p := (.slice a1 n c1)) (q := (.slice (some ⟨bo, 0, none⟩) (m + 1) (m + 1))) hHeld.2.1 nq5
      have V3 := chg2 (b := bq) (p := (.slice a1 n c1)) (q := (.slice (some ⟨bo, 0, none⟩) (m + 1) (m + 1))) hHeld.2.2.2.1 gq
      have V4 : (∃ (p : Option Addr × Nat × Nat) (q : Value), Blk (World.setCells wn bq 0 [(.slice a1 n c1), (.slice (some ⟨bo, 0, none⟩) (m + 1) (m + 1))]) br 92 [.slice p.1 p.2.1 p.2.2, q]) := by
        obtain ⟨p, q, hpq⟩ := hHeld.2.2.1
        exact ⟨p, q, ne2 (b := bq) hpq (Ne.symm nqr)⟩
      refine hK.out _ _ ⟨V2, V2b, V4, V3, Ent.zero _⟩ (fun hHeld => ?_)
      clear hK K
      try simp only [Act.put, List.setIfInBounds_toArray, List.set_cons_zero, List.set_cons_succ, List.toList_toArray]
      refine wpAnyH_done (by kernel_rfl) ?_ _
      go_wp2_with fail
      go_meet
      exact ⟨bq, bo, rfl, V0, nqr, nor, V1, V2, V2b, V4, V3⟩
    refine consL rfl rfl (fun K hK => ?_) AllReadyH.nil
    have hsz := hHeld.2.2.2.1.size
    have lr := (by obtain ⟨p, q, hpq⟩ := hHeld.2.2.1; exact hpq.lt : br < _)
    have l4 := hHeld.1.lt
    have l5 := hHeld.2.1.lt
    refine wp_new92 rfl ?_
    intro bq wn hbq kq hcn
    have gq : w.heap.size ≤ bq := by have := hbq.out; omega
    have nqr : bq ≠ br := by have := hbq.out; omega
    have nq4 : b4 ≠ bq := by have := hbq.out; omega
    have nq5 : b5 ≠ bq := by have := hbq.out; omega
    refine hK.out _ _ ⟨hcn.blk hHeld.1 (by simp), hcn.blk hHeld.2.1 (by simp), (by obtain ⟨p, q, hpq⟩ := hHeld.2.2.1; exact ⟨p, q, hcn.blk hpq (by simp)⟩), hHeld.2.2.2.1.trans hcn, hHeld.2.2.2.2.chg0 hcn⟩ (fun hHeld => ?_)
    clear hK K hsz lr l4 l5
    try simp only [Act.put, List.setIfInBounds_toArray, List.set_cons_zero, List.set_cons_succ, List.toList_toArray]
    refine wpAnyH_ready (rs := [4]) (by kernel_rfl) (by simp) ?_
    refine consL rfl rfl (fun K hK => ?_) AllReadyH.nil
    go_simp
    refine (HNO.out _ hHeld.2.2.2.1).mono ?_
    rintro e wn ⟨bo, rfl, go, ko, hcn⟩
    have nq : bo ≠ bq := by have := kq.lt; omega
    have kq := hcn.blk kq (by simp)
    have nor : bo ≠ br := by obtain ⟨p, q, hpq⟩ := hHeld.2.2.1; have := hpq.lt; omega
    have go : w.heap.size ≤ bo := Nat.le_trans hHeld.2.2.2.1.size go
    refine hK.out _ _ ⟨hcn.blk hHeld.1 (by simp), hcn.blk hHeld.2.1 (by simp), (by obtain ⟨p, q, hpq⟩ := hHeld.2.2.1; exact ⟨p, q, hcn.blk hpq (by simp)⟩), hHeld.2.2.2.1.trans hcn, hHeld.2.2.2.2.chg0 hcn⟩ (fun hHeld => ?_)
    clear hK K
    try simp only [Act.put, List.setIfInBounds_toArray, List.set_cons_zero, List.set_cons_succ, List.toList_toArray]
    clear hcn
    refine takeL 5 rfl (by kernel_rfl) (by kernel_rfl) (by kernel_rfl) (fun _ _ _ h => h) (by rfl) (fun w1 hSw => run_build92 (.tmp 13) (.tmp 16) rfl a1 n c1 (some ⟨bo, 0, none⟩) (m + 1) (m + 1) w1 rfl rfl) hHeld ?_
    simp only [Act.put, List.setIfInBounds_toArray, List.set_cons_zero, List.set_cons_succ]
    refine wpAnyH_ready (rs := [7]) (by kernel_rfl) (by simp) ?_
    refine consL rfl rfl (fun K hK => ?_) AllReadyH.nil
    refine wp_store_mid 92 _ _ rfl bq 0 #[.slice a1 n c1, .slice (some ⟨bo, 0, none⟩) (m + 1) (m + 1)] rfl rfl (there2 kq) info92 (one92 rfl rfl) ?_
    have V0 := set2 (p' := (.slice a1 n c1)) (q' := (.slice (some ⟨bo, 0, none⟩) (m + 1) (m + 1))) kq
    have V1 := ne2 (b := bq) (p := (.slice a1 n c1)) (q := (.slice (some ⟨bo, 0, none⟩) (m + 1) (m + 1))) ko nq
    have V2 := ne2 (b := bq) (p := (.slice a1 n c1)) (q := (.slice (some ⟨bo, 0, none⟩) (m + 1) (m + 1))) hHeld.1 nq4
    have V2b := ne2 (b := bq) (p := (.slice a1 n c1)) (q := (.slice (some ⟨bo, 0, none⟩) (m + 1) (m + 1))) hHeld.2.1 nq5
    have V3 := chg2 (b := bq) (p := (.slice a1 n c1)) (q := (.slice (some ⟨bo, 0, none⟩) (m + 1) (m + 1))) hHeld.2.2.2.1 gq
    have V4 : (∃ (p : Option Addr × Nat × Nat) (q : Value), Blk (World.setCells wn bq 0 [(.slice a1 n c1), (.slice (some ⟨bo, 0, none⟩) (m + 1) (m + 1))]) br 92 [.slice p.1 p.2.1 p.2.2, q]) := by
      obtain ⟨p, q, hpq⟩ := hHeld.2.2.1
      exact ⟨p, q, ne2 (b := bq) hpq (Ne.symm nqr)⟩
    refine hK.out _ _ ⟨V2, V2b, V4, V3, Ent.zero _⟩ (fun hHeld => ?_)
    clear hK K
    try simp only [Act.put, List.setIfInBounds_toArray, List.set_cons_zero, List.set_cons_succ, List.toList_toArray]
    refine wpAnyH_done (by kernel_rfl) ?_ _
    go_wp2_with fail
    go_meet
    exact ⟨bq, bo, rfl, V0, nqr, nor, V1, V2, V2b, V4, V3⟩
  case rest =>
    obtain ⟨bq, bo, rfl, kq, nqr, nor, ko, k4, k5, kr, cwA⟩ := hcut
    clear k4r k5r kbr cw
    have f0 := k4.cell 0 _ rfl
    have f1 := k4.cell 1 _ rfl
    have f2 := k5.cell 0 _ rfl
    have hk := HK.out
    obtain ⟨p, q, kr⟩ := kr
    have V0 := set2 (p' := .slice a1 n c1) (q' := .slice a2 m c2) kr
    have V3 := chg2 (b := br) (p := .slice a1 n c1) (q := .slice a2 m c2) cwA gr
    go_wp2_with (first | (refine wpList_load_mid (by rfl) 92 (.tmp 4) (by rfl) b4 0 (by rfl) [.slice a1 n c1, .slice a2 m c2] _ (range2 k4) Takg.underlying92 (by rfl) info92 ?_) | (refine wpList_store_mid (by rfl) 92 (.tmp 6) (.tmp 104) (by rfl) br 0 #[.slice a1 n c1, .slice a2 m c2] (by rfl) (by rfl) (there2 kr) info92 (one92 rfl rfl) ?_))
    refine bodyPost_ret (results_cell (by rfl) _ _ _ br 0 (by rfl) [.slice a1 n c1, .slice a2 m c2] _ (range2 V0) Takg.underlying92 (by rfl) info92) rfl ?_
    exact Res.of HEN.out HEM.out (HS0.out.chg0 V3) rfl V3

theorem Res.push0 {w w' : World} {a1 a2 a' : Option Addr} {c1 c2 b c n m v : Nat} {es : Es} {os : List Int} (hn : n = es.length) (hm : m = os.length) (h : StE w a1 c1 es a2 c2 os) (hc : Chg [] w w') (hb : Blk w' b 83 (Sv (es ++ [(a', v)]))) (hcc : c = n + 1) (hk : n < 16) (he : Ent w' a' v) (hd : dlen v ≤ 1024) :
    Res w w' (.returned (.agg #[.slice (some ⟨b, 0, none⟩) c c, .slice a2 m c2])) (es.map (·.2) ++ [v]) os := by
  have h := Res.push (k := 0) (c := c) (b := b) (a' := a') (v := v) hn hm h hc (by rw [Nat.sub_zero, hn, List.take_length]; exact hb) hcc hk he hd
  rw [Nat.sub_zero, hn, List.take_length] at h
  exact h

set_option maxRecDepth 10000 in
set_option maxHeartbeats 4000000 in
theorem rowPush (a1 a2 aa : Option Addr) (c1 c2 kd na ca u : Nat) (es : Es) (os : List Int) (w : World) (hs : StE w a1 c1 es a2 c2 os) (ho : os.length < 1000) (hA : Arg w aa na ca u) (hk : kd = 0) (hlt : es.length < 16) :
    Calls Takg.prog 52 #[.int .u8 0, .agg #[.slice a1 es.length c1, .slice a2 os.length c2], .agg #[.int .u8 kd, .slice aa na ca]] w fun e w' => Res w w' e (es.map (·.2) ++ [u]) os := by
  have HNO := hide (fun W (hW : Chg [] w W) => appended_any a2 c2 os (-2) W (by omega) hs.k2 (hs.cel2.chg0 hW))
  have HO := hide ho
  have HN16 := hide hs.n1
  have hn16 := hs.n1
  have hb1 := hs.b1
  have HD := hide (fun W (hW : Chg [] w W) => digits_any aa na ca u W (hA.chg hW))
  have HTK := hide (fun cap' W (hW : Chg [] w W) => taken_any aa na ca cap' u W (hA.chg hW))
  have HDU := hide (by have := dlen_le hA.lt; omega : dlen u ≤ 1024)
  have HS := hide (fun a' v W (hW : Chg [] w W) => stacked_zero a1 a' c1 v es W (by omega) hs.k1 hs.b1 hs.nil1 hs.som1 (hs.cel1.chg0 hW))
  obtain ⟨n, en⟩ : ∃ n, n = es.length := ⟨_, rfl⟩
  obtain ⟨m, em⟩ : ∃ n, n = os.length := ⟨_, rfl⟩
  rw [← en] at hn16 HN16 HS hlt ⊢
  rw [← em] at HNO ho  ⊢
  have HEN := hide en
  have HEM := hide em
  have HS0 := hide hs
  have HAA := hide hA
  have HK := hide hk
  clear en em hs ho hA hk
  go_enter Takg.func52, Takg.ntmps52
  go_upto_region 1 with (first | (refine wpList_box92 (by rfl) (.tmp 1) (by rfl) (.slice a1 n c1) (.slice a2 m c2) (by rfl) ?_; intro b4 wb hbb k4 cbb) | (refine wpList_box95 (by rfl) (.tmp 2) (by rfl) (.int .u8 kd) (.slice aa na ca) (by rfl) ?_; intro b5 wd hbd k5 cbd) | (refine wpList_new92 (by rfl) (by rfl) ?_; intro br wr hbr kbr cbr))
  have k5r := cbr.blk k5 (by simp)
  have k4d := cbd.blk k4 (by simp)
  have k4r := cbr.blk k4d (by simp)
  have cw := (cbb.trans cbd).trans cbr
  have n4r : b4 ≠ br := by have := k4d.lt; have := hbr.out; omega
  have n5r : b5 ≠ br := by have := k5.lt; have := hbr.out; omega
  have gr : w.heap.size ≤ br := by have := hbr.out; have := cbb.size; have := cbd.size; omega
  clear k4 k5 cbb cbr hbb hbr k4d cbd hbd
  simp only [Act.put, List.setIfInBounds_toArray, List.set_cons_zero, List.set_cons_succ]
  have f0 := k4r.cell 0 _ rfl
  go_upto_region 2 with fail
  clear f0
  go_cut [8] (fun v wc => ∃ bq bo, v = .pointer (some ⟨bq, 0, none⟩) ∧ Blk wc bq 92 [.slice a1 n c1, .slice (some ⟨bo, 0, none⟩) (m + 1) (m + 1)] ∧ bq ≠ br ∧ bo ≠ br ∧ Blk wc bo 62 (Ov (os ++ [-2])) ∧ Blk wc b4 92 [.slice a1 n c1, .slice a2 m c2] ∧ Blk wc b5 95 [.int .u8 kd, .slice aa na ca] ∧ (∃ (p : Option Addr × Nat × Nat) (q : Value), Blk wc br 92 [.slice p.1 p.2.1 p.2.2, q]) ∧ Chg [] w wc)
  case first =>
    refine wp_region_held_drew (S := fun w1 => Blk w1 b4 92 [.slice a1 n c1, .slice a2 m c2] ∧ Blk w1 b5 95 [.int .u8 kd, .slice aa na ca] ∧ (∃ (p : Option Addr × Nat × Nat) (q : Value), Blk w1 br 92 [.slice p.1 p.2.1 p.2.2, q]) ∧ Chg [] w w1 ∧ Ent w1 none 0) (by kernel_rfl) ⟨k4r.drew, k5r.drew, ⟨(none, 0, 0), _, kbr.drew⟩, cw.drew, Ent.zero _⟩ (fun hHeld => ?_)
    refine takeL 0 (v := ?_) rfl (by kernel_rfl) (by kernel_rfl) (by kernel_rfl) (fun _ _ _ h => h) (by rfl) ?_ hHeld ?_
    rotate_left
    · (intro w1 hSw; have f0 := hSw.1.cell 0 _ rfl; have f1 := hSw.1.cell 1 _ rfl; have f2 := hSw.2.1.cell 0 _ rfl; have f3 := hSw.2.1.cell 1 _ rfl; go_simp; try with_reducible rfl)
    simp only [Act.put, List.setIfInBounds_toArray, List.set_cons_zero, List.set_cons_succ]
    refine takeL 1 (v := ?_) rfl (by kernel_rfl) (by kernel_rfl) (by kernel_rfl) (fun _ _ _ h => h) (by rfl) ?_ hHeld ?_
    rotate_left
    · (intro w1 hSw; have f0 := hSw.1.cell 0 _ rfl; have f1 := hSw.1.cell 1 _ rfl; have f2 := hSw.2.1.cell 0 _ rfl; have f3 := hSw.2.1.cell 1 _ rfl; go_simp; try with_reducible rfl)
    simp only [Act.put, List.setIfInBounds_toArray, List.set_cons_zero, List.set_cons_succ]
    refine takeL 2 (v := ?_) rfl (by kernel_rfl) (by kernel_rfl) (by kernel_rfl) (fun _ _ _ h => h) (by rfl) ?_ hHeld ?_
    rotate_left
    · (intro w1 hSw; have f0 := hSw.1.cell 0 _ rfl; have f1 := hSw.1.cell 1 _ rfl; have f2 := hSw.2.1.cell 0 _ rfl; have f3 := hSw.2.1.cell 1 _ rfl; go_simp; try with_reducible rfl)
    simp only [Act.put, List.setIfInBounds_toArray, List.set_cons_zero, List.set_cons_succ]
    refine takeL 3 (v := ?_) rfl (by kernel_rfl) (by kernel_rfl) (by kernel_rfl) (fun _ _ _ h => h) (by rfl) ?_ hHeld ?_
    rotate_left
    · (intro w1 hSw; have f0 := hSw.1.cell 0 _ rfl; have f1 := hSw.1.cell 1 _ rfl; have f2 := hSw.2.1.cell 0 _ rfl; have f3 := hSw.2.1.cell 1 _ rfl; go_simp; try with_reducible rfl)
    simp only [Act.put, List.setIfInBounds_toArray, List.set_cons_zero, List.set_cons_succ]
    refine wpAnyH_ready (rs := [4, 6]) (by kernel_rfl) (by simp) ?_
    refine consL rfl rfl (fun K hK => ?_) ?_
    · go_simp
      refine (HNO.out _ hHeld.2.2.2.1).mono ?_
      rintro e wn ⟨bo, rfl, go, ko, hcn⟩
      have nor : bo ≠ br := by obtain ⟨p, q, hpq⟩ := hHeld.2.2.1; have := hpq.lt; omega
      have go : w.heap.size ≤ bo := Nat.le_trans hHeld.2.2.2.1.size go
      refine hK.out _ _ ⟨hcn.blk hHeld.1 (by simp), hcn.blk hHeld.2.1 (by simp), (by obtain ⟨p, q, hpq⟩ := hHeld.2.2.1; exact ⟨p, q, hcn.blk hpq (by simp)⟩), hHeld.2.2.2.1.trans hcn, hHeld.2.2.2.2.chg0 hcn⟩ (fun hHeld => ?_)
      clear hK K
      try simp only [Act.put, List.setIfInBounds_toArray, List.set_cons_zero, List.set_cons_succ, List.toList_toArray]
      clear hcn
      refine takeL 5 rfl (by kernel_rfl) (by kernel_rfl) (by kernel_rfl) (fun _ _ _ h => h) (by rfl) (fun w1 hSw => run_build92 (.tmp 13) (.tmp 16) rfl a1 n c1 (some ⟨bo, 0, none⟩) (m + 1) (m + 1) w1 rfl rfl) hHeld ?_
      simp only [Act.put, List.setIfInBounds_toArray, List.set_cons_zero, List.set_cons_succ]
      refine wpAnyH_ready (rs := [6]) (by kernel_rfl) (by simp) ?_
      refine consL rfl rfl (fun K hK => ?_) AllReadyH.nil
      have hsz := hHeld.2.2.2.1.size
      have lr := (by obtain ⟨p, q, hpq⟩ := hHeld.2.2.1; exact hpq.lt : br < _)
      have l4 := hHeld.1.lt
      have l5 := hHeld.2.1.lt
      refine wp_new92 rfl ?_
      intro bq wn hbq kq hcn
      have gq : w.heap.size ≤ bq := by have := hbq.out; omega
      have nqr : bq ≠ br := by have := hbq.out; omega
      have nq4 : b4 ≠ bq := by have := hbq.out; omega
      have nq5 : b5 ≠ bq := by have := hbq.out; omega
      have nq : bo ≠ bq := by have := hbq.out; have := ko.lt; omega
      have ko := hcn.blk ko (by simp)
      refine hK.out _ _ ⟨hcn.blk hHeld.1 (by simp), hcn.blk hHeld.2.1 (by simp), (by obtain ⟨p, q, hpq⟩ := hHeld.2.2.1; exact ⟨p, q, hcn.blk hpq (by simp)⟩), hHeld.2.2.2.1.trans hcn, hHeld.2.2.2.2.chg0 hcn⟩ (fun hHeld => ?_)
      clear hK K hsz lr l4 l5
      try simp only [Act.put, List.setIfInBounds_toArray, List.set_cons_zero, List.set_cons_succ, List.toList_toArray]
      refine wpAnyH_ready (rs := [7]) (by kernel_rfl) (by simp) ?_
      refine consL rfl rfl (fun K hK => ?_) AllReadyH.nil
      refine wp_store_mid 92 _ _ rfl bq 0 #[.slice a1 n c1, .slice (some ⟨bo, 0, none⟩) (m + 1) (m + 1)] rfl rfl (there2 kq) info92 (one92 rfl rfl) ?_
      have V0 := set2 (p' := (.slice a1 n c1)) (q' := (.slice (some ⟨bo, 0, none⟩) (m + 1) (m + 1))) kq
      have V1 := ne2 (b := bq) (p := (.slice a1 n c1)) (q := (.slice (some ⟨bo, 0, none⟩) (m + 1) (m + 1))) ko nq
      have V2 := ne2 (b := bq) (p := (.slice a1 n c1)) (q := (.slice (some ⟨bo, 0, none⟩) (m + 1) (m + 1))) hHeld.1 nq4
      have V2b := ne2 (b := bq) (p := (.slice a1 n c1)) (q := (.slice (some ⟨bo, 0, none⟩) (m + 1) (m + 1))) hHeld.2.1 nq5
      have V3 := chg2 (b := bq) (p := (.slice a1 n c1)) (q := (.slice (some ⟨bo, 0, none⟩) (m + 1) (m + 1))) hHeld.2.2.2.1 gq
      have V4 : (∃ (p : Option Addr × Nat × Nat) (q : Value), Blk (World.setCells wn bq 0 [(.slice a1 n c1), (.slice (some ⟨bo, 0, none⟩) (m + 1) (m + 1))]) br 92 [.slice p.1 p.2.1 p.2.2, q]) := by
        obtain ⟨p, q, hpq⟩ := hHeld.2.2.1
        exact ⟨p, q, ne2 (b := bq) hpq (Ne.symm nqr)⟩
      refine hK.out _ _ ⟨V2, V2b, V4, V3, Ent.zero _⟩ (fun hHeld => ?_)
      clear hK K
      try simp only [Act.put, List.setIfInBounds_toArray, List.set_cons_zero, List.set_cons_succ, List.toList_toArray]
      refine wpAnyH_done (by kernel_rfl) ?_ _
      go_wp2_with fail
      go_meet
      exact ⟨bq, bo, rfl, V0, nqr, nor, V1, V2, V2b, V4, V3⟩
    refine consL rfl rfl (fun K hK => ?_) AllReadyH.nil
    have hsz := hHeld.2.2.2.1.size
    have lr := (by obtain ⟨p, q, hpq⟩ := hHeld.2.2.1; exact hpq.lt : br < _)
    have l4 := hHeld.1.lt
    have l5 := hHeld.2.1.lt
    refine wp_new92 rfl ?_
    intro bq wn hbq kq hcn
    have gq : w.heap.size ≤ bq := by have := hbq.out; omega
    have nqr : bq ≠ br := by have := hbq.out; omega
    have nq4 : b4 ≠ bq := by have := hbq.out; omega
    have nq5 : b5 ≠ bq := by have := hbq.out; omega
    refine hK.out _ _ ⟨hcn.blk hHeld.1 (by simp), hcn.blk hHeld.2.1 (by simp), (by obtain ⟨p, q, hpq⟩ := hHeld.2.2.1; exact ⟨p, q, hcn.blk hpq (by simp)⟩), hHeld.2.2.2.1.trans hcn, hHeld.2.2.2.2.chg0 hcn⟩ (fun hHeld => ?_)
    clear hK K hsz lr l4 l5
    try simp only [Act.put, List.setIfInBounds_toArray, List.set_cons_zero, List.set_cons_succ, List.toList_toArray]
    refine wpAnyH_ready (rs := [4]) (by kernel_rfl) (by simp) ?_
    refine consL rfl rfl (fun K hK => ?_) AllReadyH.nil
    go_simp
    refine (HNO.out _ hHeld.2.2.2.1).mono ?_
    rintro e wn ⟨bo, rfl, go, ko, hcn⟩
    have nq : bo ≠ bq := by have := kq.lt; omega
    have kq := hcn.blk kq (by simp)
    have nor : bo ≠ br := by obtain ⟨p, q, hpq⟩ := hHeld.2.2.1; have := hpq.lt; omega
    have go : w.heap.size ≤ bo := Nat.le_trans hHeld.2.2.2.1.size go
    refine hK.out _ _ ⟨hcn.blk hHeld.1 (by simp), hcn.blk hHeld.2.1 (by simp), (by obtain ⟨p, q, hpq⟩ := hHeld.2.2.1; exact ⟨p, q, hcn.blk hpq (by simp)⟩), hHeld.2.2.2.1.trans hcn, hHeld.2.2.2.2.chg0 hcn⟩ (fun hHeld => ?_)
    clear hK K
    try simp only [Act.put, List.setIfInBounds_toArray, List.set_cons_zero, List.set_cons_succ, List.toList_toArray]
    clear hcn
    refine takeL 5 rfl (by kernel_rfl) (by kernel_rfl) (by kernel_rfl) (fun _ _ _ h => h) (by rfl) (fun w1 hSw => run_build92 (.tmp 13) (.tmp 16) rfl a1 n c1 (some ⟨bo, 0, none⟩) (m + 1) (m + 1) w1 rfl rfl) hHeld ?_
    simp only [Act.put, List.setIfInBounds_toArray, List.set_cons_zero, List.set_cons_succ]
    refine wpAnyH_ready (rs := [7]) (by kernel_rfl) (by simp) ?_
    refine consL rfl rfl (fun K hK => ?_) AllReadyH.nil
    refine wp_store_mid 92 _ _ rfl bq 0 #[.slice a1 n c1, .slice (some ⟨bo, 0, none⟩) (m + 1) (m + 1)] rfl rfl (there2 kq) info92 (one92 rfl rfl) ?_
    have V0 := set2 (p' := (.slice a1 n c1)) (q' := (.slice (some ⟨bo, 0, none⟩) (m + 1) (m + 1))) kq
    have V1 := ne2 (b := bq) (p := (.slice a1 n c1)) (q := (.slice (some ⟨bo, 0, none⟩) (m + 1) (m + 1))) ko nq
    have V2 := ne2 (b := bq) (p := (.slice a1 n c1)) (q := (.slice (some ⟨bo, 0, none⟩) (m + 1) (m + 1))) hHeld.1 nq4
    have V2b := ne2 (b := bq) (p := (.slice a1 n c1)) (q := (.slice (some ⟨bo, 0, none⟩) (m + 1) (m + 1))) hHeld.2.1 nq5
    have V3 := chg2 (b := bq) (p := (.slice a1 n c1)) (q := (.slice (some ⟨bo, 0, none⟩) (m + 1) (m + 1))) hHeld.2.2.2.1 gq
    have V4 : (∃ (p : Option Addr × Nat × Nat) (q : Value), Blk (World.setCells wn bq 0 [(.slice a1 n c1), (.slice (some ⟨bo, 0, none⟩) (m + 1) (m + 1))]) br 92 [.slice p.1 p.2.1 p.2.2, q]) := by
      obtain ⟨p, q, hpq⟩ := hHeld.2.2.1
      exact ⟨p, q, ne2 (b := bq) hpq (Ne.symm nqr)⟩
    refine hK.out _ _ ⟨V2, V2b, V4, V3, Ent.zero _⟩ (fun hHeld => ?_)
    clear hK K
    try simp only [Act.put, List.setIfInBounds_toArray, List.set_cons_zero, List.set_cons_succ, List.toList_toArray]
    refine wpAnyH_done (by kernel_rfl) ?_ _
    go_wp2_with fail
    go_meet
    exact ⟨bq, bo, rfl, V0, nqr, nor, V1, V2, V2b, V4, V3⟩
  case rest =>
    obtain ⟨bq, bo, rfl, kq, nqr, nor, ko, k4, k5, kr, cwA⟩ := hcut
    clear k4r k5r kbr cw
    have f0 := k4.cell 0 _ rfl
    have f1 := k4.cell 1 _ rfl
    have f2 := k5.cell 0 _ rfl
    have hk := HK.out
    have HNL := hide hlt
    go_upto_region 7 with fail
    clear f0 f1 f2
    refine wp_region_held_drew (S := fun w1 => Blk w1 b4 92 [.slice a1 n c1, .slice a2 m c2] ∧ Blk w1 b5 95 [.int .u8 kd, .slice aa na ca] ∧ (∃ (p : Option Addr × Nat × Nat) (q : Value), Blk w1 br 92 [.slice p.1 p.2.1 p.2.2, q]) ∧ Chg [] w w1 ∧ Ent w1 none 0) (by kernel_rfl) ⟨k4.drew, k5.drew, (by obtain ⟨p, q, hpq⟩ := kr; exact ⟨p, q, hpq.drew⟩), cwA.drew, (Ent.zero _).chg0 (Chg.refl [] _).drew⟩ (fun hHeld => ?_)
    clear k4 k5 kr cwA kq ko
    refine takeL 0 (v := ?_) rfl (by kernel_rfl) (by kernel_rfl) (by kernel_rfl) (fun _ _ _ h => h) (by rfl) ?_ hHeld ?_
    rotate_left
    · (intro w1 hSw; have f0 := hSw.1.cell 0 _ rfl; have f1 := hSw.1.cell 1 _ rfl; have f2 := hSw.2.1.cell 0 _ rfl; have f3 := hSw.2.1.cell 1 _ rfl; go_simp; try with_reducible rfl)
    simp only [Act.put, List.setIfInBounds_toArray, List.set_cons_zero, List.set_cons_succ]
    refine takeL 1 (v := ?_) rfl (by kernel_rfl) (by kernel_rfl) (by kernel_rfl) (fun _ _ _ h => h) (by rfl) ?_ hHeld ?_
    rotate_left
    · (intro w1 hSw; have f0 := hSw.1.cell 0 _ rfl; have f1 := hSw.1.cell 1 _ rfl; have f2 := hSw.2.1.cell 0 _ rfl; have f3 := hSw.2.1.cell 1 _ rfl; go_simp; try with_reducible rfl)
    simp only [Act.put, List.setIfInBounds_toArray, List.set_cons_zero, List.set_cons_succ]
    refine takeL 2 (v := ?_) rfl (by kernel_rfl) (by kernel_rfl) (by kernel_rfl) (fun _ _ _ h => h) (by rfl) ?_ hHeld ?_
    rotate_left
    · (intro w1 hSw; have f0 := hSw.1.cell 0 _ rfl; have f1 := hSw.1.cell 1 _ rfl; have f2 := hSw.2.1.cell 0 _ rfl; have f3 := hSw.2.1.cell 1 _ rfl; go_simp; try with_reducible rfl)
    simp only [Act.put, List.setIfInBounds_toArray, List.set_cons_zero, List.set_cons_succ]
    refine takeL 3 (v := ?_) rfl (by kernel_rfl) (by kernel_rfl) (by kernel_rfl) (fun _ _ _ h => h) (by rfl) ?_ hHeld ?_
    rotate_left
    · (intro w1 hSw; have f0 := hSw.1.cell 0 _ rfl; have f1 := hSw.1.cell 1 _ rfl; have f2 := hSw.2.1.cell 0 _ rfl; have f3 := hSw.2.1.cell 1 _ rfl; go_simp; try with_reducible rfl)
    simp only [Act.put, List.setIfInBounds_toArray, List.set_cons_zero, List.set_cons_succ]
    refine takeL 7 (v := ?_) rfl (by kernel_rfl) (by kernel_rfl) (by kernel_rfl) (fun _ _ _ h => h) (by rfl) ?_ hHeld ?_
    rotate_left
    · (intro w1 hSw; have f0 := hSw.1.cell 0 _ rfl; have f1 := hSw.1.cell 1 _ rfl; have f2 := hSw.2.1.cell 0 _ rfl; have f3 := hSw.2.1.cell 1 _ rfl; go_simp; try with_reducible rfl)
    simp only [Act.put, List.setIfInBounds_toArray, List.set_cons_zero, List.set_cons_succ]
    refine takeL 8 (v := ?_) rfl (by kernel_rfl) (by kernel_rfl) (by kernel_rfl) (fun _ _ _ h => h) (by rfl) ?_ hHeld ?_
    rotate_left
    · (intro w1 hSw; have f0 := hSw.1.cell 0 _ rfl; have f1 := hSw.1.cell 1 _ rfl; have f2 := hSw.2.1.cell 0 _ rfl; have f3 := hSw.2.1.cell 1 _ rfl; go_simp; try with_reducible rfl)
    simp only [Act.put, List.setIfInBounds_toArray, List.set_cons_zero, List.set_cons_succ]
    refine wpAnyH_ready (rs := [4]) (by kernel_rfl) (by simp) ?_
    refine consL rfl rfl (fun K hK => ?_) AllReadyH.nil
    go_simp
    refine (HD.out _ hHeld.2.2.2.1).mono ?_
    rintro e wn ⟨cap', rfl, q1, q2, q3, hcn⟩
    refine hK.out _ _ ⟨hcn.blk hHeld.1 (by simp), hcn.blk hHeld.2.1 (by simp), (by obtain ⟨p, q, hpq⟩ := hHeld.2.2.1; exact ⟨p, q, hcn.blk hpq (by simp)⟩), hHeld.2.2.2.1.trans hcn, hHeld.2.2.2.2.chg0 hcn⟩ (fun hHeld => ?_)
    clear hK K
    try simp only [Act.put, List.setIfInBounds_toArray, List.set_cons_zero, List.set_cons_succ, List.toList_toArray]
    clear hcn
    refine wpAnyH_ready (rs := [5]) (by kernel_rfl) (by simp) ?_
    refine consL rfl rfl (fun K hK => ?_) AllReadyH.nil
    go_simp
    refine (HTK.out cap' _ hHeld.2.2.2.1 q1 q2 q3).mono ?_
    rintro e wn ⟨a', rfl, hnew, hcn⟩
    have HNE : Hid (∀ b', a' = some ⟨b', 0, none⟩ → b' ∉ [br]) := fun b' hb' => by have := hnew.new b' hb'; obtain ⟨p, q, hpq⟩ := hHeld.2.2.1; have := hpq.lt; simp; omega
    have hE := hnew.ent
    refine hK.out _ _ ⟨hcn.blk hHeld.1 (by simp), hcn.blk hHeld.2.1 (by simp), (by obtain ⟨p, q, hpq⟩ := hHeld.2.2.1; exact ⟨p, q, hcn.blk hpq (by simp)⟩), hHeld.2.2.2.1.trans hcn, hHeld.2.2.2.2.chg0 hcn⟩ (fun hHeld => ?_)
    clear hK K
    try simp only [Act.put, List.setIfInBounds_toArray, List.set_cons_zero, List.set_cons_succ, List.toList_toArray]
    clear hcn
    refine wpAnyH_ready (rs := [6]) (by kernel_rfl) (by simp) ?_
    refine consL rfl rfl (fun K hK => ?_) AllReadyH.nil
    go_simp
    refine (HS.out a' u _ hHeld.2.2.2.1).mono ?_
    rintro e wn ⟨b, rfl, gb, kb, hcn⟩
    have nbr : b ≠ br := by obtain ⟨p, q, hpq⟩ := hHeld.2.2.1; have := hpq.lt; omega
    have hE := hE.chg0 hcn
    refine hK.out _ _ ⟨hcn.blk hHeld.1 (by simp), hcn.blk hHeld.2.1 (by simp), (by obtain ⟨p, q, hpq⟩ := hHeld.2.2.1; exact ⟨p, q, hcn.blk hpq (by simp)⟩), hHeld.2.2.2.1.trans hcn, hHeld.2.2.2.2.chg0 hcn⟩ (fun hHeld => ?_)
    clear hK K
    try simp only [Act.put, List.setIfInBounds_toArray, List.set_cons_zero, List.set_cons_succ, List.toList_toArray]
    clear hcn
    refine takeL 9 rfl (by kernel_rfl) (by kernel_rfl) (by kernel_rfl) (fun _ _ _ h => h) (by rfl) (fun w1 hSw => run_build92 (.tmp 31) (.tmp 33) rfl (some ⟨b, 0, none⟩) (n + 1) (n + 1) a2 m c2 w1 rfl rfl) hHeld ?_
    simp only [Act.put, List.setIfInBounds_toArray, List.set_cons_zero, List.set_cons_succ]
    obtain ⟨p, q, kr⟩ := hHeld.2.2.1
    refine wpAnyH_ready (rs := [10]) (by kernel_rfl) (by simp) ?_
    refine consL rfl rfl (fun K hK => ?_) AllReadyH.nil
    refine wp_store_mid 92 _ _ rfl br 0 #[(.slice (some ⟨b, 0, none⟩) (n + 1) (n + 1)), (.slice a2 m c2)] rfl rfl (there2 kr) info92 (one92 rfl rfl) ?_
    have V0 := set2 (p' := (.slice (some ⟨b, 0, none⟩) (n + 1) (n + 1))) (q' := (.slice a2 m c2)) kr
    have V2 := ne2 (b := br) (p := (.slice (some ⟨b, 0, none⟩) (n + 1) (n + 1))) (q := (.slice a2 m c2)) hHeld.1 n4r
    have V2b := ne2 (b := br) (p := (.slice (some ⟨b, 0, none⟩) (n + 1) (n + 1))) (q := (.slice a2 m c2)) hHeld.2.1 n5r
    have V3 := chg2 (b := br) (p := (.slice (some ⟨b, 0, none⟩) (n + 1) (n + 1))) (q := (.slice a2 m c2)) hHeld.2.2.2.1 gr
    have V5 := (Ent.zero (World.setCells wn br 0 [(.slice (some ⟨b, 0, none⟩) (n + 1) (n + 1)), (.slice a2 m c2)]))
    have V1 := ne2 (b := br) (p := (.slice (some ⟨b, 0, none⟩) (n + 1) (n + 1))) (q := (.slice a2 m c2)) kb nbr
    have V6 := hE.chg (chgBr (br := br) (p := (.slice (some ⟨b, 0, none⟩) (n + 1) (n + 1))) (q := (.slice a2 m c2))) HNE.out
    refine hK.out _ _ ⟨V2, V2b, ⟨((some ⟨b, 0, none⟩), (n + 1), (n + 1)), _, V0⟩, V3, V5⟩ (fun hHeld => ?_)
    clear hK K
    try simp only [Act.put, List.setIfInBounds_toArray, List.set_cons_zero, List.set_cons_succ, List.toList_toArray]
    generalize World.setCells _ br 0 [(.slice (some ⟨b, 0, none⟩) (n + 1) (n + 1)), (.slice a2 m c2)] = wz at *
    refine wpAnyH_done (by kernel_rfl) ?_ _
    go_wp2_with fail
    refine bodyPost_ret (results_cell (by rfl) _ _ _ br 0 (by rfl) [(.slice (some ⟨b, 0, none⟩) (n + 1) (n + 1)), (.slice a2 m c2)] _ (range2 V0) Takg.underlying92 (by rfl) info92) rfl ?_
    exact Res.push0 HEN.out HEM.out HS0.out V3 V1 rfl HNL.out V6 HDU.out

end Na
end Go.Proofs.Ygctak
