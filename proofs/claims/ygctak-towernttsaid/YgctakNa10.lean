/-
  law.rowOfTwo.
-/
import Derived.Test.YgctakNa9
namespace Go.Proofs.Ygctak
open Go.RowKit
set_option linter.unusedVariables false
set_option linter.unusedSimpArgs false
attribute [local go_sem ↓] Go.wp_at_zero Go.wp_at_succ
namespace Na

/-- What a row gives. -/
def Res (w w' : World) (e : Ending) (vs : List Nat) (os : List Int) : Prop :=
  ∃ a1 c1 es a2 c2, e = .returned (.agg #[.slice a1 es.length c1, .slice a2 os.length c2]) ∧ StE w' a1 c1 es a2 c2 os ∧ es.map (·.2) = vs ∧ Chg [] w w'
theorem Res.of {w w' : World} {a1 a2 : Option Addr} {n c1 m c2 : Nat} {es : Es} {os : List Int} {vs : List Nat} (hn : n = es.length) (hm : m = os.length) (hs : StE w' a1 c1 es a2 c2 os) (hv : es.map (·.2) = vs) (hc : Chg [] w w') :
    Res w w' (.returned (.agg #[.slice a1 n c1, .slice a2 m c2])) vs os := ⟨a1, c1, es, a2, c2, by rw [hn, hm], hs, hv, hc⟩
/-- Something more is put out. -/
theorem StE.out {w w' : World} {a1 a2 : Option Addr} {c1 c2 b c : Nat} {es : Es} {os : List Int} {v : Int} (h : StE w a1 c1 es a2 c2 os) (hc : Chg [] w w') (ho : os.length < 1000) (hb : Blk w' b 62 (Ov (os ++ [v]))) (hcc : c = os.length + 1) : StE w' a1 c1 es (some ⟨b, 0, none⟩) c (os ++ [v]) :=
  ⟨h.n1, h.k1, h.b1, h.nil1, h.som1, h.cel1.chg0 hc, fun e he => ⟨(h.ent e he).1.chg0 hc, (h.ent e he).2⟩, by simp; omega, by simp; omega, by omega, Cells.of hb, h.t1.chg0 hc, Ty.of hb⟩
/-- A new stack. -/
theorem StE.stack {w w' : World} {a1 a2 : Option Addr} {c1 c2 b c : Nat} {es es' : Es} {os : List Int} (h : StE w a1 c1 es a2 c2 os) (hc : Chg [] w w') (hl : es'.length ≤ 16) (hb : Blk w' b 83 (Sv es')) (hcc : c = es'.length) (he : ∀ e, e ∈ es' → e ∈ es ∨ (Ent w' e.1 e.2 ∧ dlen e.2 ≤ 1024)) : StE w' (some ⟨b, 0, none⟩) c es' a2 c2 os :=
  ⟨hl, by omega, by omega, (fun h => nomatch h), fun x hx => ⟨b, (Option.some.inj hx).symm⟩, Cells.of hb, fun e h1 => (he e h1).elim (fun h2 => ⟨(h.ent e h2).1.chg0 hc, (h.ent e h2).2⟩) id, h.n2, h.k2, h.b2, h.cel2.chg0 hc, Ty.of hb, h.t2.chg0 hc⟩
theorem Ent.zero (w : World) : Ent w none 0 := (New.zero w w).ent
/-- A stack with one new entry. -/
theorem Res.push {w w' : World} {a1 a2 a' : Option Addr} {c1 c2 b c n m k v : Nat} {es : Es} {os : List Int} (hn : n = es.length) (hm : m = os.length) (h : StE w a1 c1 es a2 c2 os) (hc : Chg [] w w') (hb : Blk w' b 83 (Sv (es.take (n - k) ++ [(a', v)]))) (hcc : c = n - k + 1) (hk : n - k < 16) (he : Ent w' a' v) (hd : dlen v ≤ 1024) :
    Res w w' (.returned (.agg #[.slice (some ⟨b, 0, none⟩) c c, .slice a2 m c2])) ((es.take (n - k)).map (·.2) ++ [v]) os := by
  refine Res.of (by simp; omega) hm (h.stack hc (by simp; omega) hb (by simp; omega) (fun e h1 => ?_)) (by simp) hc
  rw [List.mem_append] at h1
  rcases h1 with h1 | h1
  · exact .inl (List.mem_of_mem_take h1)
  · rw [List.mem_singleton] at h1
    subst h1
    exact .inr ⟨he, hd⟩
theorem stacked_two (a a' : Option Addr) (cap v : Nat) (es : Es) (w : World) (hl : es.length ≤ 5000) (hc : es.length ≤ cap) (hk : 2 ≤ es.length) (hc2 : cap ≤ 10000) (hnil : a = none → cap = 0) (hs : ∀ x, a = some x → ∃ b, x = ⟨b, 0, none⟩) (h : Cells w a (Sv es)) :
    Calls Takg.prog 90 #[.slice a es.length cap, .int .i64 2, .slice a' (dlen v) (dlen v)] w fun e w' => ∃ b, e = .returned (.slice (some ⟨b, 0, none⟩) (es.length - 2 + 1) (es.length - 2 + 1)) ∧ w.heap.size ≤ b ∧ Blk w' b 83 (Sv (es.take (es.length - 2) ++ [(a', v)])) ∧ Chg [] w w' :=
  stacked_any a a' cap 2 v es w hl hc hk (by omega) hnil hs h
theorem stacked_zero (a a' : Option Addr) (cap v : Nat) (es : Es) (w : World) (hl : es.length ≤ 5000) (hc : es.length ≤ cap) (hc2 : cap ≤ 10000) (hnil : a = none → cap = 0) (hs : ∀ x, a = some x → ∃ b, x = ⟨b, 0, none⟩) (h : Cells w a (Sv es)) :
    Calls Takg.prog 90 #[.slice a es.length cap, .int .i64 0, .slice a' (dlen v) (dlen v)] w fun e w' => ∃ b, e = .returned (.slice (some ⟨b, 0, none⟩) (es.length + 1) (es.length + 1)) ∧ w.heap.size ≤ b ∧ Blk w' b 83 (Sv (es ++ [(a', v)])) ∧ Chg [] w w' := by
  have h := stacked_any a a' cap 0 v es w hl hc (by omega) (by omega) hnil hs h
  simpa using h
theorem multipliedRow_two (a1 a2 b1 b2 : Option Addr) (c1 c2 x y : Nat) (es : Es) (os : List Int) (w : World) (hs : StE w a1 c1 es a2 c2 os) (hk : 2 ≤ es.length) (l1 : dlen x ≤ 5000) (l2 : dlen y ≤ 5000) (h1 : Ent w b1 x) (h2 : Ent w b2 y) :
    Calls Takg.prog 91 #[.int .u8 0, .agg #[.slice a1 es.length c1, .slice a2 os.length c2], .int .i64 2, .slice b1 (dlen x) (dlen x), .slice b2 (dlen y) (dlen y)] w fun e w' =>
      ∃ b a', e = .returned (.agg #[.slice (some ⟨b, 0, none⟩) (es.length - 2 + 1) (es.length - 2 + 1), .slice a2 os.length c2]) ∧ Blk w' b 83 (Sv (es.take (es.length - 2) ++ [(a', x * y)])) ∧ Ent w' a' (x * y) ∧ Chg [] w w' :=
  multipliedRow_any a1 a2 b1 b2 c1 c2 2 x y es os w hs hk l1 l2 h1 h2
theorem Ent.lt {w : World} {a : Option Addr} {v b : Nat} (h : Ent w a v) (ha : a = some ⟨b, 0, none⟩) : b < w.heap.size := by
  rcases Nat.eq_zero_or_pos v with h0 | h0
  · rw [h.nil h0] at ha; cases ha
  · obtain ⟨b', h1, h2⟩ := h.som h0
    rw [h1] at ha
    cases ha
    exact h2.lt
theorem Ent.keep {w w1 w2 : World} {a : Option Addr} {v br : Nat} (h : Ent w a v) (hc : Chg [br] w1 w2) (hw : Chg [] w w1) (hb : w.heap.size ≤ br) : Ent w2 a v :=
  (h.chg0 hw).chg hc (fun b hb' => by have := h.lt hb'; simp; omega)

set_option maxRecDepth 10000 in
set_option maxHeartbeats 1000000 in
theorem rowCmp (a1 a2 b1 b2 : Option Addr) (c1 c2 x y : Nat) (es : Es) (os : List Int) (w : World) (hs : StE w a1 c1 es a2 c2 os) (hn : 2 ≤ es.length) (ho : os.length < 1000) (l1 : dlen x ≤ 1024) (l2 : dlen y ≤ 1024) (h1 : Ent w b1 x) (h2 : Ent w b2 y) :
    Calls Takg.prog 92 #[.int .u8 0, .agg #[.slice a1 es.length c1, .slice a2 os.length c2], .int .u8 5, .slice b1 (dlen x) (dlen x), .slice b2 (dlen y) (dlen y)] w fun e w' => Res w w' e (es.map (·.2)) (os ++ [cmpN x y]) := by
  have HNO := hide (fun W (hW : Chg [] w W) => appended_any a2 c2 os (-2) W (by omega) hs.k2 (hs.cel2.chg0 hW))
  have HO := hide ho
  have HN16 := hide hs.n1
  have HC := hide (fun W (hW : Chg [] w W) => Cmp_any b1 b2 x y W (by omega) (by omega) (h1.chg0 hW) (h2.chg0 hW))
  have HA := hide (fun W (hW : Chg [] w W) => appended_any a2 c2 os (cmpN x y) W (by omega) hs.k2 (hs.cel2.chg0 hW))
  obtain ⟨n, en⟩ : ∃ n, n = es.length := ⟨_, rfl⟩
  obtain ⟨m, em⟩ : ∃ n, n = os.length := ⟨_, rfl⟩
  rw [← en] at hn HN16  ⊢
  rw [← em] at HNO ho HA ⊢
  have HEN := hide en
  have HEM := hide em
  have HS0 := hide hs
  have H1 := hide h1
  have H2 := hide h2
  have HN := hide hn
  clear en em hs h1 h2 ho
  go_enter Takg.func92, Takg.ntmps92
  go_upto_region 1 with (first | (refine wpList_box92 (by rfl) (.tmp 1) (by rfl) (.slice a1 n c1) (.slice a2 m c2) (by rfl) ?_; intro b6 wb hbb k6 cbb) | (refine wpList_new92 (by rfl) (by rfl) ?_; intro br wr hbr kbr cbr))
  have k6r := cbr.blk k6 (by simp)
  have cw := cbb.trans cbr
  have n6r : b6 ≠ br := by have := k6.lt; have := hbr.out; omega
  have g6 : w.heap.size ≤ b6 := by have := hbb.out; omega
  have gr : w.heap.size ≤ br := by have := hbr.out; have := cbb.size; omega
  clear k6 cbb cbr hbb hbr
  simp only [Act.put, List.setIfInBounds_toArray, List.set_cons_zero, List.set_cons_succ]
  go_cut [11] (fun v wc => ∃ bq bo, v = .pointer (some ⟨bq, 0, none⟩) ∧ Blk wc bq 92 [.slice a1 n c1, .slice (some ⟨bo, 0, none⟩) (m + 1) (m + 1)] ∧ bq ≠ br ∧ bo ≠ br ∧ Blk wc bo 62 (Ov (os ++ [-2])) ∧ Blk wc b6 92 [.slice a1 n c1, .slice a2 m c2] ∧ (∃ (p : Option Addr × Nat × Nat) (q : Value), Blk wc br 92 [.slice p.1 p.2.1 p.2.2, q]) ∧ Chg [] w wc)
  case first =>
    refine wp_region_held_drew (S := fun w1 => Blk w1 b6 92 [.slice a1 n c1, .slice a2 m c2] ∧ (∃ (p : Option Addr × Nat × Nat) (q : Value), Blk w1 br 92 [.slice p.1 p.2.1 p.2.2, q]) ∧ Chg [] w w1 ∧ Ent w1 none 0) (by kernel_rfl) ⟨k6r.drew, ⟨(none, 0, 0), _, kbr.drew⟩, cw.drew, Ent.zero _⟩ (fun hHeld => ?_)
    refine takeL 0 (v := ?_) rfl (by kernel_rfl) (by kernel_rfl) (by kernel_rfl) (fun _ _ _ h => h) (by rfl) ?_ hHeld ?_
    rotate_left
    · (intro w1 hSw; have f0 := hSw.1.cell 0 _ rfl; have f1 := hSw.1.cell 1 _ rfl; go_simp; try with_reducible rfl)
    simp only [Act.put, List.setIfInBounds_toArray, List.set_cons_zero, List.set_cons_succ]
    refine takeL 1 (v := ?_) rfl (by kernel_rfl) (by kernel_rfl) (by kernel_rfl) (fun _ _ _ h => h) (by rfl) ?_ hHeld ?_
    rotate_left
    · (intro w1 hSw; have f0 := hSw.1.cell 0 _ rfl; have f1 := hSw.1.cell 1 _ rfl; go_simp; try with_reducible rfl)
    simp only [Act.put, List.setIfInBounds_toArray, List.set_cons_zero, List.set_cons_succ]
    refine takeL 2 (v := ?_) rfl (by kernel_rfl) (by kernel_rfl) (by kernel_rfl) (fun _ _ _ h => h) (by rfl) ?_ hHeld ?_
    rotate_left
    · (intro w1 hSw; have f0 := hSw.1.cell 0 _ rfl; have f1 := hSw.1.cell 1 _ rfl; go_simp; try with_reducible rfl)
    simp only [Act.put, List.setIfInBounds_toArray, List.set_cons_zero, List.set_cons_succ]
    refine takeL 3 (v := ?_) rfl (by kernel_rfl) (by kernel_rfl) (by kernel_rfl) (fun _ _ _ h => h) (by rfl) ?_ hHeld ?_
    rotate_left
    · (intro w1 hSw; have f0 := hSw.1.cell 0 _ rfl; have f1 := hSw.1.cell 1 _ rfl; go_simp; try with_reducible rfl)
    simp only [Act.put, List.setIfInBounds_toArray, List.set_cons_zero, List.set_cons_succ]
    refine wpAnyH_ready (rs := [4, 6]) (by kernel_rfl) (by simp) ?_
    refine consL rfl rfl (fun K hK => ?_) ?_
    · go_simp
      refine (HNO.out _ hHeld.2.2.1).mono ?_
      rintro e wn ⟨bo, rfl, go, ko, hcn⟩
      have nor : bo ≠ br := by obtain ⟨p, q, hpq⟩ := hHeld.2.1; have := hpq.lt; omega
      have go : w.heap.size ≤ bo := Nat.le_trans hHeld.2.2.1.size go
      refine hK.out _ _ ⟨hcn.blk hHeld.1 (by simp), (by obtain ⟨p, q, hpq⟩ := hHeld.2.1; exact ⟨p, q, hcn.blk hpq (by simp)⟩), hHeld.2.2.1.trans hcn, hHeld.2.2.2.chg0 hcn⟩ (fun hHeld => ?_)
      clear hK K
      try simp only [Act.put, List.setIfInBounds_toArray, List.set_cons_zero, List.set_cons_succ, List.toList_toArray]
      clear hcn
      refine takeL 5 rfl (by kernel_rfl) (by kernel_rfl) (by kernel_rfl) (fun _ _ _ h => h) (by rfl) (fun w1 hSw => run_build92 (.tmp 16) (.tmp 19) rfl a1 n c1 (some ⟨bo, 0, none⟩) (m + 1) (m + 1) w1 rfl rfl) hHeld ?_
      simp only [Act.put, List.setIfInBounds_toArray, List.set_cons_zero, List.set_cons_succ]
      refine wpAnyH_ready (rs := [6]) (by kernel_rfl) (by simp) ?_
      refine consL rfl rfl (fun K hK => ?_) AllReadyH.nil
      have hsz := hHeld.2.2.1.size
      have lr := (by obtain ⟨p, q, hpq⟩ := hHeld.2.1; exact hpq.lt : br < _)
      have l6 := hHeld.1.lt
      refine wp_new92 rfl ?_
      intro bq wn hbq kq hcn
      have gq : w.heap.size ≤ bq := by have := hbq.out; omega
      have nqr : bq ≠ br := by have := hbq.out; omega
      have nq6 : b6 ≠ bq := by have := hbq.out; omega
      have nq : bo ≠ bq := by have := hbq.out; have := ko.lt; omega
      have ko := hcn.blk ko (by simp)
      refine hK.out _ _ ⟨hcn.blk hHeld.1 (by simp), (by obtain ⟨p, q, hpq⟩ := hHeld.2.1; exact ⟨p, q, hcn.blk hpq (by simp)⟩), hHeld.2.2.1.trans hcn, hHeld.2.2.2.chg0 hcn⟩ (fun hHeld => ?_)
      clear hK K hsz lr l6
      try simp only [Act.put, List.setIfInBounds_toArray, List.set_cons_zero, List.set_cons_succ, List.toList_toArray]
      refine wpAnyH_ready (rs := [7]) (by kernel_rfl) (by simp) ?_
      refine consL rfl rfl (fun K hK => ?_) AllReadyH.nil
      refine wp_store_mid 92 _ _ rfl bq 0 #[.slice a1 n c1, .slice (some ⟨bo, 0, none⟩) (m + 1) (m + 1)] rfl rfl (there2 kq) info92 (one92 rfl rfl) ?_
      have V0 := set2 (p' := (.slice a1 n c1)) (q' := (.slice (some ⟨bo, 0, none⟩) (m + 1) (m + 1))) kq
      have V1 := ne2 (b := bq) (p := (.slice a1 n c1)) (q := (.slice (some ⟨bo, 0, none⟩) (m + 1) (m + 1))) ko nq
      have V2 := ne2 (b := bq) (p := (.slice a1 n c1)) (q := (.slice (some ⟨bo, 0, none⟩) (m + 1) (m + 1))) hHeld.1 nq6
      have V3 := chg2 (b := bq) (p := (.slice a1 n c1)) (q := (.slice (some ⟨bo, 0, none⟩) (m + 1) (m + 1))) hHeld.2.2.1 gq
      have V4 : ∃ (p : Option Addr × Nat × Nat) (q : Value), Blk (World.setCells wn bq 0 [(.slice a1 n c1), (.slice (some ⟨bo, 0, none⟩) (m + 1) (m + 1))]) br 92 [.slice p.1 p.2.1 p.2.2, q] := by
        obtain ⟨p, q, hpq⟩ := hHeld.2.1
        exact ⟨p, q, ne2 (b := bq) hpq (Ne.symm nqr)⟩
      refine hK.out _ _ ⟨V2, V4, V3, Ent.zero _⟩ (fun hHeld => ?_)
      clear hK K
      try simp only [Act.put, List.setIfInBounds_toArray, List.set_cons_zero, List.set_cons_succ, List.toList_toArray]
      refine wpAnyH_done (by kernel_rfl) ?_ _
      go_wp2_with fail
      go_meet
      exact ⟨bq, bo, rfl, V0, nqr, nor, V1, V2, V4, V3⟩
    refine consL rfl rfl (fun K hK => ?_) AllReadyH.nil
    have hsz := hHeld.2.2.1.size
    have lr := (by obtain ⟨p, q, hpq⟩ := hHeld.2.1; exact hpq.lt : br < _)
    have l6 := hHeld.1.lt
    refine wp_new92 rfl ?_
    intro bq wn hbq kq hcn
    have gq : w.heap.size ≤ bq := by have := hbq.out; omega
    have nqr : bq ≠ br := by have := hbq.out; omega
    have nq6 : b6 ≠ bq := by have := hbq.out; omega
    refine hK.out _ _ ⟨hcn.blk hHeld.1 (by simp), (by obtain ⟨p, q, hpq⟩ := hHeld.2.1; exact ⟨p, q, hcn.blk hpq (by simp)⟩), hHeld.2.2.1.trans hcn, hHeld.2.2.2.chg0 hcn⟩ (fun hHeld => ?_)
    clear hK K hsz lr l6
    try simp only [Act.put, List.setIfInBounds_toArray, List.set_cons_zero, List.set_cons_succ, List.toList_toArray]
    refine wpAnyH_ready (rs := [4]) (by kernel_rfl) (by simp) ?_
    refine consL rfl rfl (fun K hK => ?_) AllReadyH.nil
    go_simp
    refine (HNO.out _ hHeld.2.2.1).mono ?_
    rintro e wn ⟨bo, rfl, go, ko, hcn⟩
    have nq : bo ≠ bq := by have := kq.lt; omega
    have kq := hcn.blk kq (by simp)
    have nor : bo ≠ br := by obtain ⟨p, q, hpq⟩ := hHeld.2.1; have := hpq.lt; omega
    have go : w.heap.size ≤ bo := Nat.le_trans hHeld.2.2.1.size go
    refine hK.out _ _ ⟨hcn.blk hHeld.1 (by simp), (by obtain ⟨p, q, hpq⟩ := hHeld.2.1; exact ⟨p, q, hcn.blk hpq (by simp)⟩), hHeld.2.2.1.trans hcn, hHeld.2.2.2.chg0 hcn⟩ (fun hHeld => ?_)
    clear hK K
    try simp only [Act.put, List.setIfInBounds_toArray, List.set_cons_zero, List.set_cons_succ, List.toList_toArray]
    clear hcn
    refine takeL 5 rfl (by kernel_rfl) (by kernel_rfl) (by kernel_rfl) (fun _ _ _ h => h) (by rfl) (fun w1 hSw => run_build92 (.tmp 16) (.tmp 19) rfl a1 n c1 (some ⟨bo, 0, none⟩) (m + 1) (m + 1) w1 rfl rfl) hHeld ?_
    simp only [Act.put, List.setIfInBounds_toArray, List.set_cons_zero, List.set_cons_succ]
    refine wpAnyH_ready (rs := [7]) (by kernel_rfl) (by simp) ?_
    refine consL rfl rfl (fun K hK => ?_) AllReadyH.nil
    refine wp_store_mid 92 _ _ rfl bq 0 #[.slice a1 n c1, .slice (some ⟨bo, 0, none⟩) (m + 1) (m + 1)] rfl rfl (there2 kq) info92 (one92 rfl rfl) ?_
    have V0 := set2 (p' := (.slice a1 n c1)) (q' := (.slice (some ⟨bo, 0, none⟩) (m + 1) (m + 1))) kq
    have V1 := ne2 (b := bq) (p := (.slice a1 n c1)) (q := (.slice (some ⟨bo, 0, none⟩) (m + 1) (m + 1))) ko nq
    have V2 := ne2 (b := bq) (p := (.slice a1 n c1)) (q := (.slice (some ⟨bo, 0, none⟩) (m + 1) (m + 1))) hHeld.1 nq6
    have V3 := chg2 (b := bq) (p := (.slice a1 n c1)) (q := (.slice (some ⟨bo, 0, none⟩) (m + 1) (m + 1))) hHeld.2.2.1 gq
    have V4 : ∃ (p : Option Addr × Nat × Nat) (q : Value), Blk (World.setCells wn bq 0 [(.slice a1 n c1), (.slice (some ⟨bo, 0, none⟩) (m + 1) (m + 1))]) br 92 [.slice p.1 p.2.1 p.2.2, q] := by
      obtain ⟨p, q, hpq⟩ := hHeld.2.1
      exact ⟨p, q, ne2 (b := bq) hpq (Ne.symm nqr)⟩
    refine hK.out _ _ ⟨V2, V4, V3, Ent.zero _⟩ (fun hHeld => ?_)
    clear hK K
    try simp only [Act.put, List.setIfInBounds_toArray, List.set_cons_zero, List.set_cons_succ, List.toList_toArray]
    refine wpAnyH_done (by kernel_rfl) ?_ _
    go_wp2_with fail
    go_meet
    exact ⟨bq, bo, rfl, V0, nqr, nor, V1, V2, V4, V3⟩
  case rest =>
    obtain ⟨bq, bo, rfl, kq, nqr, nor, ko, k6, kr, cwA⟩ := hcut
    clear k6r kbr cw
    have HNE : Hid (∀ b', (none : Option Addr) = some ⟨b', 0, none⟩ → b' ∉ [br]) := fun b' hb' => nomatch hb'
    go_upto_region 18 with fail
    refine wp_region_held_drew (S := fun w1 => Blk w1 b6 92 [.slice a1 n c1, .slice a2 m c2] ∧ (∃ (p : Option Addr × Nat × Nat) (q : Value), Blk w1 br 92 [.slice p.1 p.2.1 p.2.2, q]) ∧ Chg [] w w1 ∧ Ent w1 none 0) (by kernel_rfl) ⟨k6.drew, (by obtain ⟨p, q, hpq⟩ := kr; exact ⟨p, q, hpq.drew⟩), cwA.drew, (Ent.zero _).chg0 (Chg.refl [] _).drew⟩ (fun hHeld => ?_)
    clear k6 kr cwA kq ko
    refine takeL 0 (v := ?_) rfl (by kernel_rfl) (by kernel_rfl) (by kernel_rfl) (fun _ _ _ h => h) (by rfl) ?_ hHeld ?_
    rotate_left
    · (intro w1 hSw; have f0 := hSw.1.cell 0 _ rfl; have f1 := hSw.1.cell 1 _ rfl; go_simp; try with_reducible rfl)
    simp only [Act.put, List.setIfInBounds_toArray, List.set_cons_zero, List.set_cons_succ]
    refine takeL 1 (v := ?_) rfl (by kernel_rfl) (by kernel_rfl) (by kernel_rfl) (fun _ _ _ h => h) (by rfl) ?_ hHeld ?_
    rotate_left
    · (intro w1 hSw; have f0 := hSw.1.cell 0 _ rfl; have f1 := hSw.1.cell 1 _ rfl; go_simp; try with_reducible rfl)
    simp only [Act.put, List.setIfInBounds_toArray, List.set_cons_zero, List.set_cons_succ]
    refine takeL 2 (v := ?_) rfl (by kernel_rfl) (by kernel_rfl) (by kernel_rfl) (fun _ _ _ h => h) (by rfl) ?_ hHeld ?_
    rotate_left
    · (intro w1 hSw; have f0 := hSw.1.cell 0 _ rfl; have f1 := hSw.1.cell 1 _ rfl; go_simp; try with_reducible rfl)
    simp only [Act.put, List.setIfInBounds_toArray, List.set_cons_zero, List.set_cons_succ]
    refine takeL 3 (v := ?_) rfl (by kernel_rfl) (by kernel_rfl) (by kernel_rfl) (fun _ _ _ h => h) (by rfl) ?_ hHeld ?_
    rotate_left
    · (intro w1 hSw; have f0 := hSw.1.cell 0 _ rfl; have f1 := hSw.1.cell 1 _ rfl; go_simp; try with_reducible rfl)
    simp only [Act.put, List.setIfInBounds_toArray, List.set_cons_zero, List.set_cons_succ]
    refine takeL 4 (v := ?_) rfl (by kernel_rfl) (by kernel_rfl) (by kernel_rfl) (fun _ _ _ h => h) (by rfl) ?_ hHeld ?_
    rotate_left
    · (intro w1 hSw; have f0 := hSw.1.cell 0 _ rfl; have f1 := hSw.1.cell 1 _ rfl; go_simp; try with_reducible rfl)
    simp only [Act.put, List.setIfInBounds_toArray, List.set_cons_zero, List.set_cons_succ]
    refine takeL 5 (v := ?_) rfl (by kernel_rfl) (by kernel_rfl) (by kernel_rfl) (fun _ _ _ h => h) (by rfl) ?_ hHeld ?_
    rotate_left
    · (intro w1 hSw; have f0 := hSw.1.cell 0 _ rfl; have f1 := hSw.1.cell 1 _ rfl; go_simp; try with_reducible rfl)
    simp only [Act.put, List.setIfInBounds_toArray, List.set_cons_zero, List.set_cons_succ]
    refine wpAnyH_ready (rs := [6]) (by kernel_rfl) (by simp) ?_
    refine consL rfl rfl (fun K hK => ?_) AllReadyH.nil
    go_simp
    refine (HC.out _ hHeld.2.2.1).mono ?_
    rintro e wn ⟨rfl, hcn⟩
    refine hK.out _ _ ⟨hcn.blk hHeld.1 (by simp), (by obtain ⟨p, q, hpq⟩ := hHeld.2.1; exact ⟨p, q, hcn.blk hpq (by simp)⟩), hHeld.2.2.1.trans hcn, hHeld.2.2.2.chg0 hcn⟩ (fun hHeld => ?_)
    clear hK K
    try simp only [Act.put, List.setIfInBounds_toArray, List.set_cons_zero, List.set_cons_succ, List.toList_toArray]
    clear hcn
    refine wpAnyH_ready (rs := [7]) (by kernel_rfl) (by simp) ?_
    refine consL rfl rfl (fun K hK => ?_) AllReadyH.nil
    go_simp
    refine (HA.out _ hHeld.2.2.1).mono ?_
    rintro e wn ⟨bs, rfl, gs, ks, hcn⟩
    have nsr : bs ≠ br := by obtain ⟨p, q, hpq⟩ := hHeld.2.1; have := hpq.lt; omega
    refine hK.out _ _ ⟨hcn.blk hHeld.1 (by simp), (by obtain ⟨p, q, hpq⟩ := hHeld.2.1; exact ⟨p, q, hcn.blk hpq (by simp)⟩), hHeld.2.2.1.trans hcn, hHeld.2.2.2.chg0 hcn⟩ (fun hHeld => ?_)
    clear hK K
    try simp only [Act.put, List.setIfInBounds_toArray, List.set_cons_zero, List.set_cons_succ, List.toList_toArray]
    clear hcn
    refine takeL 8 rfl (by kernel_rfl) (by kernel_rfl) (by kernel_rfl) (fun _ _ _ h => h) (by rfl) (fun w1 hSw => run_build92 (.tmp 81) (.tmp 87) rfl a1 n c1 (some ⟨bs, 0, none⟩) (m + 1) (m + 1) w1 rfl rfl) hHeld ?_
    simp only [Act.put, List.setIfInBounds_toArray, List.set_cons_zero, List.set_cons_succ]
    obtain ⟨p, q, kr⟩ := hHeld.2.1
    refine wpAnyH_ready (rs := [9]) (by kernel_rfl) (by simp) ?_
    refine consL rfl rfl (fun K hK => ?_) AllReadyH.nil
    refine wp_store_mid 92 _ _ rfl br 0 #[(.slice a1 n c1), (.slice (some ⟨bs, 0, none⟩) (m + 1) (m + 1))] rfl rfl (there2 kr) info92 (one92 rfl rfl) ?_
    have V0 := set2 (p' := (.slice a1 n c1)) (q' := (.slice (some ⟨bs, 0, none⟩) (m + 1) (m + 1))) kr
    have V2 := ne2 (b := br) (p := (.slice a1 n c1)) (q := (.slice (some ⟨bs, 0, none⟩) (m + 1) (m + 1))) hHeld.1 n6r
    have V3 := chg2 (b := br) (p := (.slice a1 n c1)) (q := (.slice (some ⟨bs, 0, none⟩) (m + 1) (m + 1))) hHeld.2.2.1 gr
    have V4 : Chg [br] wn (wn.setCells br 0 [(.slice a1 n c1), (.slice (some ⟨bs, 0, none⟩) (m + 1) (m + 1))]) := ((Chg.refl [br] wn).setCell ⟨br, 0, none⟩ (by simp) (.slice a1 n c1)).setCell ⟨br, 0 + 1, none⟩ (by simp) (.slice (some ⟨bs, 0, none⟩) (m + 1) (m + 1))
    have V5 := hHeld.2.2.2.chg V4 HNE.out
    have V1 := ne2 (b := br) (p := (.slice a1 n c1)) (q := (.slice (some ⟨bs, 0, none⟩) (m + 1) (m + 1))) ks nsr
    refine hK.out _ _ ⟨V2, ⟨(a1, n, c1), _, V0⟩, V3, V5⟩ (fun hHeld => ?_)
    clear hK K
    try simp only [Act.put, List.setIfInBounds_toArray, List.set_cons_zero, List.set_cons_succ, List.toList_toArray]
    generalize wn.setCells br 0 [(.slice a1 n c1), (.slice (some ⟨bs, 0, none⟩) (m + 1) (m + 1))] = wz at *
    refine wpAnyH_done (by kernel_rfl) ?_ _
    go_wp2_with fail
    refine bodyPost_ret (results_cell (by rfl) _ _ _ br 0 (by rfl) [(.slice a1 n c1), (.slice (some ⟨bs, 0, none⟩) (m + 1) (m + 1))] _ (range2 V0) Takg.underlying92 (by rfl) info92) rfl ?_
    exact Res.of HEN.out (by simp [HEM.out]) (HS0.out.out V3 HO.out V1 (by rw [HEM.out])) rfl V3

set_option maxRecDepth 10000 in
set_option maxHeartbeats 1000000 in
theorem rowMulNo (a1 a2 b1 b2 : Option Addr) (c1 c2 x y : Nat) (es : Es) (os : List Int) (w : World) (hs : StE w a1 c1 es a2 c2 os) (hn : 2 ≤ es.length) (ho : os.length < 1000) (l1 : dlen x ≤ 1024) (l2 : dlen y ≤ 1024) (h1 : Ent w b1 x) (h2 : Ent w b2 y) (hd : 512 < dlen x ∨ 512 < dlen y) :
    Calls Takg.prog 92 #[.int .u8 0, .agg #[.slice a1 es.length c1, .slice a2 os.length c2], .int .u8 1, .slice b1 (dlen x) (dlen x), .slice b2 (dlen y) (dlen y)] w fun e w' => Res w w' e (es.map (·.2)) (os ++ [-2]) := by
  have HNO := hide (fun W (hW : Chg [] w W) => appended_any a2 c2 os (-2) W (by omega) hs.k2 (hs.cel2.chg0 hW))
  have HO := hide ho
  have HN16 := hide hs.n1
  obtain ⟨n, en⟩ : ∃ n, n = es.length := ⟨_, rfl⟩
  obtain ⟨m, em⟩ : ∃ n, n = os.length := ⟨_, rfl⟩
  rw [← en] at hn HN16  ⊢
  rw [← em] at HNO ho  ⊢
  have HEN := hide en
  have HEM := hide em
  have HS0 := hide hs
  have H1 := hide h1
  have H2 := hide h2
  have HN := hide hn
  clear en em hs h1 h2 ho
  go_enter Takg.func92, Takg.ntmps92
  go_upto_region 1 with (first | (refine wpList_box92 (by rfl) (.tmp 1) (by rfl) (.slice a1 n c1) (.slice a2 m c2) (by rfl) ?_; intro b6 wb hbb k6 cbb) | (refine wpList_new92 (by rfl) (by rfl) ?_; intro br wr hbr kbr cbr))
  have k6r := cbr.blk k6 (by simp)
  have cw := cbb.trans cbr
  have n6r : b6 ≠ br := by have := k6.lt; have := hbr.out; omega
  have g6 : w.heap.size ≤ b6 := by have := hbb.out; omega
  have gr : w.heap.size ≤ br := by have := hbr.out; have := cbb.size; omega
  clear k6 cbb cbr hbb hbr
  simp only [Act.put, List.setIfInBounds_toArray, List.set_cons_zero, List.set_cons_succ]
  go_cut [11] (fun v wc => ∃ bq bo, v = .pointer (some ⟨bq, 0, none⟩) ∧ Blk wc bq 92 [.slice a1 n c1, .slice (some ⟨bo, 0, none⟩) (m + 1) (m + 1)] ∧ bq ≠ br ∧ bo ≠ br ∧ Blk wc bo 62 (Ov (os ++ [-2])) ∧ Blk wc b6 92 [.slice a1 n c1, .slice a2 m c2] ∧ (∃ (p : Option Addr × Nat × Nat) (q : Value), Blk wc br 92 [.slice p.1 p.2.1 p.2.2, q]) ∧ Chg [] w wc)
  case first =>
    refine wp_region_held_drew (S := fun w1 => Blk w1 b6 92 [.slice a1 n c1, .slice a2 m c2] ∧ (∃ (p : Option Addr × Nat × Nat) (q : Value), Blk w1 br 92 [.slice p.1 p.2.1 p.2.2, q]) ∧ Chg [] w w1 ∧ Ent w1 none 0) (by kernel_rfl) ⟨k6r.drew, ⟨(none, 0, 0), _, kbr.drew⟩, cw.drew, Ent.zero _⟩ (fun hHeld => ?_)
    refine takeL 0 (v := ?_) rfl (by kernel_rfl) (by kernel_rfl) (by kernel_rfl) (fun _ _ _ h => h) (by rfl) ?_ hHeld ?_
    rotate_left
    · (intro w1 hSw; have f0 := hSw.1.cell 0 _ rfl; have f1 := hSw.1.cell 1 _ rfl; go_simp; try with_reducible rfl)
    simp only [Act.put, List.setIfInBounds_toArray, List.set_cons_zero, List.set_cons_succ]
    refine takeL 1 (v := ?_) rfl (by kernel_rfl) (by kernel_rfl) (by kernel_rfl) (fun _ _ _ h => h) (by rfl) ?_ hHeld ?_
    rotate_left
    · (intro w1 hSw; have f0 := hSw.1.cell 0 _ rfl; have f1 := hSw.1.cell 1 _ rfl; go_simp; try with_reducible rfl)
    simp only [Act.put, List.setIfInBounds_toArray, List.set_cons_zero, List.set_cons_succ]
    refine takeL 2 (v := ?_) rfl (by kernel_rfl) (by kernel_rfl) (by kernel_rfl) (fun _ _ _ h => h) (by rfl) ?_ hHeld ?_
    rotate_left
    · (intro w1 hSw; have f0 := hSw.1.cell 0 _ rfl; have f1 := hSw.1.cell 1 _ rfl; go_simp; try with_reducible rfl)
    simp only [Act.put, List.setIfInBounds_toArray, List.set_cons_zero, List.set_cons_succ]
    refine takeL 3 (v := ?_) rfl (by kernel_rfl) (by kernel_rfl) (by kernel_rfl) (fun _ _ _ h => h) (by rfl) ?_ hHeld ?_
    rotate_left
    · (intro w1 hSw; have f0 := hSw.1.cell 0 _ rfl; have f1 := hSw.1.cell 1 _ rfl; go_simp; try with_reducible rfl)
    simp only [Act.put, List.setIfInBounds_toArray, List.set_cons_zero, List.set_cons_succ]
    refine wpAnyH_ready (rs := [4, 6]) (by kernel_rfl) (by simp) ?_
    refine consL rfl rfl (fun K hK => ?_) ?_
    · go_simp
      refine (HNO.out _ hHeld.2.2.1).mono ?_
      rintro e wn ⟨bo, rfl, go, ko, hcn⟩
      have nor : bo ≠ br := by obtain ⟨p, q, hpq⟩ := hHeld.2.1; have := hpq.lt; omega
      have go : w.heap.size ≤ bo := Nat.le_trans hHeld.2.2.1.size go
      refine hK.out _ _ ⟨hcn.blk hHeld.1 (by simp), (by obtain ⟨p, q, hpq⟩ := hHeld.2.1; exact ⟨p, q, hcn.blk hpq (by simp)⟩), hHeld.2.2.1.trans hcn, hHeld.2.2.2.chg0 hcn⟩ (fun hHeld => ?_)
      clear hK K
      try simp only [Act.put, List.setIfInBounds_toArray, List.set_cons_zero, List.set_cons_succ, List.toList_toArray]
      clear hcn
      refine takeL 5 rfl (by kernel_rfl) (by kernel_rfl) (by kernel_rfl) (fun _ _ _ h => h) (by rfl) (fun w1 hSw => run_build92 (.tmp 16) (.tmp 19) rfl a1 n c1 (some ⟨bo, 0, none⟩) (m + 1) (m + 1) w1 rfl rfl) hHeld ?_
      simp only [Act.put, List.setIfInBounds_toArray, List.set_cons_zero, List.set_cons_succ]
      refine wpAnyH_ready (rs := [6]) (by kernel_rfl) (by simp) ?_
      refine consL rfl rfl (fun K hK => ?_) AllReadyH.nil
      have hsz := hHeld.2.2.1.size
      have lr := (by obtain ⟨p, q, hpq⟩ := hHeld.2.1; exact hpq.lt : br < _)
      have l6 := hHeld.1.lt
      refine wp_new92 rfl ?_
      intro bq wn hbq kq hcn
      have gq : w.heap.size ≤ bq := by have := hbq.out; omega
      have nqr : bq ≠ br := by have := hbq.out; omega
      have nq6 : b6 ≠ bq := by have := hbq.out; omega
      have nq : bo ≠ bq := by have := hbq.out; have := ko.lt; omega
      have ko := hcn.blk ko (by simp)
      refine hK.out _ _ ⟨hcn.blk hHeld.1 (by simp), (by obtain ⟨p, q, hpq⟩ := hHeld.2.1; exact ⟨p, q, hcn.blk hpq (by simp)⟩), hHeld.2.2.1.trans hcn, hHeld.2.2.2.chg0 hcn⟩ (fun hHeld => ?_)
      clear hK K hsz lr l6
      try simp only [Act.put, List.setIfInBounds_toArray, List.set_cons_zero, List.set_cons_succ, List.toList_toArray]
      refine wpAnyH_ready (rs := [7]) (by kernel_rfl) (by simp) ?_
      refine consL rfl rfl (fun K hK => ?_) AllReadyH.nil
      refine wp_store_mid 92 _ _ rfl bq 0 #[.slice a1 n c1, .slice (some ⟨bo, 0, none⟩) (m + 1) (m + 1)] rfl rfl (there2 kq) info92 (one92 rfl rfl) ?_
      have V0 := set2 (p' := (.slice a1 n c1)) (q' := (.slice (some ⟨bo, 0, none⟩) (m + 1) (m + 1))) kq
      have V1 := ne2 (b := bq) (p := (.slice a1 n c1)) (q := (.slice (some ⟨bo, 0, none⟩) (m + 1) (m + 1))) ko nq
      have V2 := ne2 (b := bq) (p := (.slice a1 n c1)) (q := (.slice (some ⟨bo, 0, none⟩) (m + 1) (m + 1))) hHeld.1 nq6
      have V3 := chg2 (b := bq) (p := (.slice a1 n c1)) (q := (.slice (some ⟨bo, 0, none⟩) (m + 1) (m + 1))) hHeld.2.2.1 gq
      have V4 : ∃ (p : Option Addr × Nat × Nat) (q : Value), Blk (World.setCells wn bq 0 [(.slice a1 n c1), (.slice (some ⟨bo, 0, none⟩) (m + 1) (m + 1))]) br 92 [.slice p.1 p.2.1 p.2.2, q] := by
        obtain ⟨p, q, hpq⟩ := hHeld.2.1
        exact ⟨p, q, ne2 (b := bq) hpq (Ne.symm nqr)⟩
      refine hK.out _ _ ⟨V2, V4, V3, Ent.zero _⟩ (fun hHeld => ?_)
      clear hK K
      try simp only [Act.put, List.setIfInBounds_toArray, List.set_cons_zero, List.set_cons_succ, List.toList_toArray]
      refine wpAnyH_done (by kernel_rfl) ?_ _
      go_wp2_with fail
      go_meet
      exact ⟨bq, bo, rfl, V0, nqr, nor, V1, V2, V4, V3⟩
    refine consL rfl rfl (fun K hK => ?_) AllReadyH.nil
    have hsz := hHeld.2.2.1.size
    have lr := (by obtain ⟨p, q, hpq⟩ := hHeld.2.1; exact hpq.lt : br < _)
    have l6 := hHeld.1.lt
    refine wp_new92 rfl ?_
    intro bq wn hbq kq hcn
    have gq : w.heap.size ≤ bq := by have := hbq.out; omega
    have nqr : bq ≠ br := by have := hbq.out; omega
    have nq6 : b6 ≠ bq := by have := hbq.out; omega
    refine hK.out _ _ ⟨hcn.blk hHeld.1 (by simp), (by obtain ⟨p, q, hpq⟩ := hHeld.2.1; exact ⟨p, q, hcn.blk hpq (by simp)⟩), hHeld.2.2.1.trans hcn, hHeld.2.2.2.chg0 hcn⟩ (fun hHeld => ?_)
    clear hK K hsz lr l6
    try simp only [Act.put, List.setIfInBounds_toArray, List.set_cons_zero, List.set_cons_succ, List.toList_toArray]
    refine wpAnyH_ready (rs := [4]) (by kernel_rfl) (by simp) ?_
    refine consL rfl rfl (fun K hK => ?_) AllReadyH.nil
    go_simp
    refine (HNO.out _ hHeld.2.2.1).mono ?_
    rintro e wn ⟨bo, rfl, go, ko, hcn⟩
    have nq : bo ≠ bq := by have := kq.lt; omega
    have kq := hcn.blk kq (by simp)
    have nor : bo ≠ br := by obtain ⟨p, q, hpq⟩ := hHeld.2.1; have := hpq.lt; omega
    have go : w.heap.size ≤ bo := Nat.le_trans hHeld.2.2.1.size go
    refine hK.out _ _ ⟨hcn.blk hHeld.1 (by simp), (by obtain ⟨p, q, hpq⟩ := hHeld.2.1; exact ⟨p, q, hcn.blk hpq (by simp)⟩), hHeld.2.2.1.trans hcn, hHeld.2.2.2.chg0 hcn⟩ (fun hHeld => ?_)
    clear hK K
    try simp only [Act.put, List.setIfInBounds_toArray, List.set_cons_zero, List.set_cons_succ, List.toList_toArray]
    clear hcn
    refine takeL 5 rfl (by kernel_rfl) (by kernel_rfl) (by kernel_rfl) (fun _ _ _ h => h) (by rfl) (fun w1 hSw => run_build92 (.tmp 16) (.tmp 19) rfl a1 n c1 (some ⟨bo, 0, none⟩) (m + 1) (m + 1) w1 rfl rfl) hHeld ?_
    simp only [Act.put, List.setIfInBounds_toArray, List.set_cons_zero, List.set_cons_succ]
    refine wpAnyH_ready (rs := [7]) (by kernel_rfl) (by simp) ?_
    refine consL rfl rfl (fun K hK => ?_) AllReadyH.nil
    refine wp_store_mid 92 _ _ rfl bq 0 #[.slice a1 n c1, .slice (some ⟨bo, 0, none⟩) (m + 1) (m + 1)] rfl rfl (there2 kq) info92 (one92 rfl rfl) ?_
    have V0 := set2 (p' := (.slice a1 n c1)) (q' := (.slice (some ⟨bo, 0, none⟩) (m + 1) (m + 1))) kq
    have V1 := ne2 (b := bq) (p := (.slice a1 n c1)) (q := (.slice (some ⟨bo, 0, none⟩) (m + 1) (m + 1))) ko nq
    have V2 := ne2 (b := bq) (p := (.slice a1 n c1)) (q := (.slice (some ⟨bo, 0, none⟩) (m + 1) (m + 1))) hHeld.1 nq6
    have V3 := chg2 (b := bq) (p := (.slice a1 n c1)) (q := (.slice (some ⟨bo, 0, none⟩) (m + 1) (m + 1))) hHeld.2.2.1 gq
    have V4 : ∃ (p : Option Addr × Nat × Nat) (q : Value), Blk (World.setCells wn bq 0 [(.slice a1 n c1), (.slice (some ⟨bo, 0, none⟩) (m + 1) (m + 1))]) br 92 [.slice p.1 p.2.1 p.2.2, q] := by
      obtain ⟨p, q, hpq⟩ := hHeld.2.1
      exact ⟨p, q, ne2 (b := bq) hpq (Ne.symm nqr)⟩
    refine hK.out _ _ ⟨V2, V4, V3, Ent.zero _⟩ (fun hHeld => ?_)
    clear hK K
    try simp only [Act.put, List.setIfInBounds_toArray, List.set_cons_zero, List.set_cons_succ, List.toList_toArray]
    refine wpAnyH_done (by kernel_rfl) ?_ _
    go_wp2_with fail
    go_meet
    exact ⟨bq, bo, rfl, V0, nqr, nor, V1, V2, V4, V3⟩
  case rest =>
    obtain ⟨bq, bo, rfl, kq, nqr, nor, ko, k6, kr, cwA⟩ := hcut
    clear k6r kbr cw
    generalize dlen x = dx at *
    generalize dlen y = dy at *
    rcases Nat.lt_or_ge 512 dx with hx | hx
    · obtain ⟨p, q, kr⟩ := kr
      have V0 := set2 (p' := .slice a1 n c1) (q' := .slice (some ⟨bo, 0, none⟩) (m + 1) (m + 1)) kr
      have V1 := ne2 (b := br) (p := .slice a1 n c1) (q := .slice (some ⟨bo, 0, none⟩) (m + 1) (m + 1)) ko nor
      have V3 := chg2 (b := br) (p := .slice a1 n c1) (q := .slice (some ⟨bo, 0, none⟩) (m + 1) (m + 1)) cwA gr
      go_wp2_with (first | (refine wpList_load_mid (by rfl) 92 (.tmp 11) (by rfl) bq 0 (by rfl) [.slice a1 n c1, .slice (some ⟨bo, 0, none⟩) (m + 1) (m + 1)] _ (range2 kq) Takg.underlying92 (by rfl) info92 ?_) | (refine wpList_store_mid (by rfl) 92 (.tmp 10) (.tmp 32) (by rfl) br 0 #[.slice a1 n c1, .slice (some ⟨bo, 0, none⟩) (m + 1) (m + 1)] (by rfl) (by rfl) (there2 kr) info92 (one92 rfl rfl) ?_))
      refine bodyPost_ret (results_cell (by rfl) _ _ _ br 0 (by rfl) [.slice a1 n c1, .slice (some ⟨bo, 0, none⟩) (m + 1) (m + 1)] _ (range2 V0) Takg.underlying92 (by rfl) info92) rfl ?_
      exact Res.of HEN.out (by simp [HEM.out]) (HS0.out.out V3 HO.out V1 (by rw [HEM.out])) rfl V3
    · have hy : 512 < dy := by omega
      obtain ⟨p, q, kr⟩ := kr
      have V0 := set2 (p' := .slice a1 n c1) (q' := .slice (some ⟨bo, 0, none⟩) (m + 1) (m + 1)) kr
      have V1 := ne2 (b := br) (p := .slice a1 n c1) (q := .slice (some ⟨bo, 0, none⟩) (m + 1) (m + 1)) ko nor
      have V3 := chg2 (b := br) (p := .slice a1 n c1) (q := .slice (some ⟨bo, 0, none⟩) (m + 1) (m + 1)) cwA gr
      go_wp2_with (first | (refine wpList_load_mid (by rfl) 92 (.tmp 11) (by rfl) bq 0 (by rfl) [.slice a1 n c1, .slice (some ⟨bo, 0, none⟩) (m + 1) (m + 1)] _ (range2 kq) Takg.underlying92 (by rfl) info92 ?_) | (refine wpList_store_mid (by rfl) 92 (.tmp 10) (.tmp 32) (by rfl) br 0 #[.slice a1 n c1, .slice (some ⟨bo, 0, none⟩) (m + 1) (m + 1)] (by rfl) (by rfl) (there2 kr) info92 (one92 rfl rfl) ?_))
      refine bodyPost_ret (results_cell (by rfl) _ _ _ br 0 (by rfl) [.slice a1 n c1, .slice (some ⟨bo, 0, none⟩) (m + 1) (m + 1)] _ (range2 V0) Takg.underlying92 (by rfl) info92) rfl ?_
      exact Res.of HEN.out (by simp [HEM.out]) (HS0.out.out V3 HO.out V1 (by rw [HEM.out])) rfl V3

/-- A product of two short ones is short. -/
theorem dlen_mul' {x y a b : Nat} (hx : dlen x ≤ a) (hy : dlen y ≤ b) : dlen (x * y) ≤ a + b := by
  refine dlen_le ?_
  have h1 : x < 256 ^ a := Nat.lt_of_lt_of_le (dlen_lt x) (Nat.pow_le_pow_right (by decide) hx)
  have h2 : y < 256 ^ b := Nat.lt_of_lt_of_le (dlen_lt y) (Nat.pow_le_pow_right (by decide) hy)
  calc x * y ≤ x * 256 ^ b := Nat.mul_le_mul_left _ (Nat.le_of_lt h2)
    _ < 256 ^ a * 256 ^ b := Nat.mul_lt_mul_of_pos_right h1 (pos256 b)
    _ = 256 ^ (a + b) := (Nat.pow_add 256 a b).symm
theorem Blk.ne {w : World} {b b2 t t2 : Nat} {cs cs2 : List Value} (h : Blk w b t cs) (h2 : Blk w b2 t2 cs2) (ht : t ≠ t2) : b ≠ b2 := fun he => by
  subst he
  unfold Blk at h h2
  rw [h] at h2
  injection h2 with h3
  injection h3 with h4 h5
  exact ht h5
theorem Ent.ne {w : World} {a : Option Addr} {v b t : Nat} {q : Value} {p1 : Option Addr} {n1 k1 : Nat} (h : Ent w a v) (hb : Blk w b t [.slice p1 n1 k1, q]) : ∀ b', a = some ⟨b', 0, none⟩ → b' ∉ [b] := fun b' hb' => by
  rw [List.mem_singleton]
  intro he
  subst he
  rcases Nat.eq_zero_or_pos v with h0 | h0
  · rw [h.nil h0] at hb'; cases hb'
  · obtain ⟨b2, h1, h2⟩ := h.som h0
    rw [h1] at hb'
    cases hb'
    have h3 := h2.cell 0 (dlen_pos h0)
    rw [hb.cell 0 _ rfl] at h3
    cases h3
/-- A state stays under a write elsewhere. -/
theorem StE.keep {w w' : World} {a1 a2 p1 : Option Addr} {c1 c2 br n1 k1 : Nat} {q : Value} {es : Es} {os : List Int} (h : StE w a1 c1 es a2 c2 os) (hc : Chg [br] w w') (hb : Blk w br 92 [.slice p1 n1 k1, q]) : StE w' a1 c1 es a2 c2 os := by
  have n1 : es = [] ∨ ∀ b, a1 = some ⟨b, 0, none⟩ → b ∉ [br] := by
    rcases h.t1 with h1 | ⟨b, cs, h1, h2⟩
    · exact .inl (List.length_eq_zero_iff.mp h1)
    · refine .inr fun b' hb' => ?_
      rw [h1] at hb'
      cases hb'
      have := Blk.ne h2 hb (by decide)
      simpa using this
  have n2 : os = [] ∨ ∀ b, a2 = some ⟨b, 0, none⟩ → b ∉ [br] := by
    rcases h.t2 with h1 | ⟨b, cs, h1, h2⟩
    · exact .inl (List.length_eq_zero_iff.mp h1)
    · refine .inr fun b' hb' => ?_
      rw [h1] at hb'
      cases hb'
      have := Blk.ne h2 hb (by decide)
      simpa using this
  refine ⟨h.n1, h.k1, h.b1, h.nil1, h.som1, ?_, fun e he => ⟨(h.ent e he).1.chg hc (Ent.ne (h.ent e he).1 hb), (h.ent e he).2⟩, h.n2, h.k2, h.b2, ?_, ?_, ?_⟩
  · rcases n1 with h1 | h1
    · subst h1; exact .inl rfl
    · exact h.cel1.chg hc h1
  · rcases n2 with h1 | h1
    · subst h1; exact .inl rfl
    · exact h.cel2.chg hc h1
  · rcases n1 with h1 | h1
    · subst h1; exact .inl rfl
    · exact h.t1.chg hc h1
  · rcases n2 with h1 | h1
    · subst h1; exact .inl rfl
    · exact h.t2.chg hc h1
theorem dlen_mul {x y : Nat} (hx : dlen x ≤ 512) (hy : dlen y ≤ 512) : dlen (x * y) ≤ 1024 := dlen_mul' hx hy

set_option maxRecDepth 10000 in
set_option maxHeartbeats 1000000 in
theorem rowMul (a1 a2 b1 b2 : Option Addr) (c1 c2 x y : Nat) (es : Es) (os : List Int) (w : World) (hs : StE w a1 c1 es a2 c2 os) (hn : 2 ≤ es.length) (ho : os.length < 1000) (l1 : dlen x ≤ 1024) (l2 : dlen y ≤ 1024) (h1 : Ent w b1 x) (h2 : Ent w b2 y) (dx : dlen x ≤ 512) (dy : dlen y ≤ 512) :
    Calls Takg.prog 92 #[.int .u8 0, .agg #[.slice a1 es.length c1, .slice a2 os.length c2], .int .u8 1, .slice b1 (dlen x) (dlen x), .slice b2 (dlen y) (dlen y)] w fun e w' => Res w w' e ((es.take (es.length - 2)).map (·.2) ++ [x * y]) os := by
  have HNO := hide (fun W (hW : Chg [] w W) => appended_any a2 c2 os (-2) W (by omega) hs.k2 (hs.cel2.chg0 hW))
  have HO := hide ho
  have HN16 := hide hs.n1
  have HM := hide (fun W (hW : Chg [] w W) => multipliedRow_two a1 a2 b1 b2 c1 c2 x y es os W (hs.chg0 hW) hn (by omega) (by omega) (h1.chg0 hW) (h2.chg0 hW))
  have HDZ := hide (dlen_mul dx dy)
  obtain ⟨n, en⟩ : ∃ n, n = es.length := ⟨_, rfl⟩
  obtain ⟨m, em⟩ : ∃ n, n = os.length := ⟨_, rfl⟩
  rw [← en] at hn HN16 HM ⊢
  rw [← em] at HNO ho HM ⊢
  have HEN := hide en
  have HEM := hide em
  have HS0 := hide hs
  have H1 := hide h1
  have H2 := hide h2
  have HN := hide hn
  clear en em hs h1 h2 ho
  go_enter Takg.func92, Takg.ntmps92
  go_upto_region 1 with (first | (refine wpList_box92 (by rfl) (.tmp 1) (by rfl) (.slice a1 n c1) (.slice a2 m c2) (by rfl) ?_; intro b6 wb hbb k6 cbb) | (refine wpList_new92 (by rfl) (by rfl) ?_; intro br wr hbr kbr cbr))
  have k6r := cbr.blk k6 (by simp)
  have cw := cbb.trans cbr
  have n6r : b6 ≠ br := by have := k6.lt; have := hbr.out; omega
  have g6 : w.heap.size ≤ b6 := by have := hbb.out; omega
  have gr : w.heap.size ≤ br := by have := hbr.out; have := cbb.size; omega
  clear k6 cbb cbr hbb hbr
  simp only [Act.put, List.setIfInBounds_toArray, List.set_cons_zero, List.set_cons_succ]
  go_cut [11] (fun v wc => ∃ bq bo, v = .pointer (some ⟨bq, 0, none⟩) ∧ Blk wc bq 92 [.slice a1 n c1, .slice (some ⟨bo, 0, none⟩) (m + 1) (m + 1)] ∧ bq ≠ br ∧ bo ≠ br ∧ Blk wc bo 62 (Ov (os ++ [-2])) ∧ Blk wc b6 92 [.slice a1 n c1, .slice a2 m c2] ∧ (∃ (p : Option Addr × Nat × Nat) (q : Value), Blk wc br 92 [.slice p.1 p.2.1 p.2.2, q]) ∧ Chg [] w wc)
  case first =>
    refine wp_region_held_drew (S := fun w1 => Blk w1 b6 92 [.slice a1 n c1, .slice a2 m c2] ∧ (∃ (p : Option Addr × Nat × Nat) (q : Value), Blk w1 br 92 [.slice p.1 p.2.1 p.2.2, q]) ∧ Chg [] w w1 ∧ Ent w1 none 0) (by kernel_rfl) ⟨k6r.drew, ⟨(none, 0, 0), _, kbr.drew⟩, cw.drew, Ent.zero _⟩ (fun hHeld => ?_)
    refine takeL 0 (v := ?_) rfl (by kernel_rfl) (by kernel_rfl) (by kernel_rfl) (fun _ _ _ h => h) (by rfl) ?_ hHeld ?_
    rotate_left
    · (intro w1 hSw; have f0 := hSw.1.cell 0 _ rfl; have f1 := hSw.1.cell 1 _ rfl; go_simp; try with_reducible rfl)
    simp only [Act.put, List.setIfInBounds_toArray, List.set_cons_zero, List.set_cons_succ]
    refine takeL 1 (v := ?_) rfl (by kernel_rfl) (by kernel_rfl) (by kernel_rfl) (fun _ _ _ h => h) (by rfl) ?_ hHeld ?_
    rotate_left
    · (intro w1 hSw; have f0 := hSw.1.cell 0 _ rfl; have f1 := hSw.1.cell 1 _ rfl; go_simp; try with_reducible rfl)
    simp only [Act.put, List.setIfInBounds_toArray, List.set_cons_zero, List.set_cons_succ]
    refine takeL 2 (v := ?_) rfl (by kernel_rfl) (by kernel_rfl) (by kernel_rfl) (fun _ _ _ h => h) (by rfl) ?_ hHeld ?_
    rotate_left
    · (intro w1 hSw; have f0 := hSw.1.cell 0 _ rfl; have f1 := hSw.1.cell 1 _ rfl; go_simp; try with_reducible rfl)
    simp only [Act.put, List.setIfInBounds_toArray, List.set_cons_zero, List.set_cons_succ]
    refine takeL 3 (v := ?_) rfl (by kernel_rfl) (by kernel_rfl) (by kernel_rfl) (fun _ _ _ h => h) (by rfl) ?_ hHeld ?_
    rotate_left
    · (intro w1 hSw; have f0 := hSw.1.cell 0 _ rfl; have f1 := hSw.1.cell 1 _ rfl; go_simp; try with_reducible rfl)
    simp only [Act.put, List.setIfInBounds_toArray, List.set_cons_zero, List.set_cons_succ]
    refine wpAnyH_ready (rs := [4, 6]) (by kernel_rfl) (by simp) ?_
    refine consL rfl rfl (fun K hK => ?_) ?_
    · go_simp
      refine (HNO.out _ hHeld.2.2.1).mono ?_
      rintro e wn ⟨bo, rfl, go, ko, hcn⟩
      have nor : bo ≠ br := by obtain ⟨p, q, hpq⟩ := hHeld.2.1; have := hpq.lt; omega
      have go : w.heap.size ≤ bo := Nat.le_trans hHeld.2.2.1.size go
      refine hK.out _ _ ⟨hcn.blk hHeld.1 (by simp), (by obtain ⟨p, q, hpq⟩ := hHeld.2.1; exact ⟨p, q, hcn.blk hpq (by simp)⟩), hHeld.2.2.1.trans hcn, hHeld.2.2.2.chg0 hcn⟩ (fun hHeld => ?_)
      clear hK K
      try simp only [Act.put, List.setIfInBounds_toArray, List.set_cons_zero, List.set_cons_succ, List.toList_toArray]
      clear hcn
      refine takeL 5 rfl (by kernel_rfl) (by kernel_rfl) (by kernel_rfl) (fun _ _ _ h => h) (by rfl) (fun w1 hSw => run_build92 (.tmp 16) (.tmp 19) rfl a1 n c1 (some ⟨bo, 0, none⟩) (m + 1) (m + 1) w1 rfl rfl) hHeld ?_
      simp only [Act.put, List.setIfInBounds_toArray, List.set_cons_zero, List.set_cons_succ]
      refine wpAnyH_ready (rs := [6]) (by kernel_rfl) (by simp) ?_
      refine consL rfl rfl (fun K hK => ?_) AllReadyH.nil
      have hsz := hHeld.2.2.1.size
      have lr := (by obtain ⟨p, q, hpq⟩ := hHeld.2.1; exact hpq.lt : br < _)
      have l6 := hHeld.1.lt
      refine wp_new92 rfl ?_
      intro bq wn hbq kq hcn
      have gq : w.heap.size ≤ bq := by have := hbq.out; omega
      have nqr : bq ≠ br := by have := hbq.out; omega
      have nq6 : b6 ≠ bq := by have := hbq.out; omega
      have nq : bo ≠ bq := by have := hbq.out; have := ko.lt; omega
      have ko := hcn.blk ko (by simp)
      refine hK.out _ _ ⟨hcn.blk hHeld.1 (by simp), (by obtain ⟨p, q, hpq⟩ := hHeld.2.1; exact ⟨p, q, hcn.blk hpq (by simp)⟩), hHeld.2.2.1.trans hcn, hHeld.2.2.2.chg0 hcn⟩ (fun hHeld => ?_)
      clear hK K hsz lr l6
      try simp only [Act.put, List.setIfInBounds_toArray, List.set_cons_zero, List.set_cons_succ, List.toList_toArray]
      refine wpAnyH_ready (rs := [7]) (by kernel_rfl) (by simp) ?_
      refine consL rfl rfl (fun K hK => ?_) AllReadyH.nil
      refine wp_store_mid 92 _ _ rfl bq 0 #[.slice a1 n c1, .slice (some ⟨bo, 0, none⟩) (m + 1) (m + 1)] rfl rfl (there2 kq) info92 (one92 rfl rfl) ?_
      have V0 := set2 (p' := (.slice a1 n c1)) (q' := (.slice (some ⟨bo, 0, none⟩) (m + 1) (m + 1))) kq
      have V1 := ne2 (b := bq) (p := (.slice a1 n c1)) (q := (.slice (some ⟨bo, 0, none⟩) (m + 1) (m + 1))) ko nq
      have V2 := ne2 (b := bq) (p := (.slice a1 n c1)) (q := (.slice (some ⟨bo, 0, none⟩) (m + 1) (m + 1))) hHeld.1 nq6
      have V3 := chg2 (b := bq) (p := (.slice a1 n c1)) (q := (.slice (some ⟨bo, 0, none⟩) (m + 1) (m + 1))) hHeld.2.2.1 gq
      have V4 : ∃ (p : Option Addr × Nat × Nat) (q : Value), Blk (World.setCells wn bq 0 [(.slice a1 n c1), (.slice (some ⟨bo, 0, none⟩) (m + 1) (m + 1))]) br 92 [.slice p.1 p.2.1 p.2.2, q] := by
        obtain ⟨p, q, hpq⟩ := hHeld.2.1
        exact ⟨p, q, ne2 (b := bq) hpq (Ne.symm nqr)⟩
      refine hK.out _ _ ⟨V2, V4, V3, Ent.zero _⟩ (fun hHeld => ?_)
      clear hK K
      try simp only [Act.put, List.setIfInBounds_toArray, List.set_cons_zero, List.set_cons_succ, List.toList_toArray]
      refine wpAnyH_done (by kernel_rfl) ?_ _
      go_wp2_with fail
      go_meet
      exact ⟨bq, bo, rfl, V0, nqr, nor, V1, V2, V4, V3⟩
    refine consL rfl rfl (fun K hK => ?_) AllReadyH.nil
    have hsz := hHeld.2.2.1.size
    have lr := (by obtain ⟨p, q, hpq⟩ := hHeld.2.1; exact hpq.lt : br < _)
    have l6 := hHeld.1.lt
    refine wp_new92 rfl ?_
    intro bq wn hbq kq hcn
    have gq : w.heap.size ≤ bq := by have := hbq.out; omega
    have nqr : bq ≠ br := by have := hbq.out; omega
    have nq6 : b6 ≠ bq := by have := hbq.out; omega
    refine hK.out _ _ ⟨hcn.blk hHeld.1 (by simp), (by obtain ⟨p, q, hpq⟩ := hHeld.2.1; exact ⟨p, q, hcn.blk hpq (by simp)⟩), hHeld.2.2.1.trans hcn, hHeld.2.2.2.chg0 hcn⟩ (fun hHeld => ?_)
    clear hK K hsz lr l6
    try simp only [Act.put, List.setIfInBounds_toArray, List.set_cons_zero, List.set_cons_succ, List.toList_toArray]
    refine wpAnyH_ready (rs := [4]) (by kernel_rfl) (by simp) ?_
    refine consL rfl rfl (fun K hK => ?_) AllReadyH.nil
    go_simp
    refine (HNO.out _ hHeld.2.2.1).mono ?_
    rintro e wn ⟨bo, rfl, go, ko, hcn⟩
    have nq : bo ≠ bq := by have := kq.lt; omega
    have kq := hcn.blk kq (by simp)
    have nor : bo ≠ br := by obtain ⟨p, q, hpq⟩ := hHeld.2.1; have := hpq.lt; omega
    have go : w.heap.size ≤ bo := Nat.le_trans hHeld.2.2.1.size go
    refine hK.out _ _ ⟨hcn.blk hHeld.1 (by simp), (by obtain ⟨p, q, hpq⟩ := hHeld.2.1; exact ⟨p, q, hcn.blk hpq (by simp)⟩), hHeld.2.2.1.trans hcn, hHeld.2.2.2.chg0 hcn⟩ (fun hHeld => ?_)
    clear hK K
    try simp only [Act.put, List.setIfInBounds_toArray, List.set_cons_zero, List.set_cons_succ, List.toList_toArray]
    clear hcn
    refine takeL 5 rfl (by kernel_rfl) (by kernel_rfl) (by kernel_rfl) (fun _ _ _ h => h) (by rfl) (fun w1 hSw => run_build92 (.tmp 16) (.tmp 19) rfl a1 n c1 (some ⟨bo, 0, none⟩) (m + 1) (m + 1) w1 rfl rfl) hHeld ?_
    simp only [Act.put, List.setIfInBounds_toArray, List.set_cons_zero, List.set_cons_succ]
    refine wpAnyH_ready (rs := [7]) (by kernel_rfl) (by simp) ?_
    refine consL rfl rfl (fun K hK => ?_) AllReadyH.nil
    refine wp_store_mid 92 _ _ rfl bq 0 #[.slice a1 n c1, .slice (some ⟨bo, 0, none⟩) (m + 1) (m + 1)] rfl rfl (there2 kq) info92 (one92 rfl rfl) ?_
    have V0 := set2 (p' := (.slice a1 n c1)) (q' := (.slice (some ⟨bo, 0, none⟩) (m + 1) (m + 1))) kq
    have V1 := ne2 (b := bq) (p := (.slice a1 n c1)) (q := (.slice (some ⟨bo, 0, none⟩) (m + 1) (m + 1))) ko nq
    have V2 := ne2 (b := bq) (p := (.slice a1 n c1)) (q := (.slice (some ⟨bo, 0, none⟩) (m + 1) (m + 1))) hHeld.1 nq6
    have V3 := chg2 (b := bq) (p := (.slice a1 n c1)) (q := (.slice (some ⟨bo, 0, none⟩) (m + 1) (m + 1))) hHeld.2.2.1 gq
    have V4 : ∃ (p : Option Addr × Nat × Nat) (q : Value), Blk (World.setCells wn bq 0 [(.slice a1 n c1), (.slice (some ⟨bo, 0, none⟩) (m + 1) (m + 1))]) br 92 [.slice p.1 p.2.1 p.2.2, q] := by
      obtain ⟨p, q, hpq⟩ := hHeld.2.1
      exact ⟨p, q, ne2 (b := bq) hpq (Ne.symm nqr)⟩
    refine hK.out _ _ ⟨V2, V4, V3, Ent.zero _⟩ (fun hHeld => ?_)
    clear hK K
    try simp only [Act.put, List.setIfInBounds_toArray, List.set_cons_zero, List.set_cons_succ, List.toList_toArray]
    refine wpAnyH_done (by kernel_rfl) ?_ _
    go_wp2_with fail
    go_meet
    exact ⟨bq, bo, rfl, V0, nqr, nor, V1, V2, V4, V3⟩
  case rest =>
    obtain ⟨bq, bo, rfl, kq, nqr, nor, ko, k6, kr, cwA⟩ := hcut
    clear k6r kbr cw
    have HDX := hide dx
    have HDY := hide dy
    obtain ⟨p, q, kr⟩ := kr
    have lr := kr.lt
    generalize dlen x = dxx at *
    generalize dlen y = dyy at *
    go_wp2_with (refine wpList_load_mid (by rfl) 92 (.tmp 6) (by rfl) b6 0 (by rfl) [.slice a1 n c1, .slice a2 m c2] _ (range2 k6) Takg.underlying92 (by rfl) info92 ?_)
    refine (HM.out _ cwA).mono ?_
    rintro e w5 ⟨b, a', rfl, kb, hnew, hc5⟩
    have kr := hc5.blk kr (by simp)
    have cw5 := cwA.trans hc5
    have nbr : b ≠ br := Blk.ne kb kr (by decide)
    have V0 := set2 (p' := (.slice (some ⟨b, 0, none⟩) (n - 2 + 1) (n - 2 + 1))) (q' := (.slice a2 m c2)) kr
    have V1 := ne2 (b := br) (p := (.slice (some ⟨b, 0, none⟩) (n - 2 + 1) (n - 2 + 1))) (q := (.slice a2 m c2)) kb nbr
    have V3 := chg2 (b := br) (p := (.slice (some ⟨b, 0, none⟩) (n - 2 + 1) (n - 2 + 1))) (q := (.slice a2 m c2)) cw5 gr
    have V4 : Chg [br] w5 (w5.setCells br 0 [(.slice (some ⟨b, 0, none⟩) (n - 2 + 1) (n - 2 + 1)), (.slice a2 m c2)]) := ((Chg.refl [br] w5).setCell ⟨br, 0, none⟩ (by simp) (.slice (some ⟨b, 0, none⟩) (n - 2 + 1) (n - 2 + 1))).setCell ⟨br, 0 + 1, none⟩ (by simp) (.slice a2 m c2)
    have V5 := hnew.chg V4 (Ent.ne hnew kr)
    go_wp2_with (refine wpList_store_mid (by rfl) 92 (.tmp 10) (.tmp 37) (by rfl) br 0 #[(.slice (some ⟨b, 0, none⟩) (n - 2 + 1) (n - 2 + 1)), (.slice a2 m c2)] (by rfl) (by rfl) (there2 kr) info92 (one92 rfl rfl) ?_)
    refine bodyPost_ret (results_cell (by rfl) _ _ _ br 0 (by rfl) [(.slice (some ⟨b, 0, none⟩) (n - 2 + 1) (n - 2 + 1)), (.slice a2 m c2)] _ (range2 V0) Takg.underlying92 (by rfl) info92) rfl ?_
    exact Res.push HEN.out HEM.out HS0.out V3 V1 rfl (by have := HN16.out; have := HN.out; omega) V5 HDZ.out

set_option maxRecDepth 10000 in
set_option maxHeartbeats 1000000 in
theorem rowAddNo (a1 a2 b1 b2 : Option Addr) (c1 c2 x y : Nat) (es : Es) (os : List Int) (w : World) (hs : StE w a1 c1 es a2 c2 os) (hn : 2 ≤ es.length) (ho : os.length < 1000) (l1 : dlen x ≤ 1024) (l2 : dlen y ≤ 1024) (h1 : Ent w b1 x) (h2 : Ent w b2 y) (hd : 1024 < dlen (x + y)) :
    Calls Takg.prog 92 #[.int .u8 0, .agg #[.slice a1 es.length c1, .slice a2 os.length c2], .int .u8 2, .slice b1 (dlen x) (dlen x), .slice b2 (dlen y) (dlen y)] w fun e w' => Res w w' e (es.map (·.2)) (os ++ [-2]) := by
  have HNO := hide (fun W (hW : Chg [] w W) => appended_any a2 c2 os (-2) W (by omega) hs.k2 (hs.cel2.chg0 hW))
  have HO := hide ho
  have HN16 := hide hs.n1
  have HA := hide (fun W (hW : Chg [] w W) => Add_any b1 b2 x y W (by omega) (by omega) (h1.chg0 hW) (h2.chg0 hW))
  obtain ⟨n, en⟩ : ∃ n, n = es.length := ⟨_, rfl⟩
  obtain ⟨m, em⟩ : ∃ n, n = os.length := ⟨_, rfl⟩
  rw [← en] at hn HN16  ⊢
  rw [← em] at HNO ho  ⊢
  have HEN := hide en
  have HEM := hide em
  have HS0 := hide hs
  have H1 := hide h1
  have H2 := hide h2
  have HN := hide hn
  clear en em hs h1 h2 ho
  go_enter Takg.func92, Takg.ntmps92
  go_upto_region 1 with (first | (refine wpList_box92 (by rfl) (.tmp 1) (by rfl) (.slice a1 n c1) (.slice a2 m c2) (by rfl) ?_; intro b6 wb hbb k6 cbb) | (refine wpList_new92 (by rfl) (by rfl) ?_; intro br wr hbr kbr cbr))
  have k6r := cbr.blk k6 (by simp)
  have cw := cbb.trans cbr
  have n6r : b6 ≠ br := by have := k6.lt; have := hbr.out; omega
  have g6 : w.heap.size ≤ b6 := by have := hbb.out; omega
  have gr : w.heap.size ≤ br := by have := hbr.out; have := cbb.size; omega
  clear k6 cbb cbr hbb hbr
  simp only [Act.put, List.setIfInBounds_toArray, List.set_cons_zero, List.set_cons_succ]
  go_cut [11] (fun v wc => ∃ bq bo, v = .pointer (some ⟨bq, 0, none⟩) ∧ Blk wc bq 92 [.slice a1 n c1, .slice (some ⟨bo, 0, none⟩) (m + 1) (m + 1)] ∧ bq ≠ br ∧ bo ≠ br ∧ Blk wc bo 62 (Ov (os ++ [-2])) ∧ Blk wc b6 92 [.slice a1 n c1, .slice a2 m c2] ∧ (∃ (p : Option Addr × Nat × Nat) (q : Value), Blk wc br 92 [.slice p.1 p.2.1 p.2.2, q]) ∧ Chg [] w wc)
  case first =>
    refine wp_region_held_drew (S := fun w1 => Blk w1 b6 92 [.slice a1 n c1, .slice a2 m c2] ∧ (∃ (p : Option Addr × Nat × Nat) (q : Value), Blk w1 br 92 [.slice p.1 p.2.1 p.2.2, q]) ∧ Chg [] w w1 ∧ Ent w1 none 0) (by kernel_rfl) ⟨k6r.drew, ⟨(none, 0, 0), _, kbr.drew⟩, cw.drew, Ent.zero _⟩ (fun hHeld => ?_)
    refine takeL 0 (v := ?_) rfl (by kernel_rfl) (by kernel_rfl) (by kernel_rfl) (fun _ _ _ h => h) (by rfl) ?_ hHeld ?_
    rotate_left
    · (intro w1 hSw; have f0 := hSw.1.cell 0 _ rfl; have f1 := hSw.1.cell 1 _ rfl; go_simp; try with_reducible rfl)
    simp only [Act.put, List.setIfInBounds_toArray, List.set_cons_zero, List.set_cons_succ]
    refine takeL 1 (v := ?_) rfl (by kernel_rfl) (by kernel_rfl) (by kernel_rfl) (fun _ _ _ h => h) (by rfl) ?_ hHeld ?_
    rotate_left
    · (intro w1 hSw; have f0 := hSw.1.cell 0 _ rfl; have f1 := hSw.1.cell 1 _ rfl; go_simp; try with_reducible rfl)
    simp only [Act.put, List.setIfInBounds_toArray, List.set_cons_zero, List.set_cons_succ]
    refine takeL 2 (v := ?_) rfl (by kernel_rfl) (by kernel_rfl) (by kernel_rfl) (fun _ _ _ h => h) (by rfl) ?_ hHeld ?_
    rotate_left
    · (intro w1 hSw; have f0 := hSw.1.cell 0 _ rfl; have f1 := hSw.1.cell 1 _ rfl; go_simp; try with_reducible rfl)
    simp only [Act.put, List.setIfInBounds_toArray, List.set_cons_zero, List.set_cons_succ]
    refine takeL 3 (v := ?_) rfl (by kernel_rfl) (by kernel_rfl) (by kernel_rfl) (fun _ _ _ h => h) (by rfl) ?_ hHeld ?_
    rotate_left
    · (intro w1 hSw; have f0 := hSw.1.cell 0 _ rfl; have f1 := hSw.1.cell 1 _ rfl; go_simp; try with_reducible rfl)
    simp only [Act.put, List.setIfInBounds_toArray, List.set_cons_zero, List.set_cons_succ]
    refine wpAnyH_ready (rs := [4, 6]) (by kernel_rfl) (by simp) ?_
    refine consL rfl rfl (fun K hK => ?_) ?_
    · go_simp
      refine (HNO.out _ hHeld.2.2.1).mono ?_
      rintro e wn ⟨bo, rfl, go, ko, hcn⟩
      have nor : bo ≠ br := by obtain ⟨p, q, hpq⟩ := hHeld.2.1; have := hpq.lt; omega
      have go : w.heap.size ≤ bo := Nat.le_trans hHeld.2.2.1.size go
      refine hK.out _ _ ⟨hcn.blk hHeld.1 (by simp), (by obtain ⟨p, q, hpq⟩ := hHeld.2.1; exact ⟨p, q, hcn.blk hpq (by simp)⟩), hHeld.2.2.1.trans hcn, hHeld.2.2.2.chg0 hcn⟩ (fun hHeld => ?_)
      clear hK K
      try simp only [Act.put, List.setIfInBounds_toArray, List.set_cons_zero, List.set_cons_succ, List.toList_toArray]
      clear hcn
      refine takeL 5 rfl (by kernel_rfl) (by kernel_rfl) (by kernel_rfl) (fun _ _ _ h => h) (by rfl) (fun w1 hSw => run_build92 (.tmp 16) (.tmp 19) rfl a1 n c1 (some ⟨bo, 0, none⟩) (m + 1) (m + 1) w1 rfl rfl) hHeld ?_
      simp only [Act.put, List.setIfInBounds_toArray, List.set_cons_zero, List.set_cons_succ]
      refine wpAnyH_ready (rs := [6]) (by kernel_rfl) (by simp) ?_
      refine consL rfl rfl (fun K hK => ?_) AllReadyH.nil
      have hsz := hHeld.2.2.1.size
      have lr := (by obtain ⟨p, q, hpq⟩ := hHeld.2.1; exact hpq.lt : br < _)
      have l6 := hHeld.1.lt
      refine wp_new92 rfl ?_
      intro bq wn hbq kq hcn
      have gq : w.heap.size ≤ bq := by have := hbq.out; omega
      have nqr : bq ≠ br := by have := hbq.out; omega
      have nq6 : b6 ≠ bq := by have := hbq.out; omega
      have nq : bo ≠ bq := by have := hbq.out; have := ko.lt; omega
      have ko := hcn.blk ko (by simp)
      refine hK.out _ _ ⟨hcn.blk hHeld.1 (by simp), (by obtain ⟨p, q, hpq⟩ := hHeld.2.1; exact ⟨p, q, hcn.blk hpq (by simp)⟩), hHeld.2.2.1.trans hcn, hHeld.2.2.2.chg0 hcn⟩ (fun hHeld => ?_)
      clear hK K hsz lr l6
      try simp only [Act.put, List.setIfInBounds_toArray, List.set_cons_zero, List.set_cons_succ, List.toList_toArray]
      refine wpAnyH_ready (rs := [7]) (by kernel_rfl) (by simp) ?_
      refine consL rfl rfl (fun K hK => ?_) AllReadyH.nil
      refine wp_store_mid 92 _ _ rfl bq 0 #[.slice a1 n c1, .slice (some ⟨bo, 0, none⟩) (m + 1) (m + 1)] rfl rfl (there2 kq) info92 (one92 rfl rfl) ?_
      have V0 := set2 (p' := (.slice a1 n c1)) (q' := (.slice (some ⟨bo, 0, none⟩) (m + 1) (m + 1))) kq
      have V1 := ne2 (b := bq) (p := (.slice a1 n c1)) (q := (.slice (some ⟨bo, 0, none⟩) (m + 1) (m + 1))) ko nq
      have V2 := ne2 (b := bq) (p := (.slice a1 n c1)) (q := (.slice (some ⟨bo, 0, none⟩) (m + 1) (m + 1))) hHeld.1 nq6
      have V3 := chg2 (b := bq) (p := (.slice a1 n c1)) (q := (.slice (some ⟨bo, 0, none⟩) (m + 1) (m + 1))) hHeld.2.2.1 gq
      have V4 : ∃ (p : Option Addr × Nat × Nat) (q : Value), Blk (World.setCells wn bq 0 [(.slice a1 n c1), (.slice (some ⟨bo, 0, none⟩) (m + 1) (m + 1))]) br 92 [.slice p.1 p.2.1 p.2.2, q] := by
        obtain ⟨p, q, hpq⟩ := hHeld.2.1
        exact ⟨p, q, ne2 (b := bq) hpq (Ne.symm nqr)⟩
      refine hK.out _ _ ⟨V2, V4, V3, Ent.zero _⟩ (fun hHeld => ?_)
      clear hK K
      try simp only [Act.put, List.setIfInBounds_toArray, List.set_cons_zero, List.set_cons_succ, List.toList_toArray]
      refine wpAnyH_done (by kernel_rfl) ?_ _
      go_wp2_with fail
      go_meet
      exact ⟨bq, bo, rfl, V0, nqr, nor, V1, V2, V4, V3⟩
    refine consL rfl rfl (fun K hK => ?_) AllReadyH.nil
    have hsz := hHeld.2.2.1.size
    have lr := (by obtain ⟨p, q, hpq⟩ := hHeld.2.1; exact hpq.lt : br < _)
    have l6 := hHeld.1.lt
    refine wp_new92 rfl ?_
    intro bq wn hbq kq hcn
    have gq : w.heap.size ≤ bq := by have := hbq.out; omega
    have nqr : bq ≠ br := by have := hbq.out; omega
    have nq6 : b6 ≠ bq := by have := hbq.out; omega
    refine hK.out _ _ ⟨hcn.blk hHeld.1 (by simp), (by obtain ⟨p, q, hpq⟩ := hHeld.2.1; exact ⟨p, q, hcn.blk hpq (by simp)⟩), hHeld.2.2.1.trans hcn, hHeld.2.2.2.chg0 hcn⟩ (fun hHeld => ?_)
    clear hK K hsz lr l6
    try simp only [Act.put, List.setIfInBounds_toArray, List.set_cons_zero, List.set_cons_succ, List.toList_toArray]
    refine wpAnyH_ready (rs := [4]) (by kernel_rfl) (by simp) ?_
    refine consL rfl rfl (fun K hK => ?_) AllReadyH.nil
    go_simp
    refine (HNO.out _ hHeld.2.2.1).mono ?_
    rintro e wn ⟨bo, rfl, go, ko, hcn⟩
    have nq : bo ≠ bq := by have := kq.lt; omega
    have kq := hcn.blk kq (by simp)
    have nor : bo ≠ br := by obtain ⟨p, q, hpq⟩ := hHeld.2.1; have := hpq.lt; omega
    have go : w.heap.size ≤ bo := Nat.le_trans hHeld.2.2.1.size go
    refine hK.out _ _ ⟨hcn.blk hHeld.1 (by simp), (by obtain ⟨p, q, hpq⟩ := hHeld.2.1; exact ⟨p, q, hcn.blk hpq (by simp)⟩), hHeld.2.2.1.trans hcn, hHeld.2.2.2.chg0 hcn⟩ (fun hHeld => ?_)
    clear hK K
    try simp only [Act.put, List.setIfInBounds_toArray, List.set_cons_zero, List.set_cons_succ, List.toList_toArray]
    clear hcn
    refine takeL 5 rfl (by kernel_rfl) (by kernel_rfl) (by kernel_rfl) (fun _ _ _ h => h) (by rfl) (fun w1 hSw => run_build92 (.tmp 16) (.tmp 19) rfl a1 n c1 (some ⟨bo, 0, none⟩) (m + 1) (m + 1) w1 rfl rfl) hHeld ?_
    simp only [Act.put, List.setIfInBounds_toArray, List.set_cons_zero, List.set_cons_succ]
    refine wpAnyH_ready (rs := [7]) (by kernel_rfl) (by simp) ?_
    refine consL rfl rfl (fun K hK => ?_) AllReadyH.nil
    refine wp_store_mid 92 _ _ rfl bq 0 #[.slice a1 n c1, .slice (some ⟨bo, 0, none⟩) (m + 1) (m + 1)] rfl rfl (there2 kq) info92 (one92 rfl rfl) ?_
    have V0 := set2 (p' := (.slice a1 n c1)) (q' := (.slice (some ⟨bo, 0, none⟩) (m + 1) (m + 1))) kq
    have V1 := ne2 (b := bq) (p := (.slice a1 n c1)) (q := (.slice (some ⟨bo, 0, none⟩) (m + 1) (m + 1))) ko nq
    have V2 := ne2 (b := bq) (p := (.slice a1 n c1)) (q := (.slice (some ⟨bo, 0, none⟩) (m + 1) (m + 1))) hHeld.1 nq6
    have V3 := chg2 (b := bq) (p := (.slice a1 n c1)) (q := (.slice (some ⟨bo, 0, none⟩) (m + 1) (m + 1))) hHeld.2.2.1 gq
    have V4 : ∃ (p : Option Addr × Nat × Nat) (q : Value), Blk (World.setCells wn bq 0 [(.slice a1 n c1), (.slice (some ⟨bo, 0, none⟩) (m + 1) (m + 1))]) br 92 [.slice p.1 p.2.1 p.2.2, q] := by
      obtain ⟨p, q, hpq⟩ := hHeld.2.1
      exact ⟨p, q, ne2 (b := bq) hpq (Ne.symm nqr)⟩
    refine hK.out _ _ ⟨V2, V4, V3, Ent.zero _⟩ (fun hHeld => ?_)
    clear hK K
    try simp only [Act.put, List.setIfInBounds_toArray, List.set_cons_zero, List.set_cons_succ, List.toList_toArray]
    refine wpAnyH_done (by kernel_rfl) ?_ _
    go_wp2_with fail
    go_meet
    exact ⟨bq, bo, rfl, V0, nqr, nor, V1, V2, V4, V3⟩
  case rest =>
    obtain ⟨bq, bo, rfl, kq, nqr, nor, ko, k6, kr, cwA⟩ := hcut
    clear k6r kbr cw
    generalize dlen (x + y) = dd at *
    go_wp2_with fail
    refine (HA.out _ cwA).mono ?_
    rintro e w5 ⟨a', rfl, hnew, hc5⟩
    have kr := (by obtain ⟨p, q, hpq⟩ := kr; exact ⟨p, q, hc5.blk hpq (by simp)⟩ : ∃ (p : Option Addr × Nat × Nat) (q : Value), Blk w5 br 92 [.slice p.1 p.2.1 p.2.2, q])
    have kq := hc5.blk kq (by simp)
    have ko := hc5.blk ko (by simp)
    have cwA := cwA.trans hc5
    obtain ⟨p, q, kr⟩ := kr
    have V0 := set2 (p' := .slice a1 n c1) (q' := .slice (some ⟨bo, 0, none⟩) (m + 1) (m + 1)) kr
    have V1 := ne2 (b := br) (p := .slice a1 n c1) (q := .slice (some ⟨bo, 0, none⟩) (m + 1) (m + 1)) ko nor
    have V3 := chg2 (b := br) (p := .slice a1 n c1) (q := .slice (some ⟨bo, 0, none⟩) (m + 1) (m + 1)) cwA gr
    go_wp2_with (first | (refine wpList_load_mid (by rfl) 92 (.tmp 11) (by rfl) bq 0 (by rfl) [.slice a1 n c1, .slice (some ⟨bo, 0, none⟩) (m + 1) (m + 1)] _ (range2 kq) Takg.underlying92 (by rfl) info92 ?_) | (refine wpList_store_mid (by rfl) 92 (.tmp 10) (.tmp 46) (by rfl) br 0 #[.slice a1 n c1, .slice (some ⟨bo, 0, none⟩) (m + 1) (m + 1)] (by rfl) (by rfl) (there2 kr) info92 (one92 rfl rfl) ?_))
    refine bodyPost_ret (results_cell (by rfl) _ _ _ br 0 (by rfl) [.slice a1 n c1, .slice (some ⟨bo, 0, none⟩) (m + 1) (m + 1)] _ (range2 V0) Takg.underlying92 (by rfl) info92) rfl ?_
    exact Res.of HEN.out (by simp [HEM.out]) (HS0.out.out V3 HO.out V1 (by rw [HEM.out])) rfl V3

set_option maxRecDepth 10000 in
set_option maxHeartbeats 1000000 in
theorem rowAdd (a1 a2 b1 b2 : Option Addr) (c1 c2 x y : Nat) (es : Es) (os : List Int) (w : World) (hs : StE w a1 c1 es a2 c2 os) (hn : 2 ≤ es.length) (ho : os.length < 1000) (l1 : dlen x ≤ 1024) (l2 : dlen y ≤ 1024) (h1 : Ent w b1 x) (h2 : Ent w b2 y) (hd : dlen (x + y) ≤ 1024) :
    Calls Takg.prog 92 #[.int .u8 0, .agg #[.slice a1 es.length c1, .slice a2 os.length c2], .int .u8 2, .slice b1 (dlen x) (dlen x), .slice b2 (dlen y) (dlen y)] w fun e w' => Res w w' e ((es.take (es.length - 2)).map (·.2) ++ [x + y]) os := by
  have HNO := hide (fun W (hW : Chg [] w W) => appended_any a2 c2 os (-2) W (by omega) hs.k2 (hs.cel2.chg0 hW))
  have HO := hide ho
  have HN16 := hide hs.n1
  have HA := hide (fun W (hW : Chg [] w W) => Add_any b1 b2 x y W (by omega) (by omega) (h1.chg0 hW) (h2.chg0 hW))
  have HS := hide (fun a' v W (hW : Chg [] w W) => stacked_two a1 a' c1 v es W (by have := hs.n1; omega) hs.k1 hn hs.b1 hs.nil1 hs.som1 (hs.cel1.chg0 hW))
  have HDZ := hide hd
  obtain ⟨n, en⟩ : ∃ n, n = es.length := ⟨_, rfl⟩
  obtain ⟨m, em⟩ : ∃ n, n = os.length := ⟨_, rfl⟩
  rw [← en] at hn HN16 HS ⊢
  rw [← em] at HNO ho  ⊢
  have HEN := hide en
  have HEM := hide em
  have HS0 := hide hs
  have H1 := hide h1
  have H2 := hide h2
  have HN := hide hn
  clear en em hs h1 h2 ho
  go_enter Takg.func92, Takg.ntmps92
  go_upto_region 1 with (first | (refine wpList_box92 (by rfl) (.tmp 1) (by rfl) (.slice a1 n c1) (.slice a2 m c2) (by rfl) ?_; intro b6 wb hbb k6 cbb) | (refine wpList_new92 (by rfl) (by rfl) ?_; intro br wr hbr kbr cbr))
  have k6r := cbr.blk k6 (by simp)
  have cw := cbb.trans cbr
  have n6r : b6 ≠ br := by have := k6.lt; have := hbr.out; omega
  have g6 : w.heap.size ≤ b6 := by have := hbb.out; omega
  have gr : w.heap.size ≤ br := by have := hbr.out; have := cbb.size; omega
  clear k6 cbb cbr hbb hbr
  simp only [Act.put, List.setIfInBounds_toArray, List.set_cons_zero, List.set_cons_succ]
  go_cut [11] (fun v wc => ∃ bq bo, v = .pointer (some ⟨bq, 0, none⟩) ∧ Blk wc bq 92 [.slice a1 n c1, .slice (some ⟨bo, 0, none⟩) (m + 1) (m + 1)] ∧ bq ≠ br ∧ bo ≠ br ∧ Blk wc bo 62 (Ov (os ++ [-2])) ∧ Blk wc b6 92 [.slice a1 n c1, .slice a2 m c2] ∧ (∃ (p : Option Addr × Nat × Nat) (q : Value), Blk wc br 92 [.slice p.1 p.2.1 p.2.2, q]) ∧ Chg [] w wc)
  case first =>
    refine wp_region_held_drew (S := fun w1 => Blk w1 b6 92 [.slice a1 n c1, .slice a2 m c2] ∧ (∃ (p : Option Addr × Nat × Nat) (q : Value), Blk w1 br 92 [.slice p.1 p.2.1 p.2.2, q]) ∧ Chg [] w w1 ∧ Ent w1 none 0) (by kernel_rfl) ⟨k6r.drew, ⟨(none, 0, 0), _, kbr.drew⟩, cw.drew, Ent.zero _⟩ (fun hHeld => ?_)
    refine takeL 0 (v := ?_) rfl (by kernel_rfl) (by kernel_rfl) (by kernel_rfl) (fun _ _ _ h => h) (by rfl) ?_ hHeld ?_
    rotate_left
    · (intro w1 hSw; have f0 := hSw.1.cell 0 _ rfl; have f1 := hSw.1.cell 1 _ rfl; go_simp; try with_reducible rfl)
    simp only [Act.put, List.setIfInBounds_toArray, List.set_cons_zero, List.set_cons_succ]
    refine takeL 1 (v := ?_) rfl (by kernel_rfl) (by kernel_rfl) (by kernel_rfl) (fun _ _ _ h => h) (by rfl) ?_ hHeld ?_
    rotate_left
    · (intro w1 hSw; have f0 := hSw.1.cell 0 _ rfl; have f1 := hSw.1.cell 1 _ rfl; go_simp; try with_reducible rfl)
    simp only [Act.put, List.setIfInBounds_toArray, List.set_cons_zero, List.set_cons_succ]
    refine takeL 2 (v := ?_) rfl (by kernel_rfl) (by kernel_rfl) (by kernel_rfl) (fun _ _ _ h => h) (by rfl) ?_ hHeld ?_
    rotate_left
    · (intro w1 hSw; have f0 := hSw.1.cell 0 _ rfl; have f1 := hSw.1.cell 1 _ rfl; go_simp; try with_reducible rfl)
    simp only [Act.put, List.setIfInBounds_toArray, List.set_cons_zero, List.set_cons_succ]
    refine takeL 3 (v := ?_) rfl (by kernel_rfl) (by kernel_rfl) (by kernel_rfl) (fun _ _ _ h => h) (by rfl) ?_ hHeld ?_
    rotate_left
    · (intro w1 hSw; have f0 := hSw.1.cell 0 _ rfl; have f1 := hSw.1.cell 1 _ rfl; go_simp; try with_reducible rfl)
    simp only [Act.put, List.setIfInBounds_toArray, List.set_cons_zero, List.set_cons_succ]
    refine wpAnyH_ready (rs := [4, 6]) (by kernel_rfl) (by simp) ?_
    refine consL rfl rfl (fun K hK => ?_) ?_
    · go_simp
      refine (HNO.out _ hHeld.2.2.1).mono ?_
      rintro e wn ⟨bo, rfl, go, ko, hcn⟩
      have nor : bo ≠ br := by obtain ⟨p, q, hpq⟩ := hHeld.2.1; have := hpq.lt; omega
      have go : w.heap.size ≤ bo := Nat.le_trans hHeld.2.2.1.size go
      refine hK.out _ _ ⟨hcn.blk hHeld.1 (by simp), (by obtain ⟨p, q, hpq⟩ := hHeld.2.1; exact ⟨p, q, hcn.blk hpq (by simp)⟩), hHeld.2.2.1.trans hcn, hHeld.2.2.2.chg0 hcn⟩ (fun hHeld => ?_)
      clear hK K
      try simp only [Act.put, List.setIfInBounds_toArray, List.set_cons_zero, List.set_cons_succ, List.toList_toArray]
      clear hcn
      refine takeL 5 rfl (by kernel_rfl) (by kernel_rfl) (by kernel_rfl) (fun _ _ _ h => h) (by rfl) (fun w1 hSw => run_build92 (.tmp 16) (.tmp 19) rfl a1 n c1 (some ⟨bo, 0, none⟩) (m + 1) (m + 1) w1 rfl rfl) hHeld ?_
      simp only [Act.put, List.setIfInBounds_toArray, List.set_cons_zero, List.set_cons_succ]
      refine wpAnyH_ready (rs := [6]) (by kernel_rfl) (by simp) ?_
      refine consL rfl rfl (fun K hK => ?_) AllReadyH.nil
      have hsz := hHeld.2.2.1.size
      have lr := (by obtain ⟨p, q, hpq⟩ := hHeld.2.1; exact hpq.lt : br < _)
      have l6 := hHeld.1.lt
      refine wp_new92 rfl ?_
      intro bq wn hbq kq hcn
      have gq : w.heap.size ≤ bq := by have := hbq.out; omega
      have nqr : bq ≠ br := by have := hbq.out; omega
      have nq6 : b6 ≠ bq := by have := hbq.out; omega
      have nq : bo ≠ bq := by have := hbq.out; have := ko.lt; omega
      have ko := hcn.blk ko (by simp)
      refine hK.out _ _ ⟨hcn.blk hHeld.1 (by simp), (by obtain ⟨p, q, hpq⟩ := hHeld.2.1; exact ⟨p, q, hcn.blk hpq (by simp)⟩), hHeld.2.2.1.trans hcn, hHeld.2.2.2.chg0 hcn⟩ (fun hHeld => ?_)
      clear hK K hsz lr l6
      try simp only [Act.put, List.setIfInBounds_toArray, List.set_cons_zero, List.set_cons_succ, List.toList_toArray]
      refine wpAnyH_ready (rs := [7]) (by kernel_rfl) (by simp) ?_
      refine consL rfl rfl (fun K hK => ?_) AllReadyH.nil
      refine wp_store_mid 92 _ _ rfl bq 0 #[.slice a1 n c1, .slice (some ⟨bo, 0, none⟩) (m + 1) (m + 1)] rfl rfl (there2 kq) info92 (one92 rfl rfl) ?_
      have V0 := set2 (p' := (.slice a1 n c1)) (q' := (.slice (some ⟨bo, 0, none⟩) (m + 1) (m + 1))) kq
      have V1 := ne2 (b := bq) (p := (.slice a1 n c1)) (q := (.slice (some ⟨bo, 0, none⟩) (m + 1) (m + 1))) ko nq
      have V2 := ne2 (b := bq) (p := (.slice a1 n c1)) (q := (.slice (some ⟨bo, 0, none⟩) (m + 1) (m + 1))) hHeld.1 nq6
      have V3 := chg2 (b := bq) (p := (.slice a1 n c1)) (q := (.slice (some ⟨bo, 0, none⟩) (m + 1) (m + 1))) hHeld.2.2.1 gq
      have V4 : ∃ (p : Option Addr × Nat × Nat) (q : Value), Blk (World.setCells wn bq 0 [(.slice a1 n c1), (.slice (some ⟨bo, 0, none⟩) (m + 1) (m + 1))]) br 92 [.slice p.1 p.2.1 p.2.2, q] := by
        obtain ⟨p, q, hpq⟩ := hHeld.2.1
        exact ⟨p, q, ne2 (b := bq) hpq (Ne.symm nqr)⟩
      refine hK.out _ _ ⟨V2, V4, V3, Ent.zero _⟩ (fun hHeld => ?_)
      clear hK K
      try simp only [Act.put, List.setIfInBounds_toArray, List.set_cons_zero, List.set_cons_succ, List.toList_toArray]
      refine wpAnyH_done (by kernel_rfl) ?_ _
      go_wp2_with fail
      go_meet
      exact ⟨bq, bo, rfl, V0, nqr, nor, V1, V2, V4, V3⟩
    refine consL rfl rfl (fun K hK => ?_) AllReadyH.nil
    have hsz := hHeld.2.2.1.size
    have lr := (by obtain ⟨p, q, hpq⟩ := hHeld.2.1; exact hpq.lt : br < _)
    have l6 := hHeld.1.lt
    refine wp_new92 rfl ?_
    intro bq wn hbq kq hcn
    have gq : w.heap.size ≤ bq := by have := hbq.out; omega
    have nqr : bq ≠ br := by have := hbq.out; omega
    have nq6 : b6 ≠ bq := by have := hbq.out; omega
    refine hK.out _ _ ⟨hcn.blk hHeld.1 (by simp), (by obtain ⟨p, q, hpq⟩ := hHeld.2.1; exact ⟨p, q, hcn.blk hpq (by simp)⟩), hHeld.2.2.1.trans hcn, hHeld.2.2.2.chg0 hcn⟩ (fun hHeld => ?_)
    clear hK K hsz lr l6
    try simp only [Act.put, List.setIfInBounds_toArray, List.set_cons_zero, List.set_cons_succ, List.toList_toArray]
    refine wpAnyH_ready (rs := [4]) (by kernel_rfl) (by simp) ?_
    refine consL rfl rfl (fun K hK => ?_) AllReadyH.nil
    go_simp
    refine (HNO.out _ hHeld.2.2.1).mono ?_
    rintro e wn ⟨bo, rfl, go, ko, hcn⟩
    have nq : bo ≠ bq := by have := kq.lt; omega
    have kq := hcn.blk kq (by simp)
    have nor : bo ≠ br := by obtain ⟨p, q, hpq⟩ := hHeld.2.1; have := hpq.lt; omega
    have go : w.heap.size ≤ bo := Nat.le_trans hHeld.2.2.1.size go
    refine hK.out _ _ ⟨hcn.blk hHeld.1 (by simp), (by obtain ⟨p, q, hpq⟩ := hHeld.2.1; exact ⟨p, q, hcn.blk hpq (by simp)⟩), hHeld.2.2.1.trans hcn, hHeld.2.2.2.chg0 hcn⟩ (fun hHeld => ?_)
    clear hK K
    try simp only [Act.put, List.setIfInBounds_toArray, List.set_cons_zero, List.set_cons_succ, List.toList_toArray]
    clear hcn
    refine takeL 5 rfl (by kernel_rfl) (by kernel_rfl) (by kernel_rfl) (fun _ _ _ h => h) (by rfl) (fun w1 hSw => run_build92 (.tmp 16) (.tmp 19) rfl a1 n c1 (some ⟨bo, 0, none⟩) (m + 1) (m + 1) w1 rfl rfl) hHeld ?_
    simp only [Act.put, List.setIfInBounds_toArray, List.set_cons_zero, List.set_cons_succ]
    refine wpAnyH_ready (rs := [7]) (by kernel_rfl) (by simp) ?_
    refine consL rfl rfl (fun K hK => ?_) AllReadyH.nil
    refine wp_store_mid 92 _ _ rfl bq 0 #[.slice a1 n c1, .slice (some ⟨bo, 0, none⟩) (m + 1) (m + 1)] rfl rfl (there2 kq) info92 (one92 rfl rfl) ?_
    have V0 := set2 (p' := (.slice a1 n c1)) (q' := (.slice (some ⟨bo, 0, none⟩) (m + 1) (m + 1))) kq
    have V1 := ne2 (b := bq) (p := (.slice a1 n c1)) (q := (.slice (some ⟨bo, 0, none⟩) (m + 1) (m + 1))) ko nq
    have V2 := ne2 (b := bq) (p := (.slice a1 n c1)) (q := (.slice (some ⟨bo, 0, none⟩) (m + 1) (m + 1))) hHeld.1 nq6
    have V3 := chg2 (b := bq) (p := (.slice a1 n c1)) (q := (.slice (some ⟨bo, 0, none⟩) (m + 1) (m + 1))) hHeld.2.2.1 gq
    have V4 : ∃ (p : Option Addr × Nat × Nat) (q : Value), Blk (World.setCells wn bq 0 [(.slice a1 n c1), (.slice (some ⟨bo, 0, none⟩) (m + 1) (m + 1))]) br 92 [.slice p.1 p.2.1 p.2.2, q] := by
      obtain ⟨p, q, hpq⟩ := hHeld.2.1
      exact ⟨p, q, ne2 (b := bq) hpq (Ne.symm nqr)⟩
    refine hK.out _ _ ⟨V2, V4, V3, Ent.zero _⟩ (fun hHeld => ?_)
    clear hK K
    try simp only [Act.put, List.setIfInBounds_toArray, List.set_cons_zero, List.set_cons_succ, List.toList_toArray]
    refine wpAnyH_done (by kernel_rfl) ?_ _
    go_wp2_with fail
    go_meet
    exact ⟨bq, bo, rfl, V0, nqr, nor, V1, V2, V4, V3⟩
  case rest =>
    obtain ⟨bq, bo, rfl, kq, nqr, nor, ko, k6, kr, cwA⟩ := hcut
    clear k6r kbr cw
    have lr := (by obtain ⟨p, q, hpq⟩ := kr; exact hpq.lt : br < _)
    go_wp2_with fail
    refine (HA.out _ cwA).mono ?_
    rintro e w5 ⟨a', rfl, hnew, hc5⟩
    have kr := (by obtain ⟨p, q, hpq⟩ := kr; exact ⟨p, q, hc5.blk hpq (by simp)⟩ : ∃ (p : Option Addr × Nat × Nat) (q : Value), Blk w5 br 92 [.slice p.1 p.2.1 p.2.2, q])
    have k6 := hc5.blk k6 (by simp)
    have kq := hc5.blk kq (by simp)
    have ko := hc5.blk ko (by simp)
    have cwA := cwA.trans hc5
    have HNE : Hid (∀ b', a' = some ⟨b', 0, none⟩ → b' ∉ [br]) := fun b' hb' => by have := hnew.new b' hb'; simp; omega
    have hE := hnew.ent
    clear hnew hc5 lr
    go_upto_region 11 with fail
    refine wp_region_held_drew (S := fun w1 => Blk w1 b6 92 [.slice a1 n c1, .slice a2 m c2] ∧ (∃ (p : Option Addr × Nat × Nat) (q : Value), Blk w1 br 92 [.slice p.1 p.2.1 p.2.2, q]) ∧ Chg [] w w1 ∧ Ent w1 a' (x + y)) (by kernel_rfl) ⟨k6.drew, (by obtain ⟨p, q, hpq⟩ := kr; exact ⟨p, q, hpq.drew⟩), cwA.drew, hE.chg0 (Chg.refl [] _).drew⟩ (fun hHeld => ?_)
    clear k6 kr cwA kq ko
    refine takeL 0 (v := ?_) rfl (by kernel_rfl) (by kernel_rfl) (by kernel_rfl) (fun _ _ _ h => h) (by rfl) ?_ hHeld ?_
    rotate_left
    · (intro w1 hSw; have f0 := hSw.1.cell 0 _ rfl; have f1 := hSw.1.cell 1 _ rfl; go_simp; try with_reducible rfl)
    simp only [Act.put, List.setIfInBounds_toArray, List.set_cons_zero, List.set_cons_succ]
    refine takeL 1 (v := ?_) rfl (by kernel_rfl) (by kernel_rfl) (by kernel_rfl) (fun _ _ _ h => h) (by rfl) ?_ hHeld ?_
    rotate_left
    · (intro w1 hSw; have f0 := hSw.1.cell 0 _ rfl; have f1 := hSw.1.cell 1 _ rfl; go_simp; try with_reducible rfl)
    simp only [Act.put, List.setIfInBounds_toArray, List.set_cons_zero, List.set_cons_succ]
    refine takeL 2 (v := ?_) rfl (by kernel_rfl) (by kernel_rfl) (by kernel_rfl) (fun _ _ _ h => h) (by rfl) ?_ hHeld ?_
    rotate_left
    · (intro w1 hSw; have f0 := hSw.1.cell 0 _ rfl; have f1 := hSw.1.cell 1 _ rfl; go_simp; try with_reducible rfl)
    simp only [Act.put, List.setIfInBounds_toArray, List.set_cons_zero, List.set_cons_succ]
    refine takeL 4 (v := ?_) rfl (by kernel_rfl) (by kernel_rfl) (by kernel_rfl) (fun _ _ _ h => h) (by rfl) ?_ hHeld ?_
    rotate_left
    · (intro w1 hSw; have f0 := hSw.1.cell 0 _ rfl; have f1 := hSw.1.cell 1 _ rfl; go_simp; try with_reducible rfl)
    simp only [Act.put, List.setIfInBounds_toArray, List.set_cons_zero, List.set_cons_succ]
    refine takeL 5 (v := ?_) rfl (by kernel_rfl) (by kernel_rfl) (by kernel_rfl) (fun _ _ _ h => h) (by rfl) ?_ hHeld ?_
    rotate_left
    · (intro w1 hSw; have f0 := hSw.1.cell 0 _ rfl; have f1 := hSw.1.cell 1 _ rfl; go_simp; try with_reducible rfl)
    simp only [Act.put, List.setIfInBounds_toArray, List.set_cons_zero, List.set_cons_succ]
    refine wpAnyH_ready (rs := [3]) (by kernel_rfl) (by simp) ?_
    refine consL rfl rfl (fun K hK => ?_) AllReadyH.nil
    go_simp
    refine (HS.out a' _ _ hHeld.2.2.1).mono ?_
    rintro e wn ⟨b, rfl, gb, kb, hcn⟩
    have nbr : b ≠ br := by obtain ⟨p, q, hpq⟩ := hHeld.2.1; have := hpq.lt; omega
    refine hK.out _ _ ⟨hcn.blk hHeld.1 (by simp), (by obtain ⟨p, q, hpq⟩ := hHeld.2.1; exact ⟨p, q, hcn.blk hpq (by simp)⟩), hHeld.2.2.1.trans hcn, hHeld.2.2.2.chg0 hcn⟩ (fun hHeld => ?_)
    clear hK K
    try simp only [Act.put, List.setIfInBounds_toArray, List.set_cons_zero, List.set_cons_succ, List.toList_toArray]
    clear hcn
    refine takeL 6 rfl (by kernel_rfl) (by kernel_rfl) (by kernel_rfl) (fun _ _ _ h => h) (by rfl) (fun w1 hSw => run_build92 (.tmp 50) (.tmp 52) rfl (some ⟨b, 0, none⟩) (n - 2 + 1) (n - 2 + 1) a2 m c2 w1 rfl rfl) hHeld ?_
    simp only [Act.put, List.setIfInBounds_toArray, List.set_cons_zero, List.set_cons_succ]
    obtain ⟨p, q, kr⟩ := hHeld.2.1
    refine wpAnyH_ready (rs := [7]) (by kernel_rfl) (by simp) ?_
    refine consL rfl rfl (fun K hK => ?_) AllReadyH.nil
    refine wp_store_mid 92 _ _ rfl br 0 #[(.slice (some ⟨b, 0, none⟩) (n - 2 + 1) (n - 2 + 1)), (.slice a2 m c2)] rfl rfl (there2 kr) info92 (one92 rfl rfl) ?_
    have V0 := set2 (p' := (.slice (some ⟨b, 0, none⟩) (n - 2 + 1) (n - 2 + 1))) (q' := (.slice a2 m c2)) kr
    have V2 := ne2 (b := br) (p := (.slice (some ⟨b, 0, none⟩) (n - 2 + 1) (n - 2 + 1))) (q := (.slice a2 m c2)) hHeld.1 n6r
    have V3 := chg2 (b := br) (p := (.slice (some ⟨b, 0, none⟩) (n - 2 + 1) (n - 2 + 1))) (q := (.slice a2 m c2)) hHeld.2.2.1 gr
    have V4 : Chg [br] wn (wn.setCells br 0 [(.slice (some ⟨b, 0, none⟩) (n - 2 + 1) (n - 2 + 1)), (.slice a2 m c2)]) := ((Chg.refl [br] wn).setCell ⟨br, 0, none⟩ (by simp) (.slice (some ⟨b, 0, none⟩) (n - 2 + 1) (n - 2 + 1))).setCell ⟨br, 0 + 1, none⟩ (by simp) (.slice a2 m c2)
    have V5 := hHeld.2.2.2.chg V4 HNE.out
    have V1 := ne2 (b := br) (p := (.slice (some ⟨b, 0, none⟩) (n - 2 + 1) (n - 2 + 1))) (q := (.slice a2 m c2)) kb nbr
    refine hK.out _ _ ⟨V2, ⟨((some ⟨b, 0, none⟩), (n - 2 + 1), (n - 2 + 1)), _, V0⟩, V3, V5⟩ (fun hHeld => ?_)
    clear hK K
    try simp only [Act.put, List.setIfInBounds_toArray, List.set_cons_zero, List.set_cons_succ, List.toList_toArray]
    generalize wn.setCells br 0 [(.slice (some ⟨b, 0, none⟩) (n - 2 + 1) (n - 2 + 1)), (.slice a2 m c2)] = wz at *
    refine wpAnyH_done (by kernel_rfl) ?_ _
    go_wp2_with fail
    refine bodyPost_ret (results_cell (by rfl) _ _ _ br 0 (by rfl) [(.slice (some ⟨b, 0, none⟩) (n - 2 + 1) (n - 2 + 1)), (.slice a2 m c2)] _ (range2 V0) Takg.underlying92 (by rfl) info92) rfl ?_
    exact Res.push HEN.out HEM.out HS0.out V3 V1 rfl (by have := HN16.out; have := HN.out; omega) V5 HDZ.out

theorem dlen_sub {x y n : Nat} (h : dlen x ≤ n) : dlen (x - y) ≤ n := dlen_le (Nat.lt_of_le_of_lt (Nat.sub_le x y) (Nat.lt_of_lt_of_le (dlen_lt x) (Nat.pow_le_pow_right (by decide) h)))

set_option maxRecDepth 10000 in
set_option maxHeartbeats 1000000 in
theorem rowSub (a1 a2 b1 b2 : Option Addr) (c1 c2 x y : Nat) (es : Es) (os : List Int) (w : World) (hs : StE w a1 c1 es a2 c2 os) (hn : 2 ≤ es.length) (ho : os.length < 1000) (l1 : dlen x ≤ 1024) (l2 : dlen y ≤ 1024) (h1 : Ent w b1 x) (h2 : Ent w b2 y) (hg : geB x y = true) :
    Calls Takg.prog 92 #[.int .u8 0, .agg #[.slice a1 es.length c1, .slice a2 os.length c2], .int .u8 3, .slice b1 (dlen x) (dlen x), .slice b2 (dlen y) (dlen y)] w fun e w' => Res w w' e ((es.take (es.length - 2)).map (·.2) ++ [x - y]) os := by
  have HNO := hide (fun W (hW : Chg [] w W) => appended_any a2 c2 os (-2) W (by omega) hs.k2 (hs.cel2.chg0 hW))
  have HO := hide ho
  have HN16 := hide hs.n1
  have HA := hide (fun W (hW : Chg [] w W) => Sub_any b1 b2 x y W (by omega) (by omega) (h1.chg0 hW) (h2.chg0 hW))
  rw [hg] at HA
  have HS := hide (fun a' v W (hW : Chg [] w W) => stacked_two a1 a' c1 v es W (by have := hs.n1; omega) hs.k1 hn hs.b1 hs.nil1 hs.som1 (hs.cel1.chg0 hW))
  have HDZ := hide (dlen_sub (y := y) l1)
  obtain ⟨n, en⟩ : ∃ n, n = es.length := ⟨_, rfl⟩
  obtain ⟨m, em⟩ : ∃ n, n = os.length := ⟨_, rfl⟩
  rw [← en] at hn HN16 HS ⊢
  rw [← em] at HNO ho  ⊢
  have HEN := hide en
  have HEM := hide em
  have HS0 := hide hs
  have H1 := hide h1
  have H2 := hide h2
  have HN := hide hn
  clear en em hs h1 h2 ho
  go_enter Takg.func92, Takg.ntmps92
  go_upto_region 1 with (first | (refine wpList_box92 (by rfl) (.tmp 1) (by rfl) (.slice a1 n c1) (.slice a2 m c2) (by rfl) ?_; intro b6 wb hbb k6 cbb) | (refine wpList_new92 (by rfl) (by rfl) ?_; intro br wr hbr kbr cbr))
  have k6r := cbr.blk k6 (by simp)
  have cw := cbb.trans cbr
  have n6r : b6 ≠ br := by have := k6.lt; have := hbr.out; omega
  have g6 : w.heap.size ≤ b6 := by have := hbb.out; omega
  have gr : w.heap.size ≤ br := by have := hbr.out; have := cbb.size; omega
  clear k6 cbb cbr hbb hbr
  simp only [Act.put, List.setIfInBounds_toArray, List.set_cons_zero, List.set_cons_succ]
  go_cut [11] (fun v wc => ∃ bq bo, v = .pointer (some ⟨bq, 0, none⟩) ∧ Blk wc bq 92 [.slice a1 n c1, .slice (some ⟨bo, 0, none⟩) (m + 1) (m + 1)] ∧ bq ≠ br ∧ bo ≠ br ∧ Blk wc bo 62 (Ov (os ++ [-2])) ∧ Blk wc b6 92 [.slice a1 n c1, .slice a2 m c2] ∧ (∃ (p : Option Addr × Nat × Nat) (q : Value), Blk wc br 92 [.slice p.1 p.2.1 p.2.2, q]) ∧ Chg [] w wc)
  case first =>
    refine wp_region_held_drew (S := fun w1 => Blk w1 b6 92 [.slice a1 n c1, .slice a2 m c2] ∧ (∃ (p : Option Addr × Nat × Nat) (q : Value), Blk w1 br 92 [.slice p.1 p.2.1 p.2.2, q]) ∧ Chg [] w w1 ∧ Ent w1 none 0) (by kernel_rfl) ⟨k6r.drew, ⟨(none, 0, 0), _, kbr.drew⟩, cw.drew, Ent.zero _⟩ (fun hHeld => ?_)
    refine takeL 0 (v := ?_) rfl (by kernel_rfl) (by kernel_rfl) (by kernel_rfl) (fun _ _ _ h => h) (by rfl) ?_ hHeld ?_
    rotate_left
    · (intro w1 hSw; have f0 := hSw.1.cell 0 _ rfl; have f1 := hSw.1.cell 1 _ rfl; go_simp; try with_reducible rfl)
    simp only [Act.put, List.setIfInBounds_toArray, List.set_cons_zero, List.set_cons_succ]
    refine takeL 1 (v := ?_) rfl (by kernel_rfl) (by kernel_rfl) (by kernel_rfl) (fun _ _ _ h => h) (by rfl) ?_ hHeld ?_
    rotate_left
    · (intro w1 hSw; have f0 := hSw.1.cell 0 _ rfl; have f1 := hSw.1.cell 1 _ rfl; go_simp; try with_reducible rfl)
    simp only [Act.put, List.setIfInBounds_toArray, List.set_cons_zero, List.set_cons_succ]
    refine takeL 2 (v := ?_) rfl (by kernel_rfl) (by kernel_rfl) (by kernel_rfl) (fun _ _ _ h => h) (by rfl) ?_ hHeld ?_
    rotate_left
    · (intro w1 hSw; have f0 := hSw.1.cell 0 _ rfl; have f1 := hSw.1.cell 1 _ rfl; go_simp; try with_reducible rfl)
    simp only [Act.put, List.setIfInBounds_toArray, List.set_cons_zero, List.set_cons_succ]
    refine takeL 3 (v := ?_) rfl (by kernel_rfl) (by kernel_rfl) (by kernel_rfl) (fun _ _ _ h => h) (by rfl) ?_ hHeld ?_
    rotate_left
    · (intro w1 hSw; have f0 := hSw.1.cell 0 _ rfl; have f1 := hSw.1.cell 1 _ rfl; go_simp; try with_reducible rfl)
    simp only [Act.put, List.setIfInBounds_toArray, List.set_cons_zero, List.set_cons_succ]
    refine wpAnyH_ready (rs := [4, 6]) (by kernel_rfl) (by simp) ?_
    refine consL rfl rfl (fun K hK => ?_) ?_
    · go_simp
      refine (HNO.out _ hHeld.2.2.1).mono ?_
      rintro e wn ⟨bo, rfl, go, ko, hcn⟩
      have nor : bo ≠ br := by obtain ⟨p, q, hpq⟩ := hHeld.2.1; have := hpq.lt; omega
      have go : w.heap.size ≤ bo := Nat.le_trans hHeld.2.2.1.size go
      refine hK.out _ _ ⟨hcn.blk hHeld.1 (by simp), (by obtain ⟨p, q, hpq⟩ := hHeld.2.1; exact ⟨p, q, hcn.blk hpq (by simp)⟩), hHeld.2.2.1.trans hcn, hHeld.2.2.2.chg0 hcn⟩ (fun hHeld => ?_)
      clear hK K
      try simp only [Act.put, List.setIfInBounds_toArray, List.set_cons_zero, List.set_cons_succ, List.toList_toArray]
      clear hcn
      refine takeL 5 rfl (by kernel_rfl) (by kernel_rfl) (by kernel_rfl) (fun _ _ _ h => h) (by rfl) (fun w1 hSw => run_build92 (.tmp 16) (.tmp 19) rfl a1 n c1 (some ⟨bo, 0, none⟩) (m + 1) (m + 1) w1 rfl rfl) hHeld ?_
      simp only [Act.put, List.setIfInBounds_toArray, List.set_cons_zero, List.set_cons_succ]
      refine wpAnyH_ready (rs := [6]) (by kernel_rfl) (by simp) ?_
      refine consL rfl rfl (fun K hK => ?_) AllReadyH.nil
      have hsz := hHeld.2.2.1.size
      have lr := (by obtain ⟨p, q, hpq⟩ := hHeld.2.1; exact hpq.lt : br < _)
      have l6 := hHeld.1.lt
      refine wp_new92 rfl ?_
      intro bq wn hbq kq hcn
      have gq : w.heap.size ≤ bq := by have := hbq.out; omega
      have nqr : bq ≠ br := by have := hbq.out; omega
      have nq6 : b6 ≠ bq := by have := hbq.out; omega
      have nq : bo ≠ bq := by have := hbq.out; have := ko.lt; omega
      have ko := hcn.blk ko (by simp)
      refine hK.out _ _ ⟨hcn.blk hHeld.1 (by simp), (by obtain ⟨p, q, hpq⟩ := hHeld.2.1; exact ⟨p, q, hcn.blk hpq (by simp)⟩), hHeld.2.2.1.trans hcn, hHeld.2.2.2.chg0 hcn⟩ (fun hHeld => ?_)
      clear hK K hsz lr l6
      try simp only [Act.put, List.setIfInBounds_toArray, List.set_cons_zero, List.set_cons_succ, List.toList_toArray]
      refine wpAnyH_ready (rs := [7]) (by kernel_rfl) (by simp) ?_
      refine consL rfl rfl (fun K hK => ?_) AllReadyH.nil
      refine wp_store_mid 92 _ _ rfl bq 0 #[.slice a1 n c1, .slice (some ⟨bo, 0, none⟩) (m + 1) (m + 1)] rfl rfl (there2 kq) info92 (one92 rfl rfl) ?_
      have V0 := set2 (p' := (.slice a1 n c1)) (q' := (.slice (some ⟨bo, 0, none⟩) (m + 1) (m + 1))) kq
      have V1 := ne2 (b := bq) (p := (.slice a1 n c1)) (q := (.slice (some ⟨bo, 0, none⟩) (m + 1) (m + 1))) ko nq
      have V2 := ne2 (b := bq) (p := (.slice a1 n c1)) (q := (.slice (some ⟨bo, 0, none⟩) (m + 1) (m + 1))) hHeld.1 nq6
      have V3 := chg2 (b := bq) (p := (.slice a1 n c1)) (q := (.slice (some ⟨bo, 0, none⟩) (m + 1) (m + 1))) hHeld.2.2.1 gq
      have V4 : ∃ (p : Option Addr × Nat × Nat) (q : Value), Blk (World.setCells wn bq 0 [(.slice a1 n c1), (.slice (some ⟨bo, 0, none⟩) (m + 1) (m + 1))]) br 92 [.slice p.1 p.2.1 p.2.2, q] := by
        obtain ⟨p, q, hpq⟩ := hHeld.2.1
        exact ⟨p, q, ne2 (b := bq) hpq (Ne.symm nqr)⟩
      refine hK.out _ _ ⟨V2, V4, V3, Ent.zero _⟩ (fun hHeld => ?_)
      clear hK K
      try simp only [Act.put, List.setIfInBounds_toArray, List.set_cons_zero, List.set_cons_succ, List.toList_toArray]
      refine wpAnyH_done (by kernel_rfl) ?_ _
      go_wp2_with fail
      go_meet
      exact ⟨bq, bo, rfl, V0, nqr, nor, V1, V2, V4, V3⟩
    refine consL rfl rfl (fun K hK => ?_) AllReadyH.nil
    have hsz := hHeld.2.2.1.size
    have lr := (by obtain ⟨p, q, hpq⟩ := hHeld.2.1; exact hpq.lt : br < _)
    have l6 := hHeld.1.lt
    refine wp_new92 rfl ?_
    intro bq wn hbq kq hcn
    have gq : w.heap.size ≤ bq := by have := hbq.out; omega
    have nqr : bq ≠ br := by have := hbq.out; omega
    have nq6 : b6 ≠ bq := by have := hbq.out; omega
    refine hK.out _ _ ⟨hcn.blk hHeld.1 (by simp), (by obtain ⟨p, q, hpq⟩ := hHeld.2.1; exact ⟨p, q, hcn.blk hpq (by simp)⟩), hHeld.2.2.1.trans hcn, hHeld.2.2.2.chg0 hcn⟩ (fun hHeld => ?_)
    clear hK K hsz lr l6
    try simp only [Act.put, List.setIfInBounds_toArray, List.set_cons_zero, List.set_cons_succ, List.toList_toArray]
    refine wpAnyH_ready (rs := [4]) (by kernel_rfl) (by simp) ?_
    refine consL rfl rfl (fun K hK => ?_) AllReadyH.nil
    go_simp
    refine (HNO.out _ hHeld.2.2.1).mono ?_
    rintro e wn ⟨bo, rfl, go, ko, hcn⟩
    have nq : bo ≠ bq := by have := kq.lt; omega
    have kq := hcn.blk kq (by simp)
    have nor : bo ≠ br := by obtain ⟨p, q, hpq⟩ := hHeld.2.1; have := hpq.lt; omega
    have go : w.heap.size ≤ bo := Nat.le_trans hHeld.2.2.1.size go
    refine hK.out _ _ ⟨hcn.blk hHeld.1 (by simp), (by obtain ⟨p, q, hpq⟩ := hHeld.2.1; exact ⟨p, q, hcn.blk hpq (by simp)⟩), hHeld.2.2.1.trans hcn, hHeld.2.2.2.chg0 hcn⟩ (fun hHeld => ?_)
    clear hK K
    try simp only [Act.put, List.setIfInBounds_toArray, List.set_cons_zero, List.set_cons_succ, List.toList_toArray]
    clear hcn
    refine takeL 5 rfl (by kernel_rfl) (by kernel_rfl) (by kernel_rfl) (fun _ _ _ h => h) (by rfl) (fun w1 hSw => run_build92 (.tmp 16) (.tmp 19) rfl a1 n c1 (some ⟨bo, 0, none⟩) (m + 1) (m + 1) w1 rfl rfl) hHeld ?_
    simp only [Act.put, List.setIfInBounds_toArray, List.set_cons_zero, List.set_cons_succ]
    refine wpAnyH_ready (rs := [7]) (by kernel_rfl) (by simp) ?_
    refine consL rfl rfl (fun K hK => ?_) AllReadyH.nil
    refine wp_store_mid 92 _ _ rfl bq 0 #[.slice a1 n c1, .slice (some ⟨bo, 0, none⟩) (m + 1) (m + 1)] rfl rfl (there2 kq) info92 (one92 rfl rfl) ?_
    have V0 := set2 (p' := (.slice a1 n c1)) (q' := (.slice (some ⟨bo, 0, none⟩) (m + 1) (m + 1))) kq
    have V1 := ne2 (b := bq) (p := (.slice a1 n c1)) (q := (.slice (some ⟨bo, 0, none⟩) (m + 1) (m + 1))) ko nq
    have V2 := ne2 (b := bq) (p := (.slice a1 n c1)) (q := (.slice (some ⟨bo, 0, none⟩) (m + 1) (m + 1))) hHeld.1 nq6
    have V3 := chg2 (b := bq) (p := (.slice a1 n c1)) (q := (.slice (some ⟨bo, 0, none⟩) (m + 1) (m + 1))) hHeld.2.2.1 gq
    have V4 : ∃ (p : Option Addr × Nat × Nat) (q : Value), Blk (World.setCells wn bq 0 [(.slice a1 n c1), (.slice (some ⟨bo, 0, none⟩) (m + 1) (m + 1))]) br 92 [.slice p.1 p.2.1 p.2.2, q] := by
      obtain ⟨p, q, hpq⟩ := hHeld.2.1
      exact ⟨p, q, ne2 (b := bq) hpq (Ne.symm nqr)⟩
    refine hK.out _ _ ⟨V2, V4, V3, Ent.zero _⟩ (fun hHeld => ?_)
    clear hK K
    try simp only [Act.put, List.setIfInBounds_toArray, List.set_cons_zero, List.set_cons_succ, List.toList_toArray]
    refine wpAnyH_done (by kernel_rfl) ?_ _
    go_wp2_with fail
    go_meet
    exact ⟨bq, bo, rfl, V0, nqr, nor, V1, V2, V4, V3⟩
  case rest =>
    obtain ⟨bq, bo, rfl, kq, nqr, nor, ko, k6, kr, cwA⟩ := hcut
    clear k6r kbr cw
    have lr := (by obtain ⟨p, q, hpq⟩ := kr; exact hpq.lt : br < _)
    go_wp2_with fail
    refine (HA.out _ cwA).mono ?_
    rintro e w5 ⟨a', rfl, hnew, hc5⟩
    have kr := (by obtain ⟨p, q, hpq⟩ := kr; exact ⟨p, q, hc5.blk hpq (by simp)⟩ : ∃ (p : Option Addr × Nat × Nat) (q : Value), Blk w5 br 92 [.slice p.1 p.2.1 p.2.2, q])
    have k6 := hc5.blk k6 (by simp)
    have kq := hc5.blk kq (by simp)
    have ko := hc5.blk ko (by simp)
    have cwA := cwA.trans hc5
    have HNE : Hid (∀ b', a' = some ⟨b', 0, none⟩ → b' ∉ [br]) := fun b' hb' => by have := hnew.new b' hb'; simp; omega
    have hE := hnew.ent
    clear hnew hc5 lr
    go_upto_region 16 with fail
    refine wp_region_held_drew (S := fun w1 => Blk w1 b6 92 [.slice a1 n c1, .slice a2 m c2] ∧ (∃ (p : Option Addr × Nat × Nat) (q : Value), Blk w1 br 92 [.slice p.1 p.2.1 p.2.2, q]) ∧ Chg [] w w1 ∧ Ent w1 a' (x - y)) (by kernel_rfl) ⟨k6.drew, (by obtain ⟨p, q, hpq⟩ := kr; exact ⟨p, q, hpq.drew⟩), cwA.drew, hE.chg0 (Chg.refl [] _).drew⟩ (fun hHeld => ?_)
    clear k6 kr cwA kq ko
    refine takeL 0 (v := ?_) rfl (by kernel_rfl) (by kernel_rfl) (by kernel_rfl) (fun _ _ _ h => h) (by rfl) ?_ hHeld ?_
    rotate_left
    · (intro w1 hSw; have f0 := hSw.1.cell 0 _ rfl; have f1 := hSw.1.cell 1 _ rfl; go_simp; try with_reducible rfl)
    simp only [Act.put, List.setIfInBounds_toArray, List.set_cons_zero, List.set_cons_succ]
    refine takeL 1 (v := ?_) rfl (by kernel_rfl) (by kernel_rfl) (by kernel_rfl) (fun _ _ _ h => h) (by rfl) ?_ hHeld ?_
    rotate_left
    · (intro w1 hSw; have f0 := hSw.1.cell 0 _ rfl; have f1 := hSw.1.cell 1 _ rfl; go_simp; try with_reducible rfl)
    simp only [Act.put, List.setIfInBounds_toArray, List.set_cons_zero, List.set_cons_succ]
    refine takeL 2 (v := ?_) rfl (by kernel_rfl) (by kernel_rfl) (by kernel_rfl) (fun _ _ _ h => h) (by rfl) ?_ hHeld ?_
    rotate_left
    · (intro w1 hSw; have f0 := hSw.1.cell 0 _ rfl; have f1 := hSw.1.cell 1 _ rfl; go_simp; try with_reducible rfl)
    simp only [Act.put, List.setIfInBounds_toArray, List.set_cons_zero, List.set_cons_succ]
    refine takeL 4 (v := ?_) rfl (by kernel_rfl) (by kernel_rfl) (by kernel_rfl) (fun _ _ _ h => h) (by rfl) ?_ hHeld ?_
    rotate_left
    · (intro w1 hSw; have f0 := hSw.1.cell 0 _ rfl; have f1 := hSw.1.cell 1 _ rfl; go_simp; try with_reducible rfl)
    simp only [Act.put, List.setIfInBounds_toArray, List.set_cons_zero, List.set_cons_succ]
    refine takeL 5 (v := ?_) rfl (by kernel_rfl) (by kernel_rfl) (by kernel_rfl) (fun _ _ _ h => h) (by rfl) ?_ hHeld ?_
    rotate_left
    · (intro w1 hSw; have f0 := hSw.1.cell 0 _ rfl; have f1 := hSw.1.cell 1 _ rfl; go_simp; try with_reducible rfl)
    simp only [Act.put, List.setIfInBounds_toArray, List.set_cons_zero, List.set_cons_succ]
    refine wpAnyH_ready (rs := [3]) (by kernel_rfl) (by simp) ?_
    refine consL rfl rfl (fun K hK => ?_) AllReadyH.nil
    go_simp
    refine (HS.out a' _ _ hHeld.2.2.1).mono ?_
    rintro e wn ⟨b, rfl, gb, kb, hcn⟩
    have nbr : b ≠ br := by obtain ⟨p, q, hpq⟩ := hHeld.2.1; have := hpq.lt; omega
    refine hK.out _ _ ⟨hcn.blk hHeld.1 (by simp), (by obtain ⟨p, q, hpq⟩ := hHeld.2.1; exact ⟨p, q, hcn.blk hpq (by simp)⟩), hHeld.2.2.1.trans hcn, hHeld.2.2.2.chg0 hcn⟩ (fun hHeld => ?_)
    clear hK K
    try simp only [Act.put, List.setIfInBounds_toArray, List.set_cons_zero, List.set_cons_succ, List.toList_toArray]
    clear hcn
    refine takeL 6 rfl (by kernel_rfl) (by kernel_rfl) (by kernel_rfl) (fun _ _ _ h => h) (by rfl) (fun w1 hSw => run_build92 (.tmp 74) (.tmp 76) rfl (some ⟨b, 0, none⟩) (n - 2 + 1) (n - 2 + 1) a2 m c2 w1 rfl rfl) hHeld ?_
    simp only [Act.put, List.setIfInBounds_toArray, List.set_cons_zero, List.set_cons_succ]
    obtain ⟨p, q, kr⟩ := hHeld.2.1
    refine wpAnyH_ready (rs := [7]) (by kernel_rfl) (by simp) ?_
    refine consL rfl rfl (fun K hK => ?_) AllReadyH.nil
    refine wp_store_mid 92 _ _ rfl br 0 #[(.slice (some ⟨b, 0, none⟩) (n - 2 + 1) (n - 2 + 1)), (.slice a2 m c2)] rfl rfl (there2 kr) info92 (one92 rfl rfl) ?_
    have V0 := set2 (p' := (.slice (some ⟨b, 0, none⟩) (n - 2 + 1) (n - 2 + 1))) (q' := (.slice a2 m c2)) kr
    have V2 := ne2 (b := br) (p := (.slice (some ⟨b, 0, none⟩) (n - 2 + 1) (n - 2 + 1))) (q := (.slice a2 m c2)) hHeld.1 n6r
    have V3 := chg2 (b := br) (p := (.slice (some ⟨b, 0, none⟩) (n - 2 + 1) (n - 2 + 1))) (q := (.slice a2 m c2)) hHeld.2.2.1 gr
    have V4 : Chg [br] wn (wn.setCells br 0 [(.slice (some ⟨b, 0, none⟩) (n - 2 + 1) (n - 2 + 1)), (.slice a2 m c2)]) := ((Chg.refl [br] wn).setCell ⟨br, 0, none⟩ (by simp) (.slice (some ⟨b, 0, none⟩) (n - 2 + 1) (n - 2 + 1))).setCell ⟨br, 0 + 1, none⟩ (by simp) (.slice a2 m c2)
    have V5 := hHeld.2.2.2.chg V4 HNE.out
    have V1 := ne2 (b := br) (p := (.slice (some ⟨b, 0, none⟩) (n - 2 + 1) (n - 2 + 1))) (q := (.slice a2 m c2)) kb nbr
    refine hK.out _ _ ⟨V2, ⟨((some ⟨b, 0, none⟩), (n - 2 + 1), (n - 2 + 1)), _, V0⟩, V3, V5⟩ (fun hHeld => ?_)
    clear hK K
    try simp only [Act.put, List.setIfInBounds_toArray, List.set_cons_zero, List.set_cons_succ, List.toList_toArray]
    generalize wn.setCells br 0 [(.slice (some ⟨b, 0, none⟩) (n - 2 + 1) (n - 2 + 1)), (.slice a2 m c2)] = wz at *
    refine wpAnyH_done (by kernel_rfl) ?_ _
    go_wp2_with fail
    refine bodyPost_ret (results_cell (by rfl) _ _ _ br 0 (by rfl) [(.slice (some ⟨b, 0, none⟩) (n - 2 + 1) (n - 2 + 1)), (.slice a2 m c2)] _ (range2 V0) Takg.underlying92 (by rfl) info92) rfl ?_
    exact Res.push HEN.out HEM.out HS0.out V3 V1 rfl (by have := HN16.out; have := HN.out; omega) V5 HDZ.out

theorem Res.push2 {w w' : World} {a1 a2 a' : Option Addr} {c1 c2 b b' c cc n m k v : Nat} {u : Int} {es : Es} {os : List Int} (hn : n = es.length) (hm : m = os.length) (h : StE w a1 c1 es a2 c2 os) (hc : Chg [] w w') (hb : Blk w' b 83 (Sv (es.take (n - k) ++ [(a', v)]))) (hcc : c = n - k + 1) (hk : n - k < 16) (he : Ent w' a' v) (hd : dlen v ≤ 1024)
    (hb2 : Blk w' b' 62 (Ov (os ++ [u]))) (hc2 : cc = m + 1) (ho : os.length < 1000) :
    Res w w' (.returned (.agg #[.slice (some ⟨b, 0, none⟩) c c, .slice (some ⟨b', 0, none⟩) cc cc])) ((es.take (n - k)).map (·.2) ++ [v]) (os ++ [u]) := by
  have h2 := h.out (c := cc) hc ho hb2 (by rw [hc2, hm])
  obtain ⟨a1', c1', es', a2', c2', he1, he2, he3, he4⟩ := Res.push hn (m := cc) (by simp; omega) h2 (Chg.refl [] w') hb hcc hk he hd
  exact ⟨a1', c1', es', a2', c2', he1, he2, he3, hc⟩

set_option maxRecDepth 10000 in
set_option maxHeartbeats 1000000 in
theorem rowSubNo (a1 a2 b1 b2 : Option Addr) (c1 c2 x y : Nat) (es : Es) (os : List Int) (w : World) (hs : StE w a1 c1 es a2 c2 os) (hn : 2 ≤ es.length) (ho : os.length < 1000) (l1 : dlen x ≤ 1024) (l2 : dlen y ≤ 1024) (h1 : Ent w b1 x) (h2 : Ent w b2 y) (hg : geB x y = false) :
    Calls Takg.prog 92 #[.int .u8 0, .agg #[.slice a1 es.length c1, .slice a2 os.length c2], .int .u8 3, .slice b1 (dlen x) (dlen x), .slice b2 (dlen y) (dlen y)] w fun e w' => Res w w' e ((es.take (es.length - 2)).map (·.2) ++ [0]) (os ++ [-4]) := by
  have HNO := hide (fun W (hW : Chg [] w W) => appended_any a2 c2 os (-2) W (by omega) hs.k2 (hs.cel2.chg0 hW))
  have HO := hide ho
  have HN16 := hide hs.n1
  have HA := hide (fun W (hW : Chg [] w W) => Sub_any b1 b2 x y W (by omega) (by omega) (h1.chg0 hW) (h2.chg0 hW))
  rw [hg] at HA
  have HS := hide (fun a' v W (hW : Chg [] w W) => stacked_two a1 a' c1 v es W (by have := hs.n1; omega) hs.k1 hn hs.b1 hs.nil1 hs.som1 (hs.cel1.chg0 hW))
  have HB := hide (fun W (hW : Chg [] w W) => appended_any a2 c2 os (-4) W (by omega) hs.k2 (hs.cel2.chg0 hW))
  obtain ⟨n, en⟩ : ∃ n, n = es.length := ⟨_, rfl⟩
  obtain ⟨m, em⟩ : ∃ n, n = os.length := ⟨_, rfl⟩
  rw [← en] at hn HN16 HS ⊢
  rw [← em] at HNO ho HB ⊢
  have HEN := hide en
  have HEM := hide em
  have HS0 := hide hs
  have H1 := hide h1
  have H2 := hide h2
  have HN := hide hn
  clear en em hs h1 h2 ho
  go_enter Takg.func92, Takg.ntmps92
  go_upto_region 1 with (first | (refine wpList_box92 (by rfl) (.tmp 1) (by rfl) (.slice a1 n c1) (.slice a2 m c2) (by rfl) ?_; intro b6 wb hbb k6 cbb) | (refine wpList_new92 (by rfl) (by rfl) ?_; intro br wr hbr kbr cbr))
  have k6r := cbr.blk k6 (by simp)
  have cw := cbb.trans cbr
  have n6r : b6 ≠ br := by have := k6.lt; have := hbr.out; omega
  have g6 : w.heap.size ≤ b6 := by have := hbb.out; omega
  have gr : w.heap.size ≤ br := by have := hbr.out; have := cbb.size; omega
  clear k6 cbb cbr hbb hbr
  simp only [Act.put, List.setIfInBounds_toArray, List.set_cons_zero, List.set_cons_succ]
  go_cut [11] (fun v wc => ∃ bq bo, v = .pointer (some ⟨bq, 0, none⟩) ∧ Blk wc bq 92 [.slice a1 n c1, .slice (some ⟨bo, 0, none⟩) (m + 1) (m + 1)] ∧ bq ≠ br ∧ bo ≠ br ∧ Blk wc bo 62 (Ov (os ++ [-2])) ∧ Blk wc b6 92 [.slice a1 n c1, .slice a2 m c2] ∧ (∃ (p : Option Addr × Nat × Nat) (q : Value), Blk wc br 92 [.slice p.1 p.2.1 p.2.2, q]) ∧ Chg [] w wc)
  case first =>
    refine wp_region_held_drew (S := fun w1 => Blk w1 b6 92 [.slice a1 n c1, .slice a2 m c2] ∧ (∃ (p : Option Addr × Nat × Nat) (q : Value), Blk w1 br 92 [.slice p.1 p.2.1 p.2.2, q]) ∧ Chg [] w w1 ∧ Ent w1 none 0) (by kernel_rfl) ⟨k6r.drew, ⟨(none, 0, 0), _, kbr.drew⟩, cw.drew, Ent.zero _⟩ (fun hHeld => ?_)
    refine takeL 0 (v := ?_) rfl (by kernel_rfl) (by kernel_rfl) (by kernel_rfl) (fun _ _ _ h => h) (by rfl) ?_ hHeld ?_
    rotate_left
    · (intro w1 hSw; have f0 := hSw.1.cell 0 _ rfl; have f1 := hSw.1.cell 1 _ rfl; go_simp; try with_reducible rfl)
    simp only [Act.put, List.setIfInBounds_toArray, List.set_cons_zero, List.set_cons_succ]
    refine takeL 1 (v := ?_) rfl (by kernel_rfl) (by kernel_rfl) (by kernel_rfl) (fun _ _ _ h => h) (by rfl) ?_ hHeld ?_
    rotate_left
    · (intro w1 hSw; have f0 := hSw.1.cell 0 _ rfl; have f1 := hSw.1.cell 1 _ rfl; go_simp; try with_reducible rfl)
    simp only [Act.put, List.setIfInBounds_toArray, List.set_cons_zero, List.set_cons_succ]
    refine takeL 2 (v := ?_) rfl (by kernel_rfl) (by kernel_rfl) (by kernel_rfl) (fun _ _ _ h => h) (by rfl) ?_ hHeld ?_
    rotate_left
    · (intro w1 hSw; have f0 := hSw.1.cell 0 _ rfl; have f1 := hSw.1.cell 1 _ rfl; go_simp; try with_reducible rfl)
    simp only [Act.put, List.setIfInBounds_toArray, List.set_cons_zero, List.set_cons_succ]
    refine takeL 3 (v := ?_) rfl (by kernel_rfl) (by kernel_rfl) (by kernel_rfl) (fun _ _ _ h => h) (by rfl) ?_ hHeld ?_
    rotate_left
    · (intro w1 hSw; have f0 := hSw.1.cell 0 _ rfl; have f1 := hSw.1.cell 1 _ rfl; go_simp; try with_reducible rfl)
    simp only [Act.put, List.setIfInBounds_toArray, List.set_cons_zero, List.set_cons_succ]
    refine wpAnyH_ready (rs := [4, 6]) (by kernel_rfl) (by simp) ?_
    refine consL rfl rfl (fun K hK => ?_) ?_
    · go_simp
      refine (HNO.out _ hHeld.2.2.1).mono ?_
      rintro e wn ⟨bo, rfl, go, ko, hcn⟩
      have nor : bo ≠ br := by obtain ⟨p, q, hpq⟩ := hHeld.2.1; have := hpq.lt; omega
      have go : w.heap.size ≤ bo := Nat.le_trans hHeld.2.2.1.size go
      refine hK.out _ _ ⟨hcn.blk hHeld.1 (by simp), (by obtain ⟨p, q, hpq⟩ := hHeld.2.1; exact ⟨p, q, hcn.blk hpq (by simp)⟩), hHeld.2.2.1.trans hcn, hHeld.2.2.2.chg0 hcn⟩ (fun hHeld => ?_)
      clear hK K
      try simp only [Act.put, List.setIfInBounds_toArray, List.set_cons_zero, List.set_cons_succ, List.toList_toArray]
      clear hcn
      refine takeL 5 rfl (by kernel_rfl) (by kernel_rfl) (by kernel_rfl) (fun _ _ _ h => h) (by rfl) (fun w1 hSw => run_build92 (.tmp 16) (.tmp 19) rfl a1 n c1 (some ⟨bo, 0, none⟩) (m + 1) (m + 1) w1 rfl rfl) hHeld ?_
      simp only [Act.put, List.setIfInBounds_toArray, List.set_cons_zero, List.set_cons_succ]
      refine wpAnyH_ready (rs := [6]) (by kernel_rfl) (by simp) ?_
      refine consL rfl rfl (fun K hK => ?_) AllReadyH.nil
      have hsz := hHeld.2.2.1.size
      have lr := (by obtain ⟨p, q, hpq⟩ := hHeld.2.1; exact hpq.lt : br < _)
      have l6 := hHeld.1.lt
      refine wp_new92 rfl ?_
      intro bq wn hbq kq hcn
      have gq : w.heap.size ≤ bq := by have := hbq.out; omega
      have nqr : bq ≠ br := by have := hbq.out; omega
      have nq6 : b6 ≠ bq := by have := hbq.out; omega
      have nq : bo ≠ bq := by have := hbq.out; have := ko.lt; omega
      have ko := hcn.blk ko (by simp)
      refine hK.out _ _ ⟨hcn.blk hHeld.1 (by simp), (by obtain ⟨p, q, hpq⟩ := hHeld.2.1; exact ⟨p, q, hcn.blk hpq (by simp)⟩), hHeld.2.2.1.trans hcn, hHeld.2.2.2.chg0 hcn⟩ (fun hHeld => ?_)
      clear hK K hsz lr l6
      try simp only [Act.put, List.setIfInBounds_toArray, List.set_cons_zero, List.set_cons_succ, List.toList_toArray]
      refine wpAnyH_ready (rs := [7]) (by kernel_rfl) (by simp) ?_
      refine consL rfl rfl (fun K hK => ?_) AllReadyH.nil
      refine wp_store_mid 92 _ _ rfl bq 0 #[.slice a1 n c1, .slice (some ⟨bo, 0, none⟩) (m + 1) (m + 1)] rfl rfl (there2 kq) info92 (one92 rfl rfl) ?_
      have V0 := set2 (p' := (.slice a1 n c1)) (q' := (.slice (some ⟨bo, 0, none⟩) (m + 1) (m + 1))) kq
      have V1 := ne2 (b := bq) (p := (.slice a1 n c1)) (q := (.slice (some ⟨bo, 0, none⟩) (m + 1) (m + 1))) ko nq
      have V2 := ne2 (b := bq) (p := (.slice a1 n c1)) (q := (.slice (some ⟨bo, 0, none⟩) (m + 1) (m + 1))) hHeld.1 nq6
      have V3 := chg2 (b := bq) (p := (.slice a1 n c1)) (q := (.slice (some ⟨bo, 0, none⟩) (m + 1) (m + 1))) hHeld.2.2.1 gq
      have V4 : ∃ (p : Option Addr × Nat × Nat) (q : Value), Blk (World.setCells wn bq 0 [(.slice a1 n c1), (.slice (some ⟨bo, 0, none⟩) (m + 1) (m + 1))]) br 92 [.slice p.1 p.2.1 p.2.2, q] := by
        obtain ⟨p, q, hpq⟩ := hHeld.2.1
        exact ⟨p, q, ne2 (b := bq) hpq (Ne.symm nqr)⟩
      refine hK.out _ _ ⟨V2, V4, V3, Ent.zero _⟩ (fun hHeld => ?_)
      clear hK K
      try simp only [Act.put, List.setIfInBounds_toArray, List.set_cons_zero, List.set_cons_succ, List.toList_toArray]
      refine wpAnyH_done (by kernel_rfl) ?_ _
      go_wp2_with fail
      go_meet
      exact ⟨bq, bo, rfl, V0, nqr, nor, V1, V2, V4, V3⟩
    refine consL rfl rfl (fun K hK => ?_) AllReadyH.nil
    have hsz := hHeld.2.2.1.size
    have lr := (by obtain ⟨p, q, hpq⟩ := hHeld.2.1; exact hpq.lt : br < _)
    have l6 := hHeld.1.lt
    refine wp_new92 rfl ?_
    intro bq wn hbq kq hcn
    have gq : w.heap.size ≤ bq := by have := hbq.out; omega
    have nqr : bq ≠ br := by have := hbq.out; omega
    have nq6 : b6 ≠ bq := by have := hbq.out; omega
    refine hK.out _ _ ⟨hcn.blk hHeld.1 (by simp), (by obtain ⟨p, q, hpq⟩ := hHeld.2.1; exact ⟨p, q, hcn.blk hpq (by simp)⟩), hHeld.2.2.1.trans hcn, hHeld.2.2.2.chg0 hcn⟩ (fun hHeld => ?_)
    clear hK K hsz lr l6
    try simp only [Act.put, List.setIfInBounds_toArray, List.set_cons_zero, List.set_cons_succ, List.toList_toArray]
    refine wpAnyH_ready (rs := [4]) (by kernel_rfl) (by simp) ?_
    refine consL rfl rfl (fun K hK => ?_) AllReadyH.nil
    go_simp
    refine (HNO.out _ hHeld.2.2.1).mono ?_
    rintro e wn ⟨bo, rfl, go, ko, hcn⟩
    have nq : bo ≠ bq := by have := kq.lt; omega
    have kq := hcn.blk kq (by simp)
    have nor : bo ≠ br := by obtain ⟨p, q, hpq⟩ := hHeld.2.1; have := hpq.lt; omega
    have go : w.heap.size ≤ bo := Nat.le_trans hHeld.2.2.1.size go
    refine hK.out _ _ ⟨hcn.blk hHeld.1 (by simp), (by obtain ⟨p, q, hpq⟩ := hHeld.2.1; exact ⟨p, q, hcn.blk hpq (by simp)⟩), hHeld.2.2.1.trans hcn, hHeld.2.2.2.chg0 hcn⟩ (fun hHeld => ?_)
    clear hK K
    try simp only [Act.put, List.setIfInBounds_toArray, List.set_cons_zero, List.set_cons_succ, List.toList_toArray]
    clear hcn
    refine takeL 5 rfl (by kernel_rfl) (by kernel_rfl) (by kernel_rfl) (fun _ _ _ h => h) (by rfl) (fun w1 hSw => run_build92 (.tmp 16) (.tmp 19) rfl a1 n c1 (some ⟨bo, 0, none⟩) (m + 1) (m + 1) w1 rfl rfl) hHeld ?_
    simp only [Act.put, List.setIfInBounds_toArray, List.set_cons_zero, List.set_cons_succ]
    refine wpAnyH_ready (rs := [7]) (by kernel_rfl) (by simp) ?_
    refine consL rfl rfl (fun K hK => ?_) AllReadyH.nil
    refine wp_store_mid 92 _ _ rfl bq 0 #[.slice a1 n c1, .slice (some ⟨bo, 0, none⟩) (m + 1) (m + 1)] rfl rfl (there2 kq) info92 (one92 rfl rfl) ?_
    have V0 := set2 (p' := (.slice a1 n c1)) (q' := (.slice (some ⟨bo, 0, none⟩) (m + 1) (m + 1))) kq
    have V1 := ne2 (b := bq) (p := (.slice a1 n c1)) (q := (.slice (some ⟨bo, 0, none⟩) (m + 1) (m + 1))) ko nq
    have V2 := ne2 (b := bq) (p := (.slice a1 n c1)) (q := (.slice (some ⟨bo, 0, none⟩) (m + 1) (m + 1))) hHeld.1 nq6
    have V3 := chg2 (b := bq) (p := (.slice a1 n c1)) (q := (.slice (some ⟨bo, 0, none⟩) (m + 1) (m + 1))) hHeld.2.2.1 gq
    have V4 : ∃ (p : Option Addr × Nat × Nat) (q : Value), Blk (World.setCells wn bq 0 [(.slice a1 n c1), (.slice (some ⟨bo, 0, none⟩) (m + 1) (m + 1))]) br 92 [.slice p.1 p.2.1 p.2.2, q] := by
      obtain ⟨p, q, hpq⟩ := hHeld.2.1
      exact ⟨p, q, ne2 (b := bq) hpq (Ne.symm nqr)⟩
    refine hK.out _ _ ⟨V2, V4, V3, Ent.zero _⟩ (fun hHeld => ?_)
    clear hK K
    try simp only [Act.put, List.setIfInBounds_toArray, List.set_cons_zero, List.set_cons_succ, List.toList_toArray]
    refine wpAnyH_done (by kernel_rfl) ?_ _
    go_wp2_with fail
    go_meet
    exact ⟨bq, bo, rfl, V0, nqr, nor, V1, V2, V4, V3⟩
  case rest =>
    obtain ⟨bq, bo, rfl, kq, nqr, nor, ko, k6, kr, cwA⟩ := hcut
    clear k6r kbr cw
    have lr := (by obtain ⟨p, q, hpq⟩ := kr; exact hpq.lt : br < _)
    go_wp2_with fail
    refine (HA.out _ cwA).mono ?_
    rintro e w5 ⟨a', rfl, hnew, hc5⟩
    have kr := (by obtain ⟨p, q, hpq⟩ := kr; exact ⟨p, q, hc5.blk hpq (by simp)⟩ : ∃ (p : Option Addr × Nat × Nat) (q : Value), Blk w5 br 92 [.slice p.1 p.2.1 p.2.2, q])
    have k6 := hc5.blk k6 (by simp)
    have kq := hc5.blk kq (by simp)
    have ko := hc5.blk ko (by simp)
    have cwA := cwA.trans hc5
    have HNE : Hid (∀ b', a' = some ⟨b', 0, none⟩ → b' ∉ [br]) := fun b' hb' => by have := hnew.new b' hb'; simp; omega
    have hE := hnew.ent
    clear hnew hc5 lr
    clear HNE hE
    have HNE : Hid (∀ b', (none : Option Addr) = some ⟨b', 0, none⟩ → b' ∉ [br]) := fun b' hb' => nomatch hb'
    go_upto_region 15 with fail
    refine wp_region_held_drew (S := fun w1 => Blk w1 b6 92 [.slice a1 n c1, .slice a2 m c2] ∧ (∃ (p : Option Addr × Nat × Nat) (q : Value), Blk w1 br 92 [.slice p.1 p.2.1 p.2.2, q]) ∧ Chg [] w w1 ∧ Ent w1 none 0) (by kernel_rfl) ⟨k6.drew, (by obtain ⟨p, q, hpq⟩ := kr; exact ⟨p, q, hpq.drew⟩), cwA.drew, (Ent.zero _).chg0 (Chg.refl [] _).drew⟩ (fun hHeld => ?_)
    clear k6 kr cwA kq ko
    refine takeL 0 (v := ?_) rfl (by kernel_rfl) (by kernel_rfl) (by kernel_rfl) (fun _ _ _ h => h) (by rfl) ?_ hHeld ?_
    rotate_left
    · (intro w1 hSw; have f0 := hSw.1.cell 0 _ rfl; have f1 := hSw.1.cell 1 _ rfl; go_simp; try with_reducible rfl)
    simp only [Act.put, List.setIfInBounds_toArray, List.set_cons_zero, List.set_cons_succ]
    refine takeL 1 (v := ?_) rfl (by kernel_rfl) (by kernel_rfl) (by kernel_rfl) (fun _ _ _ h => h) (by rfl) ?_ hHeld ?_
    rotate_left
    · (intro w1 hSw; have f0 := hSw.1.cell 0 _ rfl; have f1 := hSw.1.cell 1 _ rfl; go_simp; try with_reducible rfl)
    simp only [Act.put, List.setIfInBounds_toArray, List.set_cons_zero, List.set_cons_succ]
    refine takeL 3 (v := ?_) rfl (by kernel_rfl) (by kernel_rfl) (by kernel_rfl) (fun _ _ _ h => h) (by rfl) ?_ hHeld ?_
    rotate_left
    · (intro w1 hSw; have f0 := hSw.1.cell 0 _ rfl; have f1 := hSw.1.cell 1 _ rfl; go_simp; try with_reducible rfl)
    simp only [Act.put, List.setIfInBounds_toArray, List.set_cons_zero, List.set_cons_succ]
    refine takeL 4 (v := ?_) rfl (by kernel_rfl) (by kernel_rfl) (by kernel_rfl) (fun _ _ _ h => h) (by rfl) ?_ hHeld ?_
    rotate_left
    · (intro w1 hSw; have f0 := hSw.1.cell 0 _ rfl; have f1 := hSw.1.cell 1 _ rfl; go_simp; try with_reducible rfl)
    simp only [Act.put, List.setIfInBounds_toArray, List.set_cons_zero, List.set_cons_succ]
    refine wpAnyH_ready (rs := [2]) (by kernel_rfl) (by simp) ?_
    refine consL rfl rfl (fun K hK => ?_) AllReadyH.nil
    go_simp
    refine (HS.out none 0 _ hHeld.2.2.1).mono ?_
    rintro e wn ⟨b, rfl, gb, kb, hcn⟩
    have nbr : b ≠ br := by obtain ⟨p, q, hpq⟩ := hHeld.2.1; have := hpq.lt; omega
    refine hK.out _ _ ⟨hcn.blk hHeld.1 (by simp), (by obtain ⟨p, q, hpq⟩ := hHeld.2.1; exact ⟨p, q, hcn.blk hpq (by simp)⟩), hHeld.2.2.1.trans hcn, hHeld.2.2.2.chg0 hcn⟩ (fun hHeld => ?_)
    clear hK K
    try simp only [Act.put, List.setIfInBounds_toArray, List.set_cons_zero, List.set_cons_succ, List.toList_toArray]
    clear hcn
    refine wpAnyH_ready (rs := [5]) (by kernel_rfl) (by simp) ?_
    refine consL rfl rfl (fun K hK => ?_) AllReadyH.nil
    go_simp
    refine (HB.out _ hHeld.2.2.1).mono ?_
    rintro e wn ⟨bs, rfl, gs, ks, hcn⟩
    have nsr : bs ≠ br := by obtain ⟨p, q, hpq⟩ := hHeld.2.1; have := hpq.lt; omega
    have kb := hcn.blk kb (by simp)
    refine hK.out _ _ ⟨hcn.blk hHeld.1 (by simp), (by obtain ⟨p, q, hpq⟩ := hHeld.2.1; exact ⟨p, q, hcn.blk hpq (by simp)⟩), hHeld.2.2.1.trans hcn, hHeld.2.2.2.chg0 hcn⟩ (fun hHeld => ?_)
    clear hK K
    try simp only [Act.put, List.setIfInBounds_toArray, List.set_cons_zero, List.set_cons_succ, List.toList_toArray]
    clear hcn
    refine takeL 6 rfl (by kernel_rfl) (by kernel_rfl) (by kernel_rfl) (fun _ _ _ h => h) (by rfl) (fun w1 hSw => run_build92 (.tmp 66) (.tmp 69) rfl (some ⟨b, 0, none⟩) (n - 2 + 1) (n - 2 + 1) (some ⟨bs, 0, none⟩) (m + 1) (m + 1) w1 rfl rfl) hHeld ?_
    simp only [Act.put, List.setIfInBounds_toArray, List.set_cons_zero, List.set_cons_succ]
    obtain ⟨p, q, kr⟩ := hHeld.2.1
    refine wpAnyH_ready (rs := [7]) (by kernel_rfl) (by simp) ?_
    refine consL rfl rfl (fun K hK => ?_) AllReadyH.nil
    refine wp_store_mid 92 _ _ rfl br 0 #[(.slice (some ⟨b, 0, none⟩) (n - 2 + 1) (n - 2 + 1)), (.slice (some ⟨bs, 0, none⟩) (m + 1) (m + 1))] rfl rfl (there2 kr) info92 (one92 rfl rfl) ?_
    have V0 := set2 (p' := (.slice (some ⟨b, 0, none⟩) (n - 2 + 1) (n - 2 + 1))) (q' := (.slice (some ⟨bs, 0, none⟩) (m + 1) (m + 1))) kr
    have V2 := ne2 (b := br) (p := (.slice (some ⟨b, 0, none⟩) (n - 2 + 1) (n - 2 + 1))) (q := (.slice (some ⟨bs, 0, none⟩) (m + 1) (m + 1))) hHeld.1 n6r
    have V3 := chg2 (b := br) (p := (.slice (some ⟨b, 0, none⟩) (n - 2 + 1) (n - 2 + 1))) (q := (.slice (some ⟨bs, 0, none⟩) (m + 1) (m + 1))) hHeld.2.2.1 gr
    have V4 : Chg [br] wn (wn.setCells br 0 [(.slice (some ⟨b, 0, none⟩) (n - 2 + 1) (n - 2 + 1)), (.slice (some ⟨bs, 0, none⟩) (m + 1) (m + 1))]) := ((Chg.refl [br] wn).setCell ⟨br, 0, none⟩ (by simp) (.slice (some ⟨b, 0, none⟩) (n - 2 + 1) (n - 2 + 1))).setCell ⟨br, 0 + 1, none⟩ (by simp) (.slice (some ⟨bs, 0, none⟩) (m + 1) (m + 1))
    have V5 := hHeld.2.2.2.chg V4 HNE.out
    have V1 := ne2 (b := br) (p := (.slice (some ⟨b, 0, none⟩) (n - 2 + 1) (n - 2 + 1))) (q := (.slice (some ⟨bs, 0, none⟩) (m + 1) (m + 1))) kb nbr
    have V6 := ne2 (b := br) (p := (.slice (some ⟨b, 0, none⟩) (n - 2 + 1) (n - 2 + 1))) (q := (.slice (some ⟨bs, 0, none⟩) (m + 1) (m + 1))) ks nsr
    refine hK.out _ _ ⟨V2, ⟨((some ⟨b, 0, none⟩), (n - 2 + 1), (n - 2 + 1)), _, V0⟩, V3, V5⟩ (fun hHeld => ?_)
    clear hK K
    try simp only [Act.put, List.setIfInBounds_toArray, List.set_cons_zero, List.set_cons_succ, List.toList_toArray]
    generalize wn.setCells br 0 [(.slice (some ⟨b, 0, none⟩) (n - 2 + 1) (n - 2 + 1)), (.slice (some ⟨bs, 0, none⟩) (m + 1) (m + 1))] = wz at *
    refine wpAnyH_done (by kernel_rfl) ?_ _
    go_wp2_with fail
    refine bodyPost_ret (results_cell (by rfl) _ _ _ br 0 (by rfl) [(.slice (some ⟨b, 0, none⟩) (n - 2 + 1) (n - 2 + 1)), (.slice (some ⟨bs, 0, none⟩) (m + 1) (m + 1))] _ (range2 V0) Takg.underlying92 (by rfl) info92) rfl ?_
    exact Res.push2 HEN.out HEM.out HS0.out V3 V1 rfl (by have := HN16.out; have := HN.out; omega) (Ent.zero _) (by rw [dlen_zero]; omega) V6 rfl HO.out

theorem Res.swap {w w' : World} {a1 a2 b1 b2 : Option Addr} {c1 c2 b c n m x y : Nat} {es : Es} {os : List Int} (hn : n = es.length) (hm : m = os.length) (h : StE w a1 c1 es a2 c2 os) (hc : Chg [] w w') (hb : Blk w' b 83 (Sv (es.take (n - 2) ++ [(b2, y)] ++ [(b1, x)]))) (hcc : c = n - 2 + 1 + 1) (h2 : 2 ≤ n) (h1 : Ent w' b1 x) (hd : dlen x ≤ 1024) (h3 : Ent w' b2 y) (hd2 : dlen y ≤ 1024) :
    Res w w' (.returned (.agg #[.slice (some ⟨b, 0, none⟩) c c, .slice a2 m c2])) ((es.take (n - 2)).map (·.2) ++ [y, x]) os := by
  have := h.n1
  refine Res.of (by simp; omega) hm (h.stack hc (by simp; omega) hb (by simp; omega) (fun e h1' => ?_)) (by simp) hc
  rw [List.mem_append, List.mem_append, List.mem_singleton, List.mem_singleton] at h1'
  rcases h1' with (h1' | h1') | h1'
  · exact .inl (List.mem_of_mem_take h1')
  · subst h1'; exact .inr ⟨h3, hd2⟩
  · subst h1'; exact .inr ⟨h1, hd⟩

set_option maxRecDepth 10000 in
set_option maxHeartbeats 1000000 in
theorem rowSwap (a1 a2 b1 b2 : Option Addr) (c1 c2 x y : Nat) (es : Es) (os : List Int) (w : World) (hs : StE w a1 c1 es a2 c2 os) (hn : 2 ≤ es.length) (ho : os.length < 1000) (l1 : dlen x ≤ 1024) (l2 : dlen y ≤ 1024) (h1 : Ent w b1 x) (h2 : Ent w b2 y) :
    Calls Takg.prog 92 #[.int .u8 0, .agg #[.slice a1 es.length c1, .slice a2 os.length c2], .int .u8 7, .slice b1 (dlen x) (dlen x), .slice b2 (dlen y) (dlen y)] w fun e w' => Res w w' e ((es.take (es.length - 2)).map (·.2) ++ [y, x]) os := by
  have HNO := hide (fun W (hW : Chg [] w W) => appended_any a2 c2 os (-2) W (by omega) hs.k2 (hs.cel2.chg0 hW))
  have HO := hide ho
  have HN16 := hide hs.n1
  have HS := hide (fun a' v W (hW : Chg [] w W) => stacked_two a1 a' c1 v es W (by have := hs.n1; omega) hs.k1 hn hs.b1 hs.nil1 hs.som1 (hs.cel1.chg0 hW))
  have HT := hide (fun b W (hW : Blk W b 83 (Sv (es.take (es.length - 2) ++ [(b2, y)]))) => (by
    have h := stacked_zero (some ⟨b, 0, none⟩) b1 (es.length - 2 + 1) x (es.take (es.length - 2) ++ [(b2, y)]) W (by have := hs.n1; simp; omega) (by simp) (by have := hs.n1; omega) (fun h => nomatch h) (fun x hx => ⟨b, (Option.some.inj hx).symm⟩) (Cells.of hW)
    have e : (es.take (es.length - 2) ++ [(b2, y)]).length = es.length - 2 + 1 := by simp
    rw [e] at h
    exact h : Calls Takg.prog 90 #[.slice (some ⟨b, 0, none⟩) (es.length - 2 + 1) (es.length - 2 + 1), .int .i64 0, .slice b1 (dlen x) (dlen x)] W fun e w' => ∃ bb, e = .returned (.slice (some ⟨bb, 0, none⟩) (es.length - 2 + 1 + 1) (es.length - 2 + 1 + 1)) ∧ W.heap.size ≤ bb ∧ Blk w' bb 83 (Sv (es.take (es.length - 2) ++ [(b2, y)] ++ [(b1, x)])) ∧ Chg [] W w'))
  have DX := hide l1
  have DY := hide l2
  obtain ⟨n, en⟩ : ∃ n, n = es.length := ⟨_, rfl⟩
  obtain ⟨m, em⟩ : ∃ n, n = os.length := ⟨_, rfl⟩
  rw [← en] at hn HN16 HS HT ⊢
  rw [← em] at HNO ho  ⊢
  have HEN := hide en
  have HEM := hide em
  have HS0 := hide hs
  have H1 := hide h1
  have H2 := hide h2
  have HN := hide hn
  clear en em hs h1 h2 ho
  go_enter Takg.func92, Takg.ntmps92
  go_upto_region 1 with (first | (refine wpList_box92 (by rfl) (.tmp 1) (by rfl) (.slice a1 n c1) (.slice a2 m c2) (by rfl) ?_; intro b6 wb hbb k6 cbb) | (refine wpList_new92 (by rfl) (by rfl) ?_; intro br wr hbr kbr cbr))
  have k6r := cbr.blk k6 (by simp)
  have cw := cbb.trans cbr
  have n6r : b6 ≠ br := by have := k6.lt; have := hbr.out; omega
  have g6 : w.heap.size ≤ b6 := by have := hbb.out; omega
  have gr : w.heap.size ≤ br := by have := hbr.out; have := cbb.size; omega
  clear k6 cbb cbr hbb hbr
  simp only [Act.put, List.setIfInBounds_toArray, List.set_cons_zero, List.set_cons_succ]
  go_cut [11] (fun v wc => ∃ bq bo, v = .pointer (some ⟨bq, 0, none⟩) ∧ Blk wc bq 92 [.slice a1 n c1, .slice (some ⟨bo, 0, none⟩) (m + 1) (m + 1)] ∧ bq ≠ br ∧ bo ≠ br ∧ Blk wc bo 62 (Ov (os ++ [-2])) ∧ Blk wc b6 92 [.slice a1 n c1, .slice a2 m c2] ∧ (∃ (p : Option Addr × Nat × Nat) (q : Value), Blk wc br 92 [.slice p.1 p.2.1 p.2.2, q]) ∧ Chg [] w wc)
  case first =>
    refine wp_region_held_drew (S := fun w1 => Blk w1 b6 92 [.slice a1 n c1, .slice a2 m c2] ∧ (∃ (p : Option Addr × Nat × Nat) (q : Value), Blk w1 br 92 [.slice p.1 p.2.1 p.2.2, q]) ∧ Chg [] w w1 ∧ Ent w1 none 0) (by kernel_rfl) ⟨k6r.drew, ⟨(none, 0, 0), _, kbr.drew⟩, cw.drew, Ent.zero _⟩ (fun hHeld => ?_)
    refine takeL 0 (v := ?_) rfl (by kernel_rfl) (by kernel_rfl) (by kernel_rfl) (fun _ _ _ h => h) (by rfl) ?_ hHeld ?_
    rotate_left
    · (intro w1 hSw; have f0 := hSw.1.cell 0 _ rfl; have f1 := hSw.1.cell 1 _ rfl; go_simp; try with_reducible rfl)
    simp only [Act.put, List.setIfInBounds_toArray, List.set_cons_zero, List.set_cons_succ]
    refine takeL 1 (v := ?_) rfl (by kernel_rfl) (by kernel_rfl) (by kernel_rfl) (fun _ _ _ h => h) (by rfl) ?_ hHeld ?_
    rotate_left
    · (intro w1 hSw; have f0 := hSw.1.cell 0 _ rfl; have f1 := hSw.1.cell 1 _ rfl; go_simp; try with_reducible rfl)
    simp only [Act.put, List.setIfInBounds_toArray, List.set_cons_zero, List.set_cons_succ]
    refine takeL 2 (v := ?_) rfl (by kernel_rfl) (by kernel_rfl) (by kernel_rfl) (fun _ _ _ h => h) (by rfl) ?_ hHeld ?_
    rotate_left
    · (intro w1 hSw; have f0 := hSw.1.cell 0 _ rfl; have f1 := hSw.1.cell 1 _ rfl; go_simp; try with_reducible rfl)
    simp only [Act.put, List.setIfInBounds_toArray, List.set_cons_zero, List.set_cons_succ]
    refine takeL 3 (v := ?_) rfl (by kernel_rfl) (by kernel_rfl) (by kernel_rfl) (fun _ _ _ h => h) (by rfl) ?_ hHeld ?_
    rotate_left
    · (intro w1 hSw; have f0 := hSw.1.cell 0 _ rfl; have f1 := hSw.1.cell 1 _ rfl; go_simp; try with_reducible rfl)
    simp only [Act.put, List.setIfInBounds_toArray, List.set_cons_zero, List.set_cons_succ]
    refine wpAnyH_ready (rs := [4, 6]) (by kernel_rfl) (by simp) ?_
    refine consL rfl rfl (fun K hK => ?_) ?_
    · go_simp
      refine (HNO.out _ hHeld.2.2.1).mono ?_
      rintro e wn ⟨bo, rfl, go, ko, hcn⟩
      have nor : bo ≠ br := by obtain ⟨p, q, hpq⟩ := hHeld.2.1; have := hpq.lt; omega
      have go : w.heap.size ≤ bo := Nat.le_trans hHeld.2.2.1.size go
      refine hK.out _ _ ⟨hcn.blk hHeld.1 (by simp), (by obtain ⟨p, q, hpq⟩ := hHeld.2.1; exact ⟨p, q, hcn.blk hpq (by simp)⟩), hHeld.2.2.1.trans hcn, hHeld.2.2.2.chg0 hcn⟩ (fun hHeld => ?_)
      clear hK K
      try simp only [Act.put, List.setIfInBounds_toArray, List.set_cons_zero, List.set_cons_succ, List.toList_toArray]
      clear hcn
      refine takeL 5 rfl (by kernel_rfl) (by kernel_rfl) (by kernel_rfl) (fun _ _ _ h => h) (by rfl) (fun w1 hSw => run_build92 (.tmp 16) (.tmp 19) rfl a1 n c1 (some ⟨bo, 0, none⟩) (m + 1) (m + 1) w1 rfl rfl) hHeld ?_
      simp only [Act.put, List.setIfInBounds_toArray, List.set_cons_zero, List.set_cons_succ]
      refine wpAnyH_ready (rs := [6]) (by kernel_rfl) (by simp) ?_
      refine consL rfl rfl (fun K hK => ?_) AllReadyH.nil
      have hsz := hHeld.2.2.1.size
      have lr := (by obtain ⟨p, q, hpq⟩ := hHeld.2.1; exact hpq.lt : br < _)
      have l6 := hHeld.1.lt
      refine wp_new92 rfl ?_
      intro bq wn hbq kq hcn
      have gq : w.heap.size ≤ bq := by have := hbq.out; omega
      have nqr : bq ≠ br := by have := hbq.out; omega
      have nq6 : b6 ≠ bq := by have := hbq.out; omega
      have nq : bo ≠ bq := by have := hbq.out; have := ko.lt; omega
      have ko := hcn.blk ko (by simp)
      refine hK.out _ _ ⟨hcn.blk hHeld.1 (by simp), (by obtain ⟨p, q, hpq⟩ := hHeld.2.1; exact ⟨p, q, hcn.blk hpq (by simp)⟩), hHeld.2.2.1.trans hcn, hHeld.2.2.2.chg0 hcn⟩ (fun hHeld => ?_)
      clear hK K hsz lr l6
      try simp only [Act.put, List.setIfInBounds_toArray, List.set_cons_zero, List.set_cons_succ, List.toList_toArray]
      refine wpAnyH_ready (rs := [7]) (by kernel_rfl) (by simp) ?_
      refine consL rfl rfl (fun K hK => ?_) AllReadyH.nil
      refine wp_store_mid 92 _ _ rfl bq 0 #[.slice a1 n c1, .slice (some ⟨bo, 0, none⟩) (m + 1) (m + 1)] rfl rfl (there2 kq) info92 (one92 rfl rfl) ?_
      have V0 := set2 (p' := (.slice a1 n c1)) (q' := (.slice (some ⟨bo, 0, none⟩) (m + 1) (m + 1))) kq
      have V1 := ne2 (b := bq) (p := (.slice a1 n c1)) (q := (.slice (some ⟨bo, 0, none⟩) (m + 1) (m + 1))) ko nq
      have V2 := ne2 (b := bq) (p := (.slice a1 n c1)) (q := (.slice (some ⟨bo, 0, none⟩) (m + 1) (m + 1))) hHeld.1 nq6
      have V3 := chg2 (b := bq) (p := (.slice a1 n c1)) (q := (.slice (some ⟨bo, 0, none⟩) (m + 1) (m + 1))) hHeld.2.2.1 gq
      have V4 : ∃ (p : Option Addr × Nat × Nat) (q : Value), Blk (World.setCells wn bq 0 [(.slice a1 n c1), (.slice (some ⟨bo, 0, none⟩) (m + 1) (m + 1))]) br 92 [.slice p.1 p.2.1 p.2.2, q] := by
        obtain ⟨p, q, hpq⟩ := hHeld.2.1
        exact ⟨p, q, ne2 (b := bq) hpq (Ne.symm nqr)⟩
      refine hK.out _ _ ⟨V2, V4, V3, Ent.zero _⟩ (fun hHeld => ?_)
      clear hK K
      try simp only [Act.put, List.setIfInBounds_toArray, List.set_cons_zero, List.set_cons_succ, List.toList_toArray]
      refine wpAnyH_done (by kernel_rfl) ?_ _
      go_wp2_with fail
      go_meet
      exact ⟨bq, bo, rfl, V0, nqr, nor, V1, V2, V4, V3⟩
    refine consL rfl rfl (fun K hK => ?_) AllReadyH.nil
    have hsz := hHeld.2.2.1.size
    have lr := (by obtain ⟨p, q, hpq⟩ := hHeld.2.1; exact hpq.lt : br < _)
    have l6 := hHeld.1.lt
    refine wp_new92 rfl ?_
    intro bq wn hbq kq hcn
    have gq : w.heap.size ≤ bq := by have := hbq.out; omega
    have nqr : bq ≠ br := by have := hbq.out; omega
    have nq6 : b6 ≠ bq := by have := hbq.out; omega
    refine hK.out _ _ ⟨hcn.blk hHeld.1 (by simp), (by obtain ⟨p, q, hpq⟩ := hHeld.2.1; exact ⟨p, q, hcn.blk hpq (by simp)⟩), hHeld.2.2.1.trans hcn, hHeld.2.2.2.chg0 hcn⟩ (fun hHeld => ?_)
    clear hK K hsz lr l6
    try simp only [Act.put, List.setIfInBounds_toArray, List.set_cons_zero, List.set_cons_succ, List.toList_toArray]
    refine wpAnyH_ready (rs := [4]) (by kernel_rfl) (by simp) ?_
    refine consL rfl rfl (fun K hK => ?_) AllReadyH.nil
    go_simp
    refine (HNO.out _ hHeld.2.2.1).mono ?_
    rintro e wn ⟨bo, rfl, go, ko, hcn⟩
    have nq : bo ≠ bq := by have := kq.lt; omega
    have kq := hcn.blk kq (by simp)
    have nor : bo ≠ br := by obtain ⟨p, q, hpq⟩ := hHeld.2.1; have := hpq.lt; omega
    have go : w.heap.size ≤ bo := Nat.le_trans hHeld.2.2.1.size go
    refine hK.out _ _ ⟨hcn.blk hHeld.1 (by simp), (by obtain ⟨p, q, hpq⟩ := hHeld.2.1; exact ⟨p, q, hcn.blk hpq (by simp)⟩), hHeld.2.2.1.trans hcn, hHeld.2.2.2.chg0 hcn⟩ (fun hHeld => ?_)
    clear hK K
    try simp only [Act.put, List.setIfInBounds_toArray, List.set_cons_zero, List.set_cons_succ, List.toList_toArray]
    clear hcn
    refine takeL 5 rfl (by kernel_rfl) (by kernel_rfl) (by kernel_rfl) (fun _ _ _ h => h) (by rfl) (fun w1 hSw => run_build92 (.tmp 16) (.tmp 19) rfl a1 n c1 (some ⟨bo, 0, none⟩) (m + 1) (m + 1) w1 rfl rfl) hHeld ?_
    simp only [Act.put, List.setIfInBounds_toArray, List.set_cons_zero, List.set_cons_succ]
    refine wpAnyH_ready (rs := [7]) (by kernel_rfl) (by simp) ?_
    refine consL rfl rfl (fun K hK => ?_) AllReadyH.nil
    refine wp_store_mid 92 _ _ rfl bq 0 #[.slice a1 n c1, .slice (some ⟨bo, 0, none⟩) (m + 1) (m + 1)] rfl rfl (there2 kq) info92 (one92 rfl rfl) ?_
    have V0 := set2 (p' := (.slice a1 n c1)) (q' := (.slice (some ⟨bo, 0, none⟩) (m + 1) (m + 1))) kq
    have V1 := ne2 (b := bq) (p := (.slice a1 n c1)) (q := (.slice (some ⟨bo, 0, none⟩) (m + 1) (m + 1))) ko nq
    have V2 := ne2 (b := bq) (p := (.slice a1 n c1)) (q := (.slice (some ⟨bo, 0, none⟩) (m + 1) (m + 1))) hHeld.1 nq6
    have V3 := chg2 (b := bq) (p := (.slice a1 n c1)) (q := (.slice (some ⟨bo, 0, none⟩) (m + 1) (m + 1))) hHeld.2.2.1 gq
    have V4 : ∃ (p : Option Addr × Nat × Nat) (q : Value), Blk (World.setCells wn bq 0 [(.slice a1 n c1), (.slice (some ⟨bo, 0, none⟩) (m + 1) (m + 1))]) br 92 [.slice p.1 p.2.1 p.2.2, q] := by
      obtain ⟨p, q, hpq⟩ := hHeld.2.1
      exact ⟨p, q, ne2 (b := bq) hpq (Ne.symm nqr)⟩
    refine hK.out _ _ ⟨V2, V4, V3, Ent.zero _⟩ (fun hHeld => ?_)
    clear hK K
    try simp only [Act.put, List.setIfInBounds_toArray, List.set_cons_zero, List.set_cons_succ, List.toList_toArray]
    refine wpAnyH_done (by kernel_rfl) ?_ _
    go_wp2_with fail
    go_meet
    exact ⟨bq, bo, rfl, V0, nqr, nor, V1, V2, V4, V3⟩
  case rest =>
    obtain ⟨bq, bo, rfl, kq, nqr, nor, ko, k6, kr, cwA⟩ := hcut
    clear k6r kbr cw
    have HNE : Hid (∀ b', (none : Option Addr) = some ⟨b', 0, none⟩ → b' ∉ [br]) := fun b' hb' => nomatch hb'
    go_upto_region 19 with fail
    refine wp_region_held_drew (S := fun w1 => Blk w1 b6 92 [.slice a1 n c1, .slice a2 m c2] ∧ (∃ (p : Option Addr × Nat × Nat) (q : Value), Blk w1 br 92 [.slice p.1 p.2.1 p.2.2, q]) ∧ Chg [] w w1 ∧ Ent w1 none 0) (by kernel_rfl) ⟨k6.drew, (by obtain ⟨p, q, hpq⟩ := kr; exact ⟨p, q, hpq.drew⟩), cwA.drew, (Ent.zero _).chg0 (Chg.refl [] _).drew⟩ (fun hHeld => ?_)
    clear k6 kr cwA kq ko
    refine takeL 0 (v := ?_) rfl (by kernel_rfl) (by kernel_rfl) (by kernel_rfl) (fun _ _ _ h => h) (by rfl) ?_ hHeld ?_
    rotate_left
    · (intro w1 hSw; have f0 := hSw.1.cell 0 _ rfl; have f1 := hSw.1.cell 1 _ rfl; go_simp; try with_reducible rfl)
    simp only [Act.put, List.setIfInBounds_toArray, List.set_cons_zero, List.set_cons_succ]
    refine takeL 1 (v := ?_) rfl (by kernel_rfl) (by kernel_rfl) (by kernel_rfl) (fun _ _ _ h => h) (by rfl) ?_ hHeld ?_
    rotate_left
    · (intro w1 hSw; have f0 := hSw.1.cell 0 _ rfl; have f1 := hSw.1.cell 1 _ rfl; go_simp; try with_reducible rfl)
    simp only [Act.put, List.setIfInBounds_toArray, List.set_cons_zero, List.set_cons_succ]
    refine takeL 2 (v := ?_) rfl (by kernel_rfl) (by kernel_rfl) (by kernel_rfl) (fun _ _ _ h => h) (by rfl) ?_ hHeld ?_
    rotate_left
    · (intro w1 hSw; have f0 := hSw.1.cell 0 _ rfl; have f1 := hSw.1.cell 1 _ rfl; go_simp; try with_reducible rfl)
    simp only [Act.put, List.setIfInBounds_toArray, List.set_cons_zero, List.set_cons_succ]
    refine takeL 4 (v := ?_) rfl (by kernel_rfl) (by kernel_rfl) (by kernel_rfl) (fun _ _ _ h => h) (by rfl) ?_ hHeld ?_
    rotate_left
    · (intro w1 hSw; have f0 := hSw.1.cell 0 _ rfl; have f1 := hSw.1.cell 1 _ rfl; go_simp; try with_reducible rfl)
    simp only [Act.put, List.setIfInBounds_toArray, List.set_cons_zero, List.set_cons_succ]
    refine takeL 6 (v := ?_) rfl (by kernel_rfl) (by kernel_rfl) (by kernel_rfl) (fun _ _ _ h => h) (by rfl) ?_ hHeld ?_
    rotate_left
    · (intro w1 hSw; have f0 := hSw.1.cell 0 _ rfl; have f1 := hSw.1.cell 1 _ rfl; go_simp; try with_reducible rfl)
    simp only [Act.put, List.setIfInBounds_toArray, List.set_cons_zero, List.set_cons_succ]
    refine takeL 7 (v := ?_) rfl (by kernel_rfl) (by kernel_rfl) (by kernel_rfl) (fun _ _ _ h => h) (by rfl) ?_ hHeld ?_
    rotate_left
    · (intro w1 hSw; have f0 := hSw.1.cell 0 _ rfl; have f1 := hSw.1.cell 1 _ rfl; go_simp; try with_reducible rfl)
    simp only [Act.put, List.setIfInBounds_toArray, List.set_cons_zero, List.set_cons_succ]
    refine wpAnyH_ready (rs := [3]) (by kernel_rfl) (by simp) ?_
    refine consL rfl rfl (fun K hK => ?_) AllReadyH.nil
    go_simp
    refine (HS.out b2 y _ hHeld.2.2.1).mono ?_
    rintro e wn ⟨b, rfl, gb, kb, hcn⟩
    have nbr : b ≠ br := by obtain ⟨p, q, hpq⟩ := hHeld.2.1; have := hpq.lt; omega
    refine hK.out _ _ ⟨hcn.blk hHeld.1 (by simp), (by obtain ⟨p, q, hpq⟩ := hHeld.2.1; exact ⟨p, q, hcn.blk hpq (by simp)⟩), hHeld.2.2.1.trans hcn, hHeld.2.2.2.chg0 hcn⟩ (fun hHeld => ?_)
    clear hK K
    try simp only [Act.put, List.setIfInBounds_toArray, List.set_cons_zero, List.set_cons_succ, List.toList_toArray]
    clear hcn
    refine wpAnyH_ready (rs := [5]) (by kernel_rfl) (by simp) ?_
    refine consL rfl rfl (fun K hK => ?_) AllReadyH.nil
    go_simp
    refine (HT.out b _ kb).mono ?_
    rintro e wn ⟨bb, rfl, gbb, kbb, hcn⟩
    have nbbr : bb ≠ br := by obtain ⟨p, q, hpq⟩ := hHeld.2.1; have := hpq.lt; omega
    refine hK.out _ _ ⟨hcn.blk hHeld.1 (by simp), (by obtain ⟨p, q, hpq⟩ := hHeld.2.1; exact ⟨p, q, hcn.blk hpq (by simp)⟩), hHeld.2.2.1.trans hcn, hHeld.2.2.2.chg0 hcn⟩ (fun hHeld => ?_)
    clear hK K
    try simp only [Act.put, List.setIfInBounds_toArray, List.set_cons_zero, List.set_cons_succ, List.toList_toArray]
    clear hcn
    refine takeL 8 rfl (by kernel_rfl) (by kernel_rfl) (by kernel_rfl) (fun _ _ _ h => h) (by rfl) (fun w1 hSw => run_build92 (.tmp 94) (.tmp 96) rfl (some ⟨bb, 0, none⟩) (n - 2 + 1 + 1) (n - 2 + 1 + 1) a2 m c2 w1 rfl rfl) hHeld ?_
    simp only [Act.put, List.setIfInBounds_toArray, List.set_cons_zero, List.set_cons_succ]
    obtain ⟨p, q, kr⟩ := hHeld.2.1
    refine wpAnyH_ready (rs := [9]) (by kernel_rfl) (by simp) ?_
    refine consL rfl rfl (fun K hK => ?_) AllReadyH.nil
    refine wp_store_mid 92 _ _ rfl br 0 #[(.slice (some ⟨bb, 0, none⟩) (n - 2 + 1 + 1) (n - 2 + 1 + 1)), (.slice a2 m c2)] rfl rfl (there2 kr) info92 (one92 rfl rfl) ?_
    have V0 := set2 (p' := (.slice (some ⟨bb, 0, none⟩) (n - 2 + 1 + 1) (n - 2 + 1 + 1))) (q' := (.slice a2 m c2)) kr
    have V2 := ne2 (b := br) (p := (.slice (some ⟨bb, 0, none⟩) (n - 2 + 1 + 1) (n - 2 + 1 + 1))) (q := (.slice a2 m c2)) hHeld.1 n6r
    have V3 := chg2 (b := br) (p := (.slice (some ⟨bb, 0, none⟩) (n - 2 + 1 + 1) (n - 2 + 1 + 1))) (q := (.slice a2 m c2)) hHeld.2.2.1 gr
    have V4 : Chg [br] wn (wn.setCells br 0 [(.slice (some ⟨bb, 0, none⟩) (n - 2 + 1 + 1) (n - 2 + 1 + 1)), (.slice a2 m c2)]) := ((Chg.refl [br] wn).setCell ⟨br, 0, none⟩ (by simp) (.slice (some ⟨bb, 0, none⟩) (n - 2 + 1 + 1) (n - 2 + 1 + 1))).setCell ⟨br, 0 + 1, none⟩ (by simp) (.slice a2 m c2)
    have V5 := hHeld.2.2.2.chg V4 HNE.out
    have V1 := ne2 (b := br) (p := (.slice (some ⟨bb, 0, none⟩) (n - 2 + 1 + 1) (n - 2 + 1 + 1))) (q := (.slice a2 m c2)) kbb nbbr
    refine hK.out _ _ ⟨V2, ⟨((some ⟨bb, 0, none⟩), (n - 2 + 1 + 1), (n - 2 + 1 + 1)), _, V0⟩, V3, V5⟩ (fun hHeld => ?_)
    clear hK K
    try simp only [Act.put, List.setIfInBounds_toArray, List.set_cons_zero, List.set_cons_succ, List.toList_toArray]
    generalize wn.setCells br 0 [(.slice (some ⟨bb, 0, none⟩) (n - 2 + 1 + 1) (n - 2 + 1 + 1)), (.slice a2 m c2)] = wz at *
    refine wpAnyH_done (by kernel_rfl) ?_ _
    go_wp2_with fail
    refine bodyPost_ret (results_cell (by rfl) _ _ _ br 0 (by rfl) [(.slice (some ⟨bb, 0, none⟩) (n - 2 + 1 + 1) (n - 2 + 1 + 1)), (.slice a2 m c2)] _ (range2 V0) Takg.underlying92 (by rfl) info92) rfl ?_
    exact Res.swap HEN.out HEM.out HS0.out V3 V1 rfl HN.out (H1.out.chg0 V3) DX.out (H2.out.chg0 V3) DY.out

end Na
end Go.Proofs.Ygctak
