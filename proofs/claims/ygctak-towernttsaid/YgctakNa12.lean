/-
  law.row: the other rows.
-/
import Derived.Test.YgctakNa11
namespace Go.Proofs.Ygctak
open Go.RowKit
set_option linter.unusedVariables false
set_option linter.unusedSimpArgs false
attribute [local go_sem ↓] Go.wp_at_zero Go.wp_at_succ
namespace Na

set_option maxRecDepth 10000 in
set_option maxHeartbeats 4000000 in
theorem rowDup (a1 a2 aa : Option Addr) (c1 c2 kd na ca u : Nat) (es : Es) (os : List Int) (w : World) (hs : StE w a1 c1 es a2 c2 os) (ho : os.length < 1000) (hA : Arg w aa na ca u) (ax : Option Addr) (x : Nat) (hk : kd = 6) (hlt : es.length < 16) (hx : es[es.length - 1]? = some (ax, x)) :
    Calls Takg.prog 52 #[.int .u8 0, .agg #[.slice a1 es.length c1, .slice a2 os.length c2], .agg #[.int .u8 kd, .slice aa na ca]] w fun e w' => Res w w' e (es.map (·.2) ++ [x]) os := by
  have HNO := hide (fun W (hW : Chg [] w W) => appended_any a2 c2 os (-2) W (by omega) hs.k2 (hs.cel2.chg0 hW))
  have HO := hide ho
  have HN16 := hide hs.n1
  have hn16 := hs.n1
  have hb1 := hs.b1
  have HX := hide (hs.ent _ (List.mem_of_getElem? hx)).1
  have HDX := hide (hs.ent _ (List.mem_of_getElem? hx)).2
  obtain ⟨bS, rfl, htt⟩ := hs.at hx
  simp only at htt HX HDX
  have hpos : 0 < es.length := by
    rcases Nat.eq_zero_or_pos es.length with h0 | h0
    · rw [List.length_eq_zero_iff.mp h0] at hx; simp at hx
    · exact h0
  have HS := hide (fun a' v W (hW : Chg [] w W) => stacked_zero _ a' c1 v es W (by omega) hs.k1 hs.b1 hs.nil1 hs.som1 (hs.cel1.chg0 hW))
  obtain ⟨n, en⟩ : ∃ n, n = es.length := ⟨_, rfl⟩
  obtain ⟨m, em⟩ : ∃ n, n = os.length := ⟨_, rfl⟩
  rw [← en] at hn16 HN16 HS hlt htt hpos hx ⊢
  rw [← em] at HNO ho  ⊢
  have HEN := hide en
  have HEM := hide em
  have HS0 := hide hs
  have HAA := hide hA
  have HTT := hide htt
  clear htt
  have hwr : IntKind.i64.wrap ((n : Int) - 1) = ((n - 1 : Nat) : Int) := by rw [IntKind.wrap_i64]; omega
  have HK := hide hk
  clear en em hs ho hA hk
  go_enter Takg.func52, Takg.ntmps52
  go_upto_region 1 with (first | (refine wpList_box92 (by rfl) (.tmp 1) (by rfl) (.slice (some ⟨bS, 0, none⟩) n c1) (.slice a2 m c2) (by rfl) ?_; intro b4 wb hbb k4 cbb) | (refine wpList_box95 (by rfl) (.tmp 2) (by rfl) (.int .u8 kd) (.slice aa na ca) (by rfl) ?_; intro b5 wd hbd k5 cbd) | (refine wpList_new92 (by rfl) (by rfl) ?_; intro br wr hbr kbr cbr))
  have k5r := cbr.blk k5 (by simp)
  have k4d := cbd.blk k4 (by simp)
  have k4r := cbr.blk k4d (by simp)
  have cw := (cbb.trans cbd).trans cbr
  have n4r : b4 ≠ br := by have := k4d.lt; have := hbr.out; omega
  have n5r : b5 ≠ br := by have := k5.lt; have := hbr.out; omega
  have gr : w.heap.size ≤ br := by have := hbr.out; have := cbb.size; have := cbd.size; omega
  clear k4 k5 cbb cbr hbb hbr k4d cbd hbd
  simp only [Act.put, List.setIfInBounds_toArray, List.set_cons_zero, List.set_cons_succ]
  have f0 := k4r.cell 0 _ rfl
  go_upto_region 2 with fail
  clear f0
  go_cut [8] (fun v wc => ∃ bq bo, v = .pointer (some ⟨bq, 0, none⟩) ∧ Blk wc bq 92 [.slice (some ⟨bS, 0, none⟩) n c1, .slice (some ⟨bo, 0, none⟩) (m + 1) (m + 1)] ∧ bq ≠ br ∧ bo ≠ br ∧ Blk wc bo 62 (Ov (os ++ [-2])) ∧ Blk wc b4 92 [.slice (some ⟨bS, 0, none⟩) n c1, .slice a2 m c2] ∧ Blk wc b5 95 [.int .u8 kd, .slice aa na ca] ∧ (∃ (p : Option Addr × Nat × Nat) (q : Value), Blk wc br 92 [.slice p.1 p.2.1 p.2.2, q]) ∧ Chg [] w wc)
  case first =>
    refine wp_region_held_drew (S := fun w1 => Blk w1 b4 92 [.slice (some ⟨bS, 0, none⟩) n c1, .slice a2 m c2] ∧ Blk w1 b5 95 [.int .u8 kd, .slice aa na ca] ∧ (∃ (p : Option Addr × Nat × Nat) (q : Value), Blk w1 br 92 [.slice p.1 p.2.1 p.2.2, q]) ∧ Chg [] w w1 ∧ Ent w1 none 0) (by kernel_rfl) ⟨k4r.drew, k5r.drew, ⟨(none, 0, 0), _, kbr.drew⟩, cw.drew, Ent.zero _⟩ (fun hHeld => ?_)
    refine takeL 0 (v := ?_) rfl (by kernel_rfl) (by kernel_rfl) (by kernel_rfl) (fun _ _ _ h => h) (by rfl) ?_ hHeld ?_
    rotate_left
    · (intro w1 hSw; have f0 := hSw.1.cell 0 _ rfl; have f1 := hSw.1.cell 1 _ rfl; have f2 := hSw.2.1.cell 0 _ rfl; have f3 := hSw.2.1.cell 1 _ rfl; have f4 := HTT.out _ hSw.2.2.2.1; go_simp; try with_reducible rfl)
    simp only [Act.put, List.setIfInBounds_toArray, List.set_cons_zero, List.set_cons_succ]
    refine takeL 1 (v := ?_) rfl (by kernel_rfl) (by kernel_rfl) (by kernel_rfl) (fun _ _ _ h => h) (by rfl) ?_ hHeld ?_
    rotate_left
    · (intro w1 hSw; have f0 := hSw.1.cell 0 _ rfl; have f1 := hSw.1.cell 1 _ rfl; have f2 := hSw.2.1.cell 0 _ rfl; have f3 := hSw.2.1.cell 1 _ rfl; have f4 := HTT.out _ hSw.2.2.2.1; go_simp; try with_reducible rfl)
    simp only [Act.put, List.setIfInBounds_toArray, List.set_cons_zero, List.set_cons_succ]
    refine takeL 2 (v := ?_) rfl (by kernel_rfl) (by kernel_rfl) (by kernel_rfl) (fun _ _ _ h => h) (by rfl) ?_ hHeld ?_
    rotate_left
    · (intro w1 hSw; have f0 := hSw.1.cell 0 _ rfl; have f1 := hSw.1.cell 1 _ rfl; have f2 := hSw.2.1.cell 0 _ rfl; have f3 := hSw.2.1.cell 1 _ rfl; have f4 := HTT.out _ hSw.2.2.2.1; go_simp; try with_reducible rfl)
    simp only [Act.put, List.setIfInBounds_toArray, List.set_cons_zero, List.set_cons_succ]
    refine takeL 3 (v := ?_) rfl (by kernel_rfl) (by kernel_rfl) (by kernel_rfl) (fun _ _ _ h => h) (by rfl) ?_ hHeld ?_
    rotate_left
    · (intro w1 hSw; have f0 := hSw.1.cell 0 _ rfl; have f1 := hSw.1.cell 1 _ rfl; have f2 := hSw.2.1.cell 0 _ rfl; have f3 := hSw.2.1.cell 1 _ rfl; have f4 := HTT.out _ hSw.2.2.2.1; go_simp; try with_reducible rfl)
    simp only [Act.put, List.setIfInBounds_toArray, List.set_cons_zero, List.set_cons_succ]
    refine wpAnyH_ready (rs := [4, 6]) (by kernel_rfl) (by simp) ?_
    refine consL rfl rfl (fun K hK => ?_) ?_
    · go_simp
      refine (HNO.out _ hHeld.2.2.2.1).mono ?_
      rintro e wn ⟨bo, rfl, go, ko, hcn⟩
      have nor : bo ≠ br := by obtain ⟨p, q, hpq⟩ := hHeld.2.2.1; have := hpq.lt; omega
      have go : w.heap.size ≤ bo := Nat.le_trans hHeld.2.2.2.1.size go
      refine hK.out _ _ ⟨hcn.blk hHeld.1 (by simp), hcn.blk hHeld.2.1 (by simp), (by obtain ⟨p, q, hpq⟩ := hHeld.2.2.1; exact ⟨p, q, hcn.blk hpq (by simp)⟩), hHeld.2.2.2.1.trans hcn, hHeld.2.2.2.2.chg0 hcn⟩ (fun hHeld => ?_)
      clear hK K
      try simp only [Act.put, List.setIfInBounds_toArray, List.set_cons_zero, List.set_cons_succ, List.toList_toArray]
      clear hcn
      refine takeL 5 rfl (by kernel_rfl) (by kernel_rfl) (by kernel_rfl) (fun _ _ _ h => h) (by rfl) (fun w1 hSw => run_build92 (.tmp 13) (.tmp 16) rfl (some ⟨bS, 0, none⟩) n c1 (some ⟨bo, 0, none⟩) (m + 1) (m + 1) w1 rfl rfl) hHeld ?_
      simp only [Act.put, List.setIfInBounds_toArray, List.set_cons_zero, List.set_cons_succ]
      refine wpAnyH_ready (rs := [6]) (by kernel_rfl) (by simp) ?_
      refine consL rfl rfl (fun K hK => ?_) AllReadyH.nil
      have hsz := hHeld.2.2.2.1.size
      have lr := (by obtain ⟨p, q, hpq⟩ := hHeld.2.2.1; exact hpq.lt : br < _)
      have l4 := hHeld.1.lt
      have l5 := hHeld.2.1.lt
      refine wp_new92 rfl ?_
      intro bq wn hbq kq hcn
      have gq : w.heap.size ≤ bq := by have := hbq.out; omega
      have nqr : bq ≠ br := by have := hbq.out; omega
      have nq4 : b4 ≠ bq := by have := hbq.out; omega
      have nq5 : b5 ≠ bq := by have := hbq.out; omega
      have nq : bo ≠ bq := by have := hbq.out; have := ko.lt; omega
      have ko := hcn.blk ko (by simp)
      refine hK.out _ _ ⟨hcn.blk hHeld.1 (by simp), hcn.blk hHeld.2.1 (by simp), (by obtain ⟨p, q, hpq⟩ := hHeld.2.2.1; exact ⟨p, q, hcn.blk hpq (by simp)⟩), hHeld.2.2.2.1.trans hcn, hHeld.2.2.2.2.chg0 hcn⟩ (fun hHeld => ?_)
      clear hK K hsz lr l4 l5
      try simp only [Act.put, List.setIfInBounds_toArray, List.set_cons_zero, List.set_cons_succ, List.toList_toArray]
      refine wpAnyH_ready (rs := [7]) (by kernel_rfl) (by simp) ?_
      refine consL rfl rfl (fun K hK => ?_) AllReadyH.nil
      refine wp_store_mid 92 _ _ rfl bq 0 #[.slice (some ⟨bS, 0, none⟩) n c1, .slice (some ⟨bo, 0, none⟩) (m + 1) (m + 1)] rfl rfl (there2 kq) info92 (one92 rfl rfl) ?_
      have V0 := set2 (p' := (.slice (some ⟨bS, 0, none⟩) n c1)) (q' := (.slice (some ⟨bo, 0, none⟩) (m + 1) (m + 1))) kq
      have V1 := ne2 (b := bq) (p := (.slice (some ⟨bS, 0, none⟩) n c1)) (q := (.slice (some ⟨bo, 0, none⟩) (m + 1) (m + 1))) ko nq
      have V2 := ne2 (b := bq) (p := (.slice (some ⟨bS, 0, none⟩) n c1)) (q := (.slice (some ⟨bo, 0, none⟩) (m + 1) (m + 1))) hHeld.1 nq4
      have V2b := ne2 (b := bq) (p := (.slice (some ⟨bS, 0, none⟩) n c1)) (q := (.slice (some ⟨bo, 0, none⟩) (m + 1) (m + 1))) hHeld.2.1 nq5
      have V3 := chg2 (b := bq) (p := (.slice (some ⟨bS, 0, none⟩) n c1)) (q := (.slice (some ⟨bo, 0, none⟩) (m + 1) (m + 1))) hHeld.2.2.2.1 gq
      have V4 : (∃ (p : Option Addr × Nat × Nat) (q : Value), Blk (World.setCells wn bq 0 [(.slice (some ⟨bS, 0, none⟩) n c1), (.slice (some ⟨bo, 0, none⟩) (m + 1) (m + 1))]) br 92 [.slice p.1 p.2.1 p.2.2, q]) := by
        obtain ⟨p, q, hpq⟩ := hHeld.2.2.1
        exact ⟨p, q, ne2 (b := bq) hpq (Ne.symm nqr)⟩
      refine hK.out _ _ ⟨V2, V2b, V4, V3, Ent.zero _⟩ (fun hHeld => ?_)
      clear hK K
      try simp only [Act.put, List.setIfInBounds_toArray, List.set_cons_zero, List.set_cons_succ, List.toList_toArray]
      refine wpAnyH_done (by kernel_rfl) ?_ _
      go_wp2_with fail
      go_meet
      exact ⟨bq, bo, rfl, V0, nqr, nor, V1, V2, V2b, V4, V3⟩
    refine consL rfl rfl (fun K hK => ?_) AllReadyH.nil
    have hsz := hHeld.2.2.2.1.size
    have lr := (by obtain ⟨p, q, hpq⟩ := hHeld.2.2.1; exact hpq.lt : br < _)
    have l4 := hHeld.1.lt
    have l5 := hHeld.2.1.lt
    refine wp_new92 rfl ?_
    intro bq wn hbq kq hcn
    have gq : w.heap.size ≤ bq := by have := hbq.out; omega
    have nqr : bq ≠ br := by have := hbq.out; omega
    have nq4 : b4 ≠ bq := by have := hbq.out; omega
    have nq5 : b5 ≠ bq := by have := hbq.out; omega
    refine hK.out _ _ ⟨hcn.blk hHeld.1 (by simp), hcn.blk hHeld.2.1 (by simp), (by obtain ⟨p, q, hpq⟩ := hHeld.2.2.1; exact ⟨p, q, hcn.blk hpq (by simp)⟩), hHeld.2.2.2.1.trans hcn, hHeld.2.2.2.2.chg0 hcn⟩ (fun hHeld => ?_)
    clear hK K hsz lr l4 l5
    try simp only [Act.put, List.setIfInBounds_toArray, List.set_cons_zero, List.set_cons_succ, List.toList_toArray]
    refine wpAnyH_ready (rs := [4]) (by kernel_rfl) (by simp) ?_
    refine consL rfl rfl (fun K hK => ?_) AllReadyH.nil
    go_simp
    refine (HNO.out _ hHeld.2.2.2.1).mono ?_
    rintro e wn ⟨bo, rfl, go, ko, hcn⟩
    have nq : bo ≠ bq := by have := kq.lt; omega
    have kq := hcn.blk kq (by simp)
    have nor : bo ≠ br := by obtain ⟨p, q, hpq⟩ := hHeld.2.2.1; have := hpq.lt; omega
    have go : w.heap.size ≤ bo := Nat.le_trans hHeld.2.2.2.1.size go
    refine hK.out _ _ ⟨hcn.blk hHeld.1 (by simp), hcn.blk hHeld.2.1 (by simp), (by obtain ⟨p, q, hpq⟩ := hHeld.2.2.1; exact ⟨p, q, hcn.blk hpq (by simp)⟩), hHeld.2.2.2.1.trans hcn, hHeld.2.2.2.2.chg0 hcn⟩ (fun hHeld => ?_)
    clear hK K
    try simp only [Act.put, List.setIfInBounds_toArray, List.set_cons_zero, List.set_cons_succ, List.toList_toArray]
    clear hcn
    refine takeL 5 rfl (by kernel_rfl) (by kernel_rfl) (by kernel_rfl) (fun _ _ _ h => h) (by rfl) (fun w1 hSw => run_build92 (.tmp 13) (.tmp 16) rfl (some ⟨bS, 0, none⟩) n c1 (some ⟨bo, 0, none⟩) (m + 1) (m + 1) w1 rfl rfl) hHeld ?_
    simp only [Act.put, List.setIfInBounds_toArray, List.set_cons_zero, List.set_cons_succ]
    refine wpAnyH_ready (rs := [7]) (by kernel_rfl) (by simp) ?_
    refine consL rfl rfl (fun K hK => ?_) AllReadyH.nil
    refine wp_store_mid 92 _ _ rfl bq 0 #[.slice (some ⟨bS, 0, none⟩) n c1, .slice (some ⟨bo, 0, none⟩) (m + 1) (m + 1)] rfl rfl (there2 kq) info92 (one92 rfl rfl) ?_
    have V0 := set2 (p' := (.slice (some ⟨bS, 0, none⟩) n c1)) (q' := (.slice (some ⟨bo, 0, none⟩) (m + 1) (m + 1))) kq
    have V1 := ne2 (b := bq) (p := (.slice (some ⟨bS, 0, none⟩) n c1)) (q := (.slice (some ⟨bo, 0, none⟩) (m + 1) (m + 1))) ko nq
    have V2 := ne2 (b := bq) (p := (.slice (some ⟨bS, 0, none⟩) n c1)) (q := (.slice (some ⟨bo, 0, none⟩) (m + 1) (m + 1))) hHeld.1 nq4
    have V2b := ne2 (b := bq) (p := (.slice (some ⟨bS, 0, none⟩) n c1)) (q := (.slice (some ⟨bo, 0, none⟩) (m + 1) (m + 1))) hHeld.2.1 nq5
    have V3 := chg2 (b := bq) (p := (.slice (some ⟨bS, 0, none⟩) n c1)) (q := (.slice (some ⟨bo, 0, none⟩) (m + 1) (m + 1))) hHeld.2.2.2.1 gq
    have V4 : (∃ (p : Option Addr × Nat × Nat) (q : Value), Blk (World.setCells wn bq 0 [(.slice (some ⟨bS, 0, none⟩) n c1), (.slice (some ⟨bo, 0, none⟩) (m + 1) (m + 1))]) br 92 [.slice p.1 p.2.1 p.2.2, q]) := by
      obtain ⟨p, q, hpq⟩ := hHeld.2.2.1
      exact ⟨p, q, ne2 (b := bq) hpq (Ne.symm nqr)⟩
    refine hK.out _ _ ⟨V2, V2b, V4, V3, Ent.zero _⟩ (fun hHeld => ?_)
    clear hK K
    try simp only [Act.put, List.setIfInBounds_toArray, List.set_cons_zero, List.set_cons_succ, List.toList_toArray]
    refine wpAnyH_done (by kernel_rfl) ?_ _
    go_wp2_with fail
    go_meet
    exact ⟨bq, bo, rfl, V0, nqr, nor, V1, V2, V2b, V4, V3⟩
  case rest =>
    obtain ⟨bq, bo, rfl, kq, nqr, nor, ko, k4, k5, kr, cwA⟩ := hcut
    clear k4r k5r kbr cw
    have f0 := k4.cell 0 _ rfl
    have f1 := k4.cell 1 _ rfl
    have f2 := k5.cell 0 _ rfl
    have hk := HK.out
    have HNE : Hid (∀ b', ax = some ⟨b', 0, none⟩ → b' ∉ [br]) := fun b' hb' => by have := HX.out.lt hb'; simp; omega
    have HNL := hide hlt
    have q1 : ((n : Int) == 0) = false := by simp; omega
    have q2 : ((n : Int) == 16) = false := by simp; omega
    go_upto_region 11 with fail
    clear f0 f1 f2
    refine wp_region_held_drew (S := fun w1 => Blk w1 b4 92 [.slice (some ⟨bS, 0, none⟩) n c1, .slice a2 m c2] ∧ Blk w1 b5 95 [.int .u8 kd, .slice aa na ca] ∧ (∃ (p : Option Addr × Nat × Nat) (q : Value), Blk w1 br 92 [.slice p.1 p.2.1 p.2.2, q]) ∧ Chg [] w w1 ∧ Ent w1 ax x) (by kernel_rfl) ⟨k4.drew, k5.drew, (by obtain ⟨p, q, hpq⟩ := kr; exact ⟨p, q, hpq.drew⟩), cwA.drew, (HX.out.chg0 cwA).chg0 (Chg.refl [] _).drew⟩ (fun hHeld => ?_)
    clear k4 k5 kr cwA kq ko
    refine takeL 0 (v := ?_) rfl (by kernel_rfl) (by kernel_rfl) (by kernel_rfl) (fun _ _ _ h => h) (by rfl) ?_ hHeld ?_
    rotate_left
    · (intro w1 hSw; have f0 := hSw.1.cell 0 _ rfl; have f1 := hSw.1.cell 1 _ rfl; have f2 := hSw.2.1.cell 0 _ rfl; have f3 := hSw.2.1.cell 1 _ rfl; have f4 := HTT.out _ hSw.2.2.2.1; go_simp; try with_reducible rfl)
    simp only [Act.put, List.setIfInBounds_toArray, List.set_cons_zero, List.set_cons_succ]
    refine takeL 1 (v := ?_) rfl (by kernel_rfl) (by kernel_rfl) (by kernel_rfl) (fun _ _ _ h => h) (by rfl) ?_ hHeld ?_
    rotate_left
    · (intro w1 hSw; have f0 := hSw.1.cell 0 _ rfl; have f1 := hSw.1.cell 1 _ rfl; have f2 := hSw.2.1.cell 0 _ rfl; have f3 := hSw.2.1.cell 1 _ rfl; have f4 := HTT.out _ hSw.2.2.2.1; go_simp; try with_reducible rfl)
    simp only [Act.put, List.setIfInBounds_toArray, List.set_cons_zero, List.set_cons_succ]
    refine takeL 2 (v := ?_) rfl (by kernel_rfl) (by kernel_rfl) (by kernel_rfl) (fun _ _ _ h => h) (by rfl) ?_ hHeld ?_
    rotate_left
    · (intro w1 hSw; have f0 := hSw.1.cell 0 _ rfl; have f1 := hSw.1.cell 1 _ rfl; have f2 := hSw.2.1.cell 0 _ rfl; have f3 := hSw.2.1.cell 1 _ rfl; have f4 := HTT.out _ hSw.2.2.2.1; go_simp; try with_reducible rfl)
    simp only [Act.put, List.setIfInBounds_toArray, List.set_cons_zero, List.set_cons_succ]
    refine takeL 3 (v := ?_) rfl (by kernel_rfl) (by kernel_rfl) (by kernel_rfl) (fun _ _ _ h => h) (by rfl) ?_ hHeld ?_
    rotate_left
    · (intro w1 hSw; have f0 := hSw.1.cell 0 _ rfl; have f1 := hSw.1.cell 1 _ rfl; have f2 := hSw.2.1.cell 0 _ rfl; have f3 := hSw.2.1.cell 1 _ rfl; have f4 := HTT.out _ hSw.2.2.2.1; go_simp; try with_reducible rfl)
    simp only [Act.put, List.setIfInBounds_toArray, List.set_cons_zero, List.set_cons_succ]
    refine takeL 4 (v := ?_) rfl (by kernel_rfl) (by kernel_rfl) (by kernel_rfl) (fun _ _ _ h => h) (by rfl) ?_ hHeld ?_
    rotate_left
    · (intro w1 hSw; have f0 := hSw.1.cell 0 _ rfl; have f1 := hSw.1.cell 1 _ rfl; have f2 := hSw.2.1.cell 0 _ rfl; have f3 := hSw.2.1.cell 1 _ rfl; have f4 := HTT.out _ hSw.2.2.2.1; go_simp; try with_reducible rfl)
    simp only [Act.put, List.setIfInBounds_toArray, List.set_cons_zero, List.set_cons_succ]
    refine takeL 5 (v := ?_) rfl (by kernel_rfl) (by kernel_rfl) (by kernel_rfl) (fun _ _ _ h => h) (by rfl) ?_ hHeld ?_
    rotate_left
    · (intro w1 hSw; have f0 := hSw.1.cell 0 _ rfl; have f1 := hSw.1.cell 1 _ rfl; have f2 := hSw.2.1.cell 0 _ rfl; have f3 := hSw.2.1.cell 1 _ rfl; have f4 := HTT.out _ hSw.2.2.2.1; go_simp; try with_reducible rfl)
    simp only [Act.put, List.setIfInBounds_toArray, List.set_cons_zero, List.set_cons_succ]
    refine takeL 6 rfl (by kernel_rfl) (by kernel_rfl) (by kernel_rfl) (fun _ _ _ h => h) (by rfl) (fun w1 hSw => run_index89 (.tmp 47) (.tmp 49) rfl bS n c1 (n - 1) w1 rfl rfl (by omega)) hHeld ?_
    simp only [Act.put, List.setIfInBounds_toArray, List.set_cons_zero, List.set_cons_succ]
    refine takeL 7 rfl (by kernel_rfl) (by kernel_rfl) (by kernel_rfl) (fun _ _ _ h => h) (by rfl) (fun w1 hSw => run_load83 (.tmp 50) rfl bS (n - 1) ax (dlen x) (dlen x) w1 rfl (HTT.out _ hSw.2.2.2.1)) hHeld ?_
    simp only [Act.put, List.setIfInBounds_toArray, List.set_cons_zero, List.set_cons_succ]
    refine takeL 9 (v := ?_) rfl (by kernel_rfl) (by kernel_rfl) (by kernel_rfl) (fun _ _ _ h => h) (by rfl) ?_ hHeld ?_
    rotate_left
    · (intro w1 hSw; have f0 := hSw.1.cell 0 _ rfl; have f1 := hSw.1.cell 1 _ rfl; have f2 := hSw.2.1.cell 0 _ rfl; have f3 := hSw.2.1.cell 1 _ rfl; have f4 := HTT.out _ hSw.2.2.2.1; go_simp; try with_reducible rfl)
    simp only [Act.put, List.setIfInBounds_toArray, List.set_cons_zero, List.set_cons_succ]
    refine takeL 10 (v := ?_) rfl (by kernel_rfl) (by kernel_rfl) (by kernel_rfl) (fun _ _ _ h => h) (by rfl) ?_ hHeld ?_
    rotate_left
    · (intro w1 hSw; have f0 := hSw.1.cell 0 _ rfl; have f1 := hSw.1.cell 1 _ rfl; have f2 := hSw.2.1.cell 0 _ rfl; have f3 := hSw.2.1.cell 1 _ rfl; have f4 := HTT.out _ hSw.2.2.2.1; go_simp; try with_reducible rfl)
    simp only [Act.put, List.setIfInBounds_toArray, List.set_cons_zero, List.set_cons_succ]
    refine wpAnyH_ready (rs := [8]) (by kernel_rfl) (by simp) ?_
    refine consL rfl rfl (fun K hK => ?_) AllReadyH.nil
    go_simp
    refine (HS.out ax x _ hHeld.2.2.2.1).mono ?_
    rintro e wn ⟨b, rfl, gb, kb, hcn⟩
    have nbr : b ≠ br := by obtain ⟨p, q, hpq⟩ := hHeld.2.2.1; have := hpq.lt; omega
    refine hK.out _ _ ⟨hcn.blk hHeld.1 (by simp), hcn.blk hHeld.2.1 (by simp), (by obtain ⟨p, q, hpq⟩ := hHeld.2.2.1; exact ⟨p, q, hcn.blk hpq (by simp)⟩), hHeld.2.2.2.1.trans hcn, hHeld.2.2.2.2.chg0 hcn⟩ (fun hHeld => ?_)
    clear hK K
    try simp only [Act.put, List.setIfInBounds_toArray, List.set_cons_zero, List.set_cons_succ, List.toList_toArray]
    clear hcn
    refine takeL 11 rfl (by kernel_rfl) (by kernel_rfl) (by kernel_rfl) (fun _ _ _ h => h) (by rfl) (fun w1 hSw => run_build92 (.tmp 52) (.tmp 54) rfl (some ⟨b, 0, none⟩) (n + 1) (n + 1) a2 m c2 w1 rfl rfl) hHeld ?_
    simp only [Act.put, List.setIfInBounds_toArray, List.set_cons_zero, List.set_cons_succ]
    obtain ⟨p, q, kr⟩ := hHeld.2.2.1
    refine wpAnyH_ready (rs := [12]) (by kernel_rfl) (by simp) ?_
    refine consL rfl rfl (fun K hK => ?_) AllReadyH.nil
    refine wp_store_mid 92 _ _ rfl br 0 #[(.slice (some ⟨b, 0, none⟩) (n + 1) (n + 1)), (.slice a2 m c2)] rfl rfl (there2 kr) info92 (one92 rfl rfl) ?_
    have V0 := set2 (p' := (.slice (some ⟨b, 0, none⟩) (n + 1) (n + 1))) (q' := (.slice a2 m c2)) kr
    have V2 := ne2 (b := br) (p := (.slice (some ⟨b, 0, none⟩) (n + 1) (n + 1))) (q := (.slice a2 m c2)) hHeld.1 n4r
    have V2b := ne2 (b := br) (p := (.slice (some ⟨b, 0, none⟩) (n + 1) (n + 1))) (q := (.slice a2 m c2)) hHeld.2.1 n5r
    have V3 := chg2 (b := br) (p := (.slice (some ⟨b, 0, none⟩) (n + 1) (n + 1))) (q := (.slice a2 m c2)) hHeld.2.2.2.1 gr
    have V5 := Ent.chg hHeld.2.2.2.2 (chgBr (br := br) (p := (.slice (some ⟨b, 0, none⟩) (n + 1) (n + 1))) (q := (.slice a2 m c2))) HNE.out
    have V1 := ne2 (b := br) (p := (.slice (some ⟨b, 0, none⟩) (n + 1) (n + 1))) (q := (.slice a2 m c2)) kb nbr
    refine hK.out _ _ ⟨V2, V2b, ⟨((some ⟨b, 0, none⟩), (n + 1), (n + 1)), _, V0⟩, V3, V5⟩ (fun hHeld => ?_)
    clear hK K
    try simp only [Act.put, List.setIfInBounds_toArray, List.set_cons_zero, List.set_cons_succ, List.toList_toArray]
    generalize World.setCells _ br 0 [(.slice (some ⟨b, 0, none⟩) (n + 1) (n + 1)), (.slice a2 m c2)] = wz at *
    refine wpAnyH_done (by kernel_rfl) ?_ _
    go_wp2_with fail
    refine bodyPost_ret (results_cell (by rfl) _ _ _ br 0 (by rfl) [(.slice (some ⟨b, 0, none⟩) (n + 1) (n + 1)), (.slice a2 m c2)] _ (range2 V0) Takg.underlying92 (by rfl) info92) rfl ?_
    exact Res.push0 HEN.out HEM.out HS0.out V3 V1 rfl HNL.out V5 HDX.out

theorem slice_hm0 {P : Program} (t : TypeId) (b off len cap h size : Nat) (ht : P.underlying t = some (.slice (P.elem t))) (hz : ∀ w, (sizeOf (P.elem t)).run P w = .ok size w) (hc : h ≤ cap) (w : World) :
    (Instr.slice t (.slice (some ⟨b, off, none⟩) len cap) none (some (.int .i64 (h : Nat))) (some (.int .i64 (h : Nat)))).run P w = .ok (.slice (some ⟨b, off, none⟩) h h) w := by
  rw [run_slice_hm w t (some ⟨b, off, none⟩) len cap ht .i64 .i64 _ _ (by omega) (by omega) (by omega), hz]
  simp only [Result.andThen, sliced, Int.toNat_natCast, Nat.zero_mul, Nat.sub_zero]
  split <;> simp [Option.map, addr_add]
theorem Res.drop {w w' : World} {a1 a2 : Option Addr} {c1 c2 n m : Nat} {es : Es} {os : List Int} (hn : n = es.length) (hm : m = os.length) (h : StE w a1 c1 es a2 c2 os) (hc : Chg [] w w') :
    Res w w' (.returned (.agg #[.slice a1 (n - 1) (n - 1), .slice a2 m c2])) ((es.take (n - 1)).map (·.2)) os := by
  have h1 := h.n1
  refine Res.of (es := es.take (n - 1)) (by simp; omega) hm ⟨by simp; omega, by simp; omega, by omega, fun h0 => ?_, h.som1, ?_, fun e he => ⟨(h.ent e (List.mem_of_mem_take he)).1.chg0 hc, (h.ent e (List.mem_of_mem_take he)).2⟩, h.n2, h.k2, h.b2, h.cel2.chg0 hc, ?_, h.t2.chg0 hc⟩ rfl hc
  · have := h.nil1 h0
    have := h.k1
    omega
  · have := (h.cel1.take (n - 1)).chg0 hc
    unfold Sv at this ⊢
    rw [List.map_take]
    exact this
  · rcases h.t1 with h2 | ⟨b, cs, h2, h3⟩
    · exact .inl (by simp; omega)
    · exact .inr ⟨b, cs, h2, hc.blk h3 (by simp)⟩
theorem run_load92 {a : Act} {o : Oper} (x : Operand) (h : o.op = .load 92 x) (b : Nat) (p q : Value) (w : World) (hx : a.eval x = .pointer (some ⟨b, 0, none⟩)) (hb : Blk w b 92 [p, q]) : (execOp a.eval o).run Takg.prog w = .ok (.value (.agg #[p, q])) w := by
  have hl := run_loadVar_mid w b 0 92 [p, q] _ (range2 hb) Takg.underlying92 (by rfl) info92
  unfold execOp
  rw [h]
  simp only [hx, Instr.loadAt, Instr.sureAddr, Sem.run_bind, Sem.run_pure, Result.andThen_ok, hl]

set_option maxRecDepth 10000 in
set_option maxHeartbeats 4000000 in
theorem rowDrop (a1 a2 aa : Option Addr) (c1 c2 kd na ca u : Nat) (es : Es) (os : List Int) (w : World) (hs : StE w a1 c1 es a2 c2 os) (ho : os.length < 1000) (hA : Arg w aa na ca u) (ax : Option Addr) (x : Nat) (hk : kd = 8) (hx : es[es.length - 1]? = some (ax, x)) :
    Calls Takg.prog 52 #[.int .u8 0, .agg #[.slice a1 es.length c1, .slice a2 os.length c2], .agg #[.int .u8 kd, .slice aa na ca]] w fun e w' => Res w w' e ((es.take (es.length - 1)).map (·.2)) os := by
  have HNO := hide (fun W (hW : Chg [] w W) => appended_any a2 c2 os (-2) W (by omega) hs.k2 (hs.cel2.chg0 hW))
  have HO := hide ho
  have HN16 := hide hs.n1
  have hn16 := hs.n1
  have hb1 := hs.b1
  have HX := hide (hs.ent _ (List.mem_of_getElem? hx)).1
  have HDX := hide (hs.ent _ (List.mem_of_getElem? hx)).2
  obtain ⟨bS, rfl, htt⟩ := hs.at hx
  simp only at htt HX HDX
  have hpos : 0 < es.length := by
    rcases Nat.eq_zero_or_pos es.length with h0 | h0
    · rw [List.length_eq_zero_iff.mp h0] at hx; simp at hx
    · exact h0
  have hkc := hs.k1
  obtain ⟨n, en⟩ : ∃ n, n = es.length := ⟨_, rfl⟩
  obtain ⟨m, em⟩ : ∃ n, n = os.length := ⟨_, rfl⟩
  rw [← en] at hn16 HN16 htt hpos hx hkc ⊢
  rw [← em] at HNO ho  ⊢
  have HEN := hide en
  have HEM := hide em
  have HS0 := hide hs
  have HAA := hide hA
  have HTT := hide htt
  clear htt
  have hwr : IntKind.i64.wrap ((n : Int) - 1) = ((n - 1 : Nat) : Int) := by rw [IntKind.wrap_i64]; omega
  have HK := hide hk
  clear en em hs ho hA hk
  go_enter Takg.func52, Takg.ntmps52
  go_upto_region 1 with (first | (refine wpList_box92 (by rfl) (.tmp 1) (by rfl) (.slice (some ⟨bS, 0, none⟩) n c1) (.slice a2 m c2) (by rfl) ?_; intro b4 wb hbb k4 cbb) | (refine wpList_box95 (by rfl) (.tmp 2) (by rfl) (.int .u8 kd) (.slice aa na ca) (by rfl) ?_; intro b5 wd hbd k5 cbd) | (refine wpList_new92 (by rfl) (by rfl) ?_; intro br wr hbr kbr cbr))
  have k5r := cbr.blk k5 (by simp)
  have k4d := cbd.blk k4 (by simp)
  have k4r := cbr.blk k4d (by simp)
  have cw := (cbb.trans cbd).trans cbr
  have n4r : b4 ≠ br := by have := k4d.lt; have := hbr.out; omega
  have n5r : b5 ≠ br := by have := k5.lt; have := hbr.out; omega
  have gr : w.heap.size ≤ br := by have := hbr.out; have := cbb.size; have := cbd.size; omega
  clear k4 k5 cbb cbr hbb hbr k4d cbd hbd
  simp only [Act.put, List.setIfInBounds_toArray, List.set_cons_zero, List.set_cons_succ]
  have f0 := k4r.cell 0 _ rfl
  go_upto_region 2 with fail
  clear f0
  go_cut [8] (fun v wc => ∃ bq bo, v = .pointer (some ⟨bq, 0, none⟩) ∧ Blk wc bq 92 [.slice (some ⟨bS, 0, none⟩) n c1, .slice (some ⟨bo, 0, none⟩) (m + 1) (m + 1)] ∧ bq ≠ br ∧ bo ≠ br ∧ Blk wc bo 62 (Ov (os ++ [-2])) ∧ Blk wc b4 92 [.slice (some ⟨bS, 0, none⟩) n c1, .slice a2 m c2] ∧ Blk wc b5 95 [.int .u8 kd, .slice aa na ca] ∧ (∃ (p : Option Addr × Nat × Nat) (q : Value), Blk wc br 92 [.slice p.1 p.2.1 p.2.2, q]) ∧ Chg [] w wc)
  case first =>
    refine wp_region_held_drew (S := fun w1 => Blk w1 b4 92 [.slice (some ⟨bS, 0, none⟩) n c1, .slice a2 m c2] ∧ Blk w1 b5 95 [.int .u8 kd, .slice aa na ca] ∧ (∃ (p : Option Addr × Nat × Nat) (q : Value), Blk w1 br 92 [.slice p.1 p.2.1 p.2.2, q]) ∧ Chg [] w w1 ∧ Ent w1 none 0) (by kernel_rfl) ⟨k4r.drew, k5r.drew, ⟨(none, 0, 0), _, kbr.drew⟩, cw.drew, Ent.zero _⟩ (fun hHeld => ?_)
    refine takeL 0 (v := ?_) rfl (by kernel_rfl) (by kernel_rfl) (by kernel_rfl) (fun _ _ _ h => h) (by rfl) ?_ hHeld ?_
    rotate_left
    · (intro w1 hSw; have f0 := hSw.1.cell 0 _ rfl; have f1 := hSw.1.cell 1 _ rfl; have f2 := hSw.2.1.cell 0 _ rfl; have f3 := hSw.2.1.cell 1 _ rfl; have f4 := HTT.out _ hSw.2.2.2.1; go_simp; try with_reducible rfl)
    simp only [Act.put, List.setIfInBounds_toArray, List.set_cons_zero, List.set_cons_succ]
    refine takeL 1 (v := ?_) rfl (by kernel_rfl) (by kernel_rfl) (by kernel_rfl) (fun _ _ _ h => h) (by rfl) ?_ hHeld ?_
    rotate_left
    · (intro w1 hSw; have f0 := hSw.1.cell 0 _ rfl; have f1 := hSw.1.cell 1 _ rfl; have f2 := hSw.2.1.cell 0 _ rfl; have f3 := hSw.2.1.cell 1 _ rfl; have f4 := HTT.out _ hSw.2.2.2.1; go_simp; try with_reducible rfl)
    simp only [Act.put, List.setIfInBounds_toArray, List.set_cons_zero, List.set_cons_succ]
    refine takeL 2 (v := ?_) rfl (by kernel_rfl) (by kernel_rfl) (by kernel_rfl) (fun _ _ _ h => h) (by rfl) ?_ hHeld ?_
    rotate_left
    · (intro w1 hSw; have f0 := hSw.1.cell 0 _ rfl; have f1 := hSw.1.cell 1 _ rfl; have f2 := hSw.2.1.cell 0 _ rfl; have f3 := hSw.2.1.cell 1 _ rfl; have f4 := HTT.out _ hSw.2.2.2.1; go_simp; try with_reducible rfl)
    simp only [Act.put, List.setIfInBounds_toArray, List.set_cons_zero, List.set_cons_succ]
    refine takeL 3 (v := ?_) rfl (by kernel_rfl) (by kernel_rfl) (by kernel_rfl) (fun _ _ _ h => h) (by rfl) ?_ hHeld ?_
    rotate_left
    · (intro w1 hSw; have f0 := hSw.1.cell 0 _ rfl; have f1 := hSw.1.cell 1 _ rfl; have f2 := hSw.2.1.cell 0 _ rfl; have f3 := hSw.2.1.cell 1 _ rfl; have f4 := HTT.out _ hSw.2.2.2.1; go_simp; try with_reducible rfl)
    simp only [Act.put, List.setIfInBounds_toArray, List.set_cons_zero, List.set_cons_succ]
    refine wpAnyH_ready (rs := [4, 6]) (by kernel_rfl) (by simp) ?_
    refine consL rfl rfl (fun K hK => ?_) ?_
    · go_simp
      refine (HNO.out _ hHeld.2.2.2.1).mono ?_
      rintro e wn ⟨bo, rfl, go, ko, hcn⟩
      have nor : bo ≠ br := by obtain ⟨p, q, hpq⟩ := hHeld.2.2.1; have := hpq.lt; omega
      have go : w.heap.size ≤ bo := Nat.le_trans hHeld.2.2.2.1.size go
      refine hK.out _ _ ⟨hcn.blk hHeld.1 (by simp), hcn.blk hHeld.2.1 (by simp), (by obtain ⟨p, q, hpq⟩ := hHeld.2.2.1; exact ⟨p, q, hcn.blk hpq (by simp)⟩), hHeld.2.2.2.1.trans hcn, hHeld.2.2.2.2.chg0 hcn⟩ (fun hHeld => ?_)
      clear hK K
      try simp only [Act.put, List.setIfInBounds_toArray, List.set_cons_zero, List.set_cons_succ, List.toList_toArray]
      clear hcn
      refine takeL 5 rfl (by kernel_rfl) (by kernel_rfl) (by kernel_rfl) (fun _ _ _ h => h) (by rfl) (fun w1 hSw => run_build92 (.tmp 13) (.tmp 16) rfl (some ⟨bS, 0, none⟩) n c1 (some ⟨bo, 0, none⟩) (m + 1) (m + 1) w1 rfl rfl) hHeld ?_
      simp only [Act.put, List.setIfInBounds_toArray, List.set_cons_zero, List.set_cons_succ]
      refine wpAnyH_ready (rs := [6]) (by kernel_rfl) (by simp) ?_
      refine consL rfl rfl (fun K hK => ?_) AllReadyH.nil
      have hsz := hHeld.2.2.2.1.size
      have lr := (by obtain ⟨p, q, hpq⟩ := hHeld.2.2.1; exact hpq.lt : br < _)
      have l4 := hHeld.1.lt
      have l5 := hHeld.2.1.lt
      refine wp_new92 rfl ?_
      intro bq wn hbq kq hcn
      have gq : w.heap.size ≤ bq := by have := hbq.out; omega
      have nqr : bq ≠ br := by have := hbq.out; omega
      have nq4 : b4 ≠ bq := by have := hbq.out; omega
      have nq5 : b5 ≠ bq := by have := hbq.out; omega
      have nq : bo ≠ bq := by have := hbq.out; have := ko.lt; omega
      have ko := hcn.blk ko (by simp)
      refine hK.out _ _ ⟨hcn.blk hHeld.1 (by simp), hcn.blk hHeld.2.1 (by simp), (by obtain ⟨p, q, hpq⟩ := hHeld.2.2.1; exact ⟨p, q, hcn.blk hpq (by simp)⟩), hHeld.2.2.2.1.trans hcn, hHeld.2.2.2.2.chg0 hcn⟩ (fun hHeld => ?_)
      clear hK K hsz lr l4 l5
      try simp only [Act.put, List.setIfInBounds_toArray, List.set_cons_zero, List.set_cons_succ, List.toList_toArray]
      refine wpAnyH_ready (rs := [7]) (by kernel_rfl) (by simp) ?_
      refine consL rfl rfl (fun K hK => ?_) AllReadyH.nil
      refine wp_store_mid 92 _ _ rfl bq 0 #[.slice (some ⟨bS, 0, none⟩) n c1, .slice (some ⟨bo, 0, none⟩) (m + 1) (m + 1)] rfl rfl (there2 kq) info92 (one92 rfl rfl) ?_
      have V0 := set2 (p' := (.slice (some ⟨bS, 0, none⟩) n c1)) (q' := (.slice (some ⟨bo, 0, none⟩) (m + 1) (m + 1))) kq
      have V1 := ne2 (b := bq) (p := (.slice (some ⟨bS, 0, none⟩) n c1)) (q := (.slice (some ⟨bo, 0, none⟩) (m + 1) (m + 1))) ko nq
      have V2 := ne2 (b := bq) (p := (.slice (some ⟨bS, 0, none⟩) n c1)) (q := (.slice (some ⟨bo, 0, none⟩) (m + 1) (m + 1))) hHeld.1 nq4
      have V2b := ne2 (b := bq) (p := (.slice (some ⟨bS, 0, none⟩) n c1)) (q := (.slice (some ⟨bo, 0, none⟩) (m + 1) (m + 1))) hHeld.2.1 nq5
      have V3 := chg2 (b := bq) (p := (.slice (some ⟨bS, 0, none⟩) n c1)) (q := (.slice (some ⟨bo, 0, none⟩) (m + 1) (m + 1))) hHeld.2.2.2.1 gq
      have V4 : (∃ (p : Option Addr × Nat × Nat) (q : Value), Blk (World.setCells wn bq 0 [(.slice (some ⟨bS, 0, none⟩) n c1), (.slice (some ⟨bo, 0, none⟩) (m + 1) (m + 1))]) br 92 [.slice p.1 p.2.1 p.2.2, q]) := by
        obtain ⟨p, q, hpq⟩ := hHeld.2.2.1
        exact ⟨p, q, ne2 (b := bq) hpq (Ne.symm nqr)⟩
      refine hK.out _ _ ⟨V2, V2b, V4, V3, Ent.zero _⟩ (fun hHeld => ?_)
      clear hK K
      try simp only [Act.put, List.setIfInBounds_toArray, List.set_cons_zero, List.set_cons_succ, List.toList_toArray]
      refine wpAnyH_done (by kernel_rfl) ?_ _
      go_wp2_with fail
      go_meet
      exact ⟨bq, bo, rfl, V0, nqr, nor, V1, V2, V2b, V4, V3⟩
    refine consL rfl rfl (fun K hK => ?_) AllReadyH.nil
    have hsz := hHeld.2.2.2.1.size
    have lr := (by obtain ⟨p, q, hpq⟩ := hHeld.2.2.1; exact hpq.lt : br < _)
    have l4 := hHeld.1.lt
    have l5 := hHeld.2.1.lt
    refine wp_new92 rfl ?_
    intro bq wn hbq kq hcn
    have gq : w.heap.size ≤ bq := by have := hbq.out; omega
    have nqr : bq ≠ br := by have := hbq.out; omega
    have nq4 : b4 ≠ bq := by have := hbq.out; omega
    have nq5 : b5 ≠ bq := by have := hbq.out; omega
    refine hK.out _ _ ⟨hcn.blk hHeld.1 (by simp), hcn.blk hHeld.2.1 (by simp), (by obtain ⟨p, q, hpq⟩ := hHeld.2.2.1; exact ⟨p, q, hcn.blk hpq (by simp)⟩), hHeld.2.2.2.1.trans hcn, hHeld.2.2.2.2.chg0 hcn⟩ (fun hHeld => ?_)
    clear hK K hsz lr l4 l5
    try simp only [Act.put, List.setIfInBounds_toArray, List.set_cons_zero, List.set_cons_succ, List.toList_toArray]
    refine wpAnyH_ready (rs := [4]) (by kernel_rfl) (by simp) ?_
    refine consL rfl rfl (fun K hK => ?_) AllReadyH.nil
    go_simp
    refine (HNO.out _ hHeld.2.2.2.1).mono ?_
    rintro e wn ⟨bo, rfl, go, ko, hcn⟩
    have nq : bo ≠ bq := by have := kq.lt; omega
    have kq := hcn.blk kq (by simp)
    have nor : bo ≠ br := by obtain ⟨p, q, hpq⟩ := hHeld.2.2.1; have := hpq.lt; omega
    have go : w.heap.size ≤ bo := Nat.le_trans hHeld.2.2.2.1.size go
    refine hK.out _ _ ⟨hcn.blk hHeld.1 (by simp), hcn.blk hHeld.2.1 (by simp), (by obtain ⟨p, q, hpq⟩ := hHeld.2.2.1; exact ⟨p, q, hcn.blk hpq (by simp)⟩), hHeld.2.2.2.1.trans hcn, hHeld.2.2.2.2.chg0 hcn⟩ (fun hHeld => ?_)
    clear hK K
    try simp only [Act.put, List.setIfInBounds_toArray, List.set_cons_zero, List.set_cons_succ, List.toList_toArray]
    clear hcn
    refine takeL 5 rfl (by kernel_rfl) (by kernel_rfl) (by kernel_rfl) (fun _ _ _ h => h) (by rfl) (fun w1 hSw => run_build92 (.tmp 13) (.tmp 16) rfl (some ⟨bS, 0, none⟩) n c1 (some ⟨bo, 0, none⟩) (m + 1) (m + 1) w1 rfl rfl) hHeld ?_
    simp only [Act.put, List.setIfInBounds_toArray, List.set_cons_zero, List.set_cons_succ]
    refine wpAnyH_ready (rs := [7]) (by kernel_rfl) (by simp) ?_
    refine consL rfl rfl (fun K hK => ?_) AllReadyH.nil
    refine wp_store_mid 92 _ _ rfl bq 0 #[.slice (some ⟨bS, 0, none⟩) n c1, .slice (some ⟨bo, 0, none⟩) (m + 1) (m + 1)] rfl rfl (there2 kq) info92 (one92 rfl rfl) ?_
    have V0 := set2 (p' := (.slice (some ⟨bS, 0, none⟩) n c1)) (q' := (.slice (some ⟨bo, 0, none⟩) (m + 1) (m + 1))) kq
    have V1 := ne2 (b := bq) (p := (.slice (some ⟨bS, 0, none⟩) n c1)) (q := (.slice (some ⟨bo, 0, none⟩) (m + 1) (m + 1))) ko nq
    have V2 := ne2 (b := bq) (p := (.slice (some ⟨bS, 0, none⟩) n c1)) (q := (.slice (some ⟨bo, 0, none⟩) (m + 1) (m + 1))) hHeld.1 nq4
    have V2b := ne2 (b := bq) (p := (.slice (some ⟨bS, 0, none⟩) n c1)) (q := (.slice (some ⟨bo, 0, none⟩) (m + 1) (m + 1))) hHeld.2.1 nq5
    have V3 := chg2 (b := bq) (p := (.slice (some ⟨bS, 0, none⟩) n c1)) (q := (.slice (some ⟨bo, 0, none⟩) (m + 1) (m + 1))) hHeld.2.2.2.1 gq
    have V4 : (∃ (p : Option Addr × Nat × Nat) (q : Value), Blk (World.setCells wn bq 0 [(.slice (some ⟨bS, 0, none⟩) n c1), (.slice (some ⟨bo, 0, none⟩) (m + 1) (m + 1))]) br 92 [.slice p.1 p.2.1 p.2.2, q]) := by
      obtain ⟨p, q, hpq⟩ := hHeld.2.2.1
      exact ⟨p, q, ne2 (b := bq) hpq (Ne.symm nqr)⟩
    refine hK.out _ _ ⟨V2, V2b, V4, V3, Ent.zero _⟩ (fun hHeld => ?_)
    clear hK K
    try simp only [Act.put, List.setIfInBounds_toArray, List.set_cons_zero, List.set_cons_succ, List.toList_toArray]
    refine wpAnyH_done (by kernel_rfl) ?_ _
    go_wp2_with fail
    go_meet
    exact ⟨bq, bo, rfl, V0, nqr, nor, V1, V2, V2b, V4, V3⟩
  case rest =>
    obtain ⟨bq, bo, rfl, kq, nqr, nor, ko, k4, k5, kr, cwA⟩ := hcut
    clear k4r k5r kbr cw
    have f0 := k4.cell 0 _ rfl
    have f1 := k4.cell 1 _ rfl
    have f2 := k5.cell 0 _ rfl
    have hk := HK.out
    have HNE : Hid (∀ b', (none : Option Addr) = some ⟨b', 0, none⟩ → b' ∉ [br]) := fun b' hb' => nomatch hb'
    have HS3 := hide (slice_hm0 (P := Takg.prog) 89 bS 0 n c1 (n - 1) 1 Takg.underlying89 size89 (by omega))
    go_upto_region 15 with fail
    clear f0 f1 f2
    refine wp_region_held_drew (S := fun w1 => Blk w1 b4 92 [.slice (some ⟨bS, 0, none⟩) n c1, .slice a2 m c2] ∧ Blk w1 b5 95 [.int .u8 kd, .slice aa na ca] ∧ (∃ (p : Option Addr × Nat × Nat) (q : Value), Blk w1 br 92 [.slice p.1 p.2.1 p.2.2, q]) ∧ Chg [] w w1 ∧ Ent w1 none 0) (by kernel_rfl) ⟨k4.drew, k5.drew, (by obtain ⟨p, q, hpq⟩ := kr; exact ⟨p, q, hpq.drew⟩), cwA.drew, (Ent.zero _).chg0 (Chg.refl [] _).drew⟩ (fun hHeld => ?_)
    clear k4 k5 kr cwA kq ko
    refine takeL 0 (v := ?_) rfl (by kernel_rfl) (by kernel_rfl) (by kernel_rfl) (fun _ _ _ h => h) (by rfl) ?_ hHeld ?_
    rotate_left
    · (intro w1 hSw; have f0 := hSw.1.cell 0 _ rfl; have f1 := hSw.1.cell 1 _ rfl; have f2 := hSw.2.1.cell 0 _ rfl; have f3 := hSw.2.1.cell 1 _ rfl; have f4 := HTT.out _ hSw.2.2.2.1; have f5 := HS3.out; go_simp; try with_reducible rfl)
    simp only [Act.put, List.setIfInBounds_toArray, List.set_cons_zero, List.set_cons_succ]
    refine takeL 1 (v := ?_) rfl (by kernel_rfl) (by kernel_rfl) (by kernel_rfl) (fun _ _ _ h => h) (by rfl) ?_ hHeld ?_
    rotate_left
    · (intro w1 hSw; have f0 := hSw.1.cell 0 _ rfl; have f1 := hSw.1.cell 1 _ rfl; have f2 := hSw.2.1.cell 0 _ rfl; have f3 := hSw.2.1.cell 1 _ rfl; have f4 := HTT.out _ hSw.2.2.2.1; have f5 := HS3.out; go_simp; try with_reducible rfl)
    simp only [Act.put, List.setIfInBounds_toArray, List.set_cons_zero, List.set_cons_succ]
    refine takeL 2 (v := ?_) rfl (by kernel_rfl) (by kernel_rfl) (by kernel_rfl) (fun _ _ _ h => h) (by rfl) ?_ hHeld ?_
    rotate_left
    · (intro w1 hSw; have f0 := hSw.1.cell 0 _ rfl; have f1 := hSw.1.cell 1 _ rfl; have f2 := hSw.2.1.cell 0 _ rfl; have f3 := hSw.2.1.cell 1 _ rfl; have f4 := HTT.out _ hSw.2.2.2.1; have f5 := HS3.out; go_simp; try with_reducible rfl)
    simp only [Act.put, List.setIfInBounds_toArray, List.set_cons_zero, List.set_cons_succ]
    refine takeL 3 (v := ?_) rfl (by kernel_rfl) (by kernel_rfl) (by kernel_rfl) (fun _ _ _ h => h) (by rfl) ?_ hHeld ?_
    rotate_left
    · (intro w1 hSw; have f0 := hSw.1.cell 0 _ rfl; have f1 := hSw.1.cell 1 _ rfl; have f2 := hSw.2.1.cell 0 _ rfl; have f3 := hSw.2.1.cell 1 _ rfl; have f4 := HTT.out _ hSw.2.2.2.1; have f5 := HS3.out; go_simp; try with_reducible rfl)
    simp only [Act.put, List.setIfInBounds_toArray, List.set_cons_zero, List.set_cons_succ]
    refine takeL 4 (v := ?_) rfl (by kernel_rfl) (by kernel_rfl) (by kernel_rfl) (fun _ _ _ h => h) (by rfl) ?_ hHeld ?_
    rotate_left
    · (intro w1 hSw; have f0 := hSw.1.cell 0 _ rfl; have f1 := hSw.1.cell 1 _ rfl; have f2 := hSw.2.1.cell 0 _ rfl; have f3 := hSw.2.1.cell 1 _ rfl; have f4 := HTT.out _ hSw.2.2.2.1; have f5 := HS3.out; go_simp; try with_reducible rfl)
    simp only [Act.put, List.setIfInBounds_toArray, List.set_cons_zero, List.set_cons_succ]
    refine takeL 5 (v := ?_) rfl (by kernel_rfl) (by kernel_rfl) (by kernel_rfl) (fun _ _ _ h => h) (by rfl) ?_ hHeld ?_
    rotate_left
    · (intro w1 hSw; have f0 := hSw.1.cell 0 _ rfl; have f1 := hSw.1.cell 1 _ rfl; have f2 := hSw.2.1.cell 0 _ rfl; have f3 := hSw.2.1.cell 1 _ rfl; have f4 := HTT.out _ hSw.2.2.2.1; have f5 := HS3.out; go_simp; try with_reducible rfl)
    simp only [Act.put, List.setIfInBounds_toArray, List.set_cons_zero, List.set_cons_succ]
    refine takeL 6 (v := ?_) rfl (by kernel_rfl) (by kernel_rfl) (by kernel_rfl) (fun _ _ _ h => h) (by rfl) ?_ hHeld ?_
    rotate_left
    · (intro w1 hSw; have f0 := hSw.1.cell 0 _ rfl; have f1 := hSw.1.cell 1 _ rfl; have f2 := hSw.2.1.cell 0 _ rfl; have f3 := hSw.2.1.cell 1 _ rfl; have f4 := HTT.out _ hSw.2.2.2.1; have f5 := HS3.out; go_simp; try with_reducible rfl)
    simp only [Act.put, List.setIfInBounds_toArray, List.set_cons_zero, List.set_cons_succ]
    refine takeL 7 (v := ?_) rfl (by kernel_rfl) (by kernel_rfl) (by kernel_rfl) (fun _ _ _ h => h) (by rfl) ?_ hHeld ?_
    rotate_left
    · (intro w1 hSw; have f0 := hSw.1.cell 0 _ rfl; have f1 := hSw.1.cell 1 _ rfl; have f2 := hSw.2.1.cell 0 _ rfl; have f3 := hSw.2.1.cell 1 _ rfl; have f4 := HTT.out _ hSw.2.2.2.1; have f5 := HS3.out; go_simp; try with_reducible rfl)
    simp only [Act.put, List.setIfInBounds_toArray, List.set_cons_zero, List.set_cons_succ]
    refine takeL 8 (v := ?_) rfl (by kernel_rfl) (by kernel_rfl) (by kernel_rfl) (fun _ _ _ h => h) (by rfl) ?_ hHeld ?_
    rotate_left
    · (intro w1 hSw; have f0 := hSw.1.cell 0 _ rfl; have f1 := hSw.1.cell 1 _ rfl; have f2 := hSw.2.1.cell 0 _ rfl; have f3 := hSw.2.1.cell 1 _ rfl; have f4 := HTT.out _ hSw.2.2.2.1; have f5 := HS3.out; go_simp; try with_reducible rfl)
    simp only [Act.put, List.setIfInBounds_toArray, List.set_cons_zero, List.set_cons_succ]
    refine takeL 9 rfl (by kernel_rfl) (by kernel_rfl) (by kernel_rfl) (fun _ _ _ h => h) (by rfl) (fun w1 hSw => run_build92 (.tmp 67) (.tmp 69) rfl (some ⟨bS, 0, none⟩) (n - 1) (n - 1) a2 m c2 w1 rfl rfl) hHeld ?_
    simp only [Act.put, List.setIfInBounds_toArray, List.set_cons_zero, List.set_cons_succ]
    obtain ⟨p, q, kr⟩ := hHeld.2.2.1
    refine wpAnyH_ready (rs := [10]) (by kernel_rfl) (by simp) ?_
    refine consL rfl rfl (fun K hK => ?_) AllReadyH.nil
    refine wp_store_mid 92 _ _ rfl br 0 #[(.slice (some ⟨bS, 0, none⟩) (n - 1) (n - 1)), (.slice a2 m c2)] rfl rfl (there2 kr) info92 (one92 rfl rfl) ?_
    have V0 := set2 (p' := (.slice (some ⟨bS, 0, none⟩) (n - 1) (n - 1))) (q' := (.slice a2 m c2)) kr
    have V2 := ne2 (b := br) (p := (.slice (some ⟨bS, 0, none⟩) (n - 1) (n - 1))) (q := (.slice a2 m c2)) hHeld.1 n4r
    have V2b := ne2 (b := br) (p := (.slice (some ⟨bS, 0, none⟩) (n - 1) (n - 1))) (q := (.slice a2 m c2)) hHeld.2.1 n5r
    have V3 := chg2 (b := br) (p := (.slice (some ⟨bS, 0, none⟩) (n - 1) (n - 1))) (q := (.slice a2 m c2)) hHeld.2.2.2.1 gr
    have V5 := Ent.chg hHeld.2.2.2.2 (chgBr (br := br) (p := (.slice (some ⟨bS, 0, none⟩) (n - 1) (n - 1))) (q := (.slice a2 m c2))) HNE.out
    refine hK.out _ _ ⟨V2, V2b, ⟨((some ⟨bS, 0, none⟩), (n - 1), (n - 1)), _, V0⟩, V3, V5⟩ (fun hHeld => ?_)
    clear hK K
    try simp only [Act.put, List.setIfInBounds_toArray, List.set_cons_zero, List.set_cons_succ, List.toList_toArray]
    generalize World.setCells _ br 0 [(.slice (some ⟨bS, 0, none⟩) (n - 1) (n - 1)), (.slice a2 m c2)] = wz at *
    refine wpAnyH_done (by kernel_rfl) ?_ _
    go_wp2_with fail
    refine bodyPost_ret (results_cell (by rfl) _ _ _ br 0 (by rfl) [(.slice (some ⟨bS, 0, none⟩) (n - 1) (n - 1)), (.slice a2 m c2)] _ (range2 V0) Takg.underlying92 (by rfl) info92) rfl ?_
    exact Res.drop HEN.out HEM.out HS0.out V3

set_option maxRecDepth 10000 in
set_option maxHeartbeats 4000000 in
theorem rowSqrNo (a1 a2 aa : Option Addr) (c1 c2 kd na ca u : Nat) (es : Es) (os : List Int) (w : World) (hs : StE w a1 c1 es a2 c2 os) (ho : os.length < 1000) (hA : Arg w aa na ca u) (ax : Option Addr) (x : Nat) (hk : kd = 4) (hx : es[es.length - 1]? = some (ax, x)) (hd : 512 < dlen x) :
    Calls Takg.prog 52 #[.int .u8 0, .agg #[.slice a1 es.length c1, .slice a2 os.length c2], .agg #[.int .u8 kd, .slice aa na ca]] w fun e w' => Res w w' e (es.map (·.2)) (os ++ [-2]) := by
  have HNO := hide (fun W (hW : Chg [] w W) => appended_any a2 c2 os (-2) W (by omega) hs.k2 (hs.cel2.chg0 hW))
  have HO := hide ho
  have HN16 := hide hs.n1
  have hn16 := hs.n1
  have hb1 := hs.b1
  have HX := hide (hs.ent _ (List.mem_of_getElem? hx)).1
  have HDX := hide (hs.ent _ (List.mem_of_getElem? hx)).2
  obtain ⟨bS, rfl, htt⟩ := hs.at hx
  simp only at htt HX HDX
  have hpos : 0 < es.length := by
    rcases Nat.eq_zero_or_pos es.length with h0 | h0
    · rw [List.length_eq_zero_iff.mp h0] at hx; simp at hx
    · exact h0
  obtain ⟨n, en⟩ : ∃ n, n = es.length := ⟨_, rfl⟩
  obtain ⟨m, em⟩ : ∃ n, n = os.length := ⟨_, rfl⟩
  rw [← en] at hn16 HN16 htt hpos hx ⊢
  rw [← em] at HNO ho  ⊢
  have HEN := hide en
  have HEM := hide em
  have HS0 := hide hs
  have HAA := hide hA
  have HTT := hide htt
  clear htt
  have hwr : IntKind.i64.wrap ((n : Int) - 1) = ((n - 1 : Nat) : Int) := by rw [IntKind.wrap_i64]; omega
  have HK := hide hk
  clear en em hs ho hA hk
  go_enter Takg.func52, Takg.ntmps52
  go_upto_region 1 with (first | (refine wpList_box92 (by rfl) (.tmp 1) (by rfl) (.slice (some ⟨bS, 0, none⟩) n c1) (.slice a2 m c2) (by rfl) ?_; intro b4 wb hbb k4 cbb) | (refine wpList_box95 (by rfl) (.tmp 2) (by rfl) (.int .u8 kd) (.slice aa na ca) (by rfl) ?_; intro b5 wd hbd k5 cbd) | (refine wpList_new92 (by rfl) (by rfl) ?_; intro br wr hbr kbr cbr))
  have k5r := cbr.blk k5 (by simp)
  have k4d := cbd.blk k4 (by simp)
  have k4r := cbr.blk k4d (by simp)
  have cw := (cbb.trans cbd).trans cbr
  have n4r : b4 ≠ br := by have := k4d.lt; have := hbr.out; omega
  have n5r : b5 ≠ br := by have := k5.lt; have := hbr.out; omega
  have gr : w.heap.size ≤ br := by have := hbr.out; have := cbb.size; have := cbd.size; omega
  clear k4 k5 cbb cbr hbb hbr k4d cbd hbd
  simp only [Act.put, List.setIfInBounds_toArray, List.set_cons_zero, List.set_cons_succ]
  have f0 := k4r.cell 0 _ rfl
  go_upto_region 2 with fail
  clear f0
  go_cut [8] (fun v wc => ∃ bq bo, v = .pointer (some ⟨bq, 0, none⟩) ∧ Blk wc bq 92 [.slice (some ⟨bS, 0, none⟩) n c1, .slice (some ⟨bo, 0, none⟩) (m + 1) (m + 1)] ∧ bq ≠ br ∧ bo ≠ br ∧ Blk wc bo 62 (Ov (os ++ [-2])) ∧ Blk wc b4 92 [.slice (some ⟨bS, 0, none⟩) n c1, .slice a2 m c2] ∧ Blk wc b5 95 [.int .u8 kd, .slice aa na ca] ∧ (∃ (p : Option Addr × Nat × Nat) (q : Value), Blk wc br 92 [.slice p.1 p.2.1 p.2.2, q]) ∧ Chg [] w wc)
  case first =>
    refine wp_region_held_drew (S := fun w1 => Blk w1 b4 92 [.slice (some ⟨bS, 0, none⟩) n c1, .slice a2 m c2] ∧ Blk w1 b5 95 [.int .u8 kd, .slice aa na ca] ∧ (∃ (p : Option Addr × Nat × Nat) (q : Value), Blk w1 br 92 [.slice p.1 p.2.1 p.2.2, q]) ∧ Chg [] w w1 ∧ Ent w1 none 0) (by kernel_rfl) ⟨k4r.drew, k5r.drew, ⟨(none, 0, 0), _, kbr.drew⟩, cw.drew, Ent.zero _⟩ (fun hHeld => ?_)
    refine takeL 0 (v := ?_) rfl (by kernel_rfl) (by kernel_rfl) (by kernel_rfl) (fun _ _ _ h => h) (by rfl) ?_ hHeld ?_
    rotate_left
    · (intro w1 hSw; have f0 := hSw.1.cell 0 _ rfl; have f1 := hSw.1.cell 1 _ rfl; have f2 := hSw.2.1.cell 0 _ rfl; have f3 := hSw.2.1.cell 1 _ rfl; have f4 := HTT.out _ hSw.2.2.2.1; go_simp; try with_reducible rfl)
    simp only [Act.put, List.setIfInBounds_toArray, List.set_cons_zero, List.set_cons_succ]
    refine takeL 1 (v := ?_) rfl (by kernel_rfl) (by kernel_rfl) (by kernel_rfl) (fun _ _ _ h => h) (by rfl) ?_ hHeld ?_
    rotate_left
    · (intro w1 hSw; have f0 := hSw.1.cell 0 _ rfl; have f1 := hSw.1.cell 1 _ rfl; have f2 := hSw.2.1.cell 0 _ rfl; have f3 := hSw.2.1.cell 1 _ rfl; have f4 := HTT.out _ hSw.2.2.2.1; go_simp; try with_reducible rfl)
    simp only [Act.put, List.setIfInBounds_toArray, List.set_cons_zero, List.set_cons_succ]
    refine takeL 2 (v := ?_) rfl (by kernel_rfl) (by kernel_rfl) (by kernel_rfl) (fun _ _ _ h => h) (by rfl) ?_ hHeld ?_
    rotate_left
    · (intro w1 hSw; have f0 := hSw.1.cell 0 _ rfl; have f1 := hSw.1.cell 1 _ rfl; have f2 := hSw.2.1.cell 0 _ rfl; have f3 := hSw.2.1.cell 1 _ rfl; have f4 := HTT.out _ hSw.2.2.2.1; go_simp; try with_reducible rfl)
    simp only [Act.put, List.setIfInBounds_toArray, List.set_cons_zero, List.set_cons_succ]
    refine takeL 3 (v := ?_) rfl (by kernel_rfl) (by kernel_rfl) (by kernel_rfl) (fun _ _ _ h => h) (by rfl) ?_ hHeld ?_
    rotate_left
    · (intro w1 hSw; have f0 := hSw.1.cell 0 _ rfl; have f1 := hSw.1.cell 1 _ rfl; have f2 := hSw.2.1.cell 0 _ rfl; have f3 := hSw.2.1.cell 1 _ rfl; have f4 := HTT.out _ hSw.2.2.2.1; go_simp; try with_reducible rfl)
    simp only [Act.put, List.setIfInBounds_toArray, List.set_cons_zero, List.set_cons_succ]
    refine wpAnyH_ready (rs := [4, 6]) (by kernel_rfl) (by simp) ?_
    refine consL rfl rfl (fun K hK => ?_) ?_
    · go_simp
      refine (HNO.out _ hHeld.2.2.2.1).mono ?_
      rintro e wn ⟨bo, rfl, go, ko, hcn⟩
      have nor : bo ≠ br := by obtain ⟨p, q, hpq⟩ := hHeld.2.2.1; have := hpq.lt; omega
      have go : w.heap.size ≤ bo := Nat.le_trans hHeld.2.2.2.1.size go
      refine hK.out _ _ ⟨hcn.blk hHeld.1 (by simp), hcn.blk hHeld.2.1 (by simp), (by obtain ⟨p, q, hpq⟩ := hHeld.2.2.1; exact ⟨p, q, hcn.blk hpq (by simp)⟩), hHeld.2.2.2.1.trans hcn, hHeld.2.2.2.2.chg0 hcn⟩ (fun hHeld => ?_)
      clear hK K
      try simp only [Act.put, List.setIfInBounds_toArray, List.set_cons_zero, List.set_cons_succ, List.toList_toArray]
      clear hcn
      refine takeL 5 rfl (by kernel_rfl) (by kernel_rfl) (by kernel_rfl) (fun _ _ _ h => h) (by rfl) (fun w1 hSw => run_build92 (.tmp 13) (.tmp 16) rfl (some ⟨bS, 0, none⟩) n c1 (some ⟨bo, 0, none⟩) (m + 1) (m + 1) w1 rfl rfl) hHeld ?_
      simp only [Act.put, List.setIfInBounds_toArray, List.set_cons_zero, List.set_cons_succ]
      refine wpAnyH_ready (rs := [6]) (by kernel_rfl) (by simp) ?_
      refine consL rfl rfl (fun K hK => ?_) AllReadyH.nil
      have hsz := hHeld.2.2.2.1.size
      have lr := (by obtain ⟨p, q, hpq⟩ := hHeld.2.2.1; exact hpq.lt : br < _)
      have l4 := hHeld.1.lt
      have l5 := hHeld.2.1.lt
      refine wp_new92 rfl ?_
      intro bq wn hbq kq hcn
      have gq : w.heap.size ≤ bq := by have := hbq.out; omega
      have nqr : bq ≠ br := by have := hbq.out; omega
      have nq4 : b4 ≠ bq := by have := hbq.out; omega
      have nq5 : b5 ≠ bq := by have := hbq.out; omega
      have nq : bo ≠ bq := by have := hbq.out; have := ko.lt; omega
      have ko := hcn.blk ko (by simp)
      refine hK.out _ _ ⟨hcn.blk hHeld.1 (by simp), hcn.blk hHeld.2.1 (by simp), (by obtain ⟨p, q, hpq⟩ := hHeld.2.2.1; exact ⟨p, q, hcn.blk hpq (by simp)⟩), hHeld.2.2.2.1.trans hcn, hHeld.2.2.2.2.chg0 hcn⟩ (fun hHeld => ?_)
      clear hK K hsz lr l4 l5
      try simp only [Act.put, List.setIfInBounds_toArray, List.set_cons_zero, List.set_cons_succ, List.toList_toArray]
      refine wpAnyH_ready (rs := [7]) (by kernel_rfl) (by simp) ?_
      refine consL rfl rfl (fun K hK => ?_) AllReadyH.nil
      refine wp_store_mid 92 _ _ rfl bq 0 #[.slice (some ⟨bS, 0, none⟩) n c1, .slice (some ⟨bo, 0, none⟩) (m + 1) (m + 1)] rfl rfl (there2 kq) info92 (one92 rfl rfl) ?_
      have V0 := set2 (p' := (.slice (some ⟨bS, 0, none⟩) n c1)) (q' := (.slice (some ⟨bo, 0, none⟩) (m + 1) (m + 1))) kq
      have V1 := ne2 (b := bq) (p := (.slice (some ⟨bS, 0, none⟩) n c1)) (q := (.slice (some ⟨bo, 0, none⟩) (m + 1) (m + 1))) ko nq
      have V2 := ne2 (b := bq) (p := (.slice (some ⟨bS, 0, none⟩) n c1)) (q := (.slice (some ⟨bo, 0, none⟩) (m + 1) (m + 1))) hHeld.1 nq4
      have V2b := ne2 (b := bq) (p := (.slice (some ⟨bS, 0, none⟩) n c1)) (q := (.slice (some ⟨bo, 0, none⟩) (m + 1) (m + 1))) hHeld.2.1 nq5
      have V3 := chg2 (b := bq) (p := (.slice (some ⟨bS, 0, none⟩) n c1)) (q := (.slice (some ⟨bo, 0, none⟩) (m + 1) (m + 1))) hHeld.2.2.2.1 gq
      have V4 : (∃ (p : Option Addr × Nat × Nat) (q : Value), Blk (World.setCells wn bq 0 [(.slice (some ⟨bS, 0, none⟩) n c1), (.slice (some ⟨bo, 0, none⟩) (m + 1) (m + 1))]) br 92 [.slice p.1 p.2.1 p.2.2, q]) := by
        obtain ⟨p, q, hpq⟩ := hHeld.2.2.1
        exact ⟨p, q, ne2 (b := bq) hpq (Ne.symm nqr)⟩
      refine hK.out _ _ ⟨V2, V2b, V4, V3, Ent.zero _⟩ (fun hHeld => ?_)
      clear hK K
      try simp only [Act.put, List.setIfInBounds_toArray, List.set_cons_zero, List.set_cons_succ, List.toList_toArray]
      refine wpAnyH_done (by kernel_rfl) ?_ _
      go_wp2_with fail
      go_meet
      exact ⟨bq, bo, rfl, V0, nqr, nor, V1, V2, V2b, V4, V3⟩
    refine consL rfl rfl (fun K hK => ?_) AllReadyH.nil
    have hsz := hHeld.2.2.2.1.size
    have lr := (by obtain ⟨p, q, hpq⟩ := hHeld.2.2.1; exact hpq.lt : br < _)
    have l4 := hHeld.1.lt
    have l5 := hHeld.2.1.lt
    refine wp_new92 rfl ?_
    intro bq wn hbq kq hcn
    have gq : w.heap.size ≤ bq := by have := hbq.out; omega
    have nqr : bq ≠ br := by have := hbq.out; omega
    have nq4 : b4 ≠ bq := by have := hbq.out; omega
    have nq5 : b5 ≠ bq := by have := hbq.out; omega
    refine hK.out _ _ ⟨hcn.blk hHeld.1 (by simp), hcn.blk hHeld.2.1 (by simp), (by obtain ⟨p, q, hpq⟩ := hHeld.2.2.1; exact ⟨p, q, hcn.blk hpq (by simp)⟩), hHeld.2.2.2.1.trans hcn, hHeld.2.2.2.2.chg0 hcn⟩ (fun hHeld => ?_)
    clear hK K hsz lr l4 l5
    try simp only [Act.put, List.setIfInBounds_toArray, List.set_cons_zero, List.set_cons_succ, List.toList_toArray]
    refine wpAnyH_ready (rs := [4]) (by kernel_rfl) (by simp) ?_
    refine consL rfl rfl (fun K hK => ?_) AllReadyH.nil
    go_simp
    refine (HNO.out _ hHeld.2.2.2.1).mono ?_
    rintro e wn ⟨bo, rfl, go, ko, hcn⟩
    have nq : bo ≠ bq := by have := kq.lt; omega
    have kq := hcn.blk kq (by simp)
    have nor : bo ≠ br := by obtain ⟨p, q, hpq⟩ := hHeld.2.2.1; have := hpq.lt; omega
    have go : w.heap.size ≤ bo := Nat.le_trans hHeld.2.2.2.1.size go
    refine hK.out _ _ ⟨hcn.blk hHeld.1 (by simp), hcn.blk hHeld.2.1 (by simp), (by obtain ⟨p, q, hpq⟩ := hHeld.2.2.1; exact ⟨p, q, hcn.blk hpq (by simp)⟩), hHeld.2.2.2.1.trans hcn, hHeld.2.2.2.2.chg0 hcn⟩ (fun hHeld => ?_)
    clear hK K
    try simp only [Act.put, List.setIfInBounds_toArray, List.set_cons_zero, List.set_cons_succ, List.toList_toArray]
    clear hcn
    refine takeL 5 rfl (by kernel_rfl) (by kernel_rfl) (by kernel_rfl) (fun _ _ _ h => h) (by rfl) (fun w1 hSw => run_build92 (.tmp 13) (.tmp 16) rfl (some ⟨bS, 0, none⟩) n c1 (some ⟨bo, 0, none⟩) (m + 1) (m + 1) w1 rfl rfl) hHeld ?_
    simp only [Act.put, List.setIfInBounds_toArray, List.set_cons_zero, List.set_cons_succ]
    refine wpAnyH_ready (rs := [7]) (by kernel_rfl) (by simp) ?_
    refine consL rfl rfl (fun K hK => ?_) AllReadyH.nil
    refine wp_store_mid 92 _ _ rfl bq 0 #[.slice (some ⟨bS, 0, none⟩) n c1, .slice (some ⟨bo, 0, none⟩) (m + 1) (m + 1)] rfl rfl (there2 kq) info92 (one92 rfl rfl) ?_
    have V0 := set2 (p' := (.slice (some ⟨bS, 0, none⟩) n c1)) (q' := (.slice (some ⟨bo, 0, none⟩) (m + 1) (m + 1))) kq
    have V1 := ne2 (b := bq) (p := (.slice (some ⟨bS, 0, none⟩) n c1)) (q := (.slice (some ⟨bo, 0, none⟩) (m + 1) (m + 1))) ko nq
    have V2 := ne2 (b := bq) (p := (.slice (some ⟨bS, 0, none⟩) n c1)) (q := (.slice (some ⟨bo, 0, none⟩) (m + 1) (m + 1))) hHeld.1 nq4
    have V2b := ne2 (b := bq) (p := (.slice (some ⟨bS, 0, none⟩) n c1)) (q := (.slice (some ⟨bo, 0, none⟩) (m + 1) (m + 1))) hHeld.2.1 nq5
    have V3 := chg2 (b := bq) (p := (.slice (some ⟨bS, 0, none⟩) n c1)) (q := (.slice (some ⟨bo, 0, none⟩) (m + 1) (m + 1))) hHeld.2.2.2.1 gq
    have V4 : (∃ (p : Option Addr × Nat × Nat) (q : Value), Blk (World.setCells wn bq 0 [(.slice (some ⟨bS, 0, none⟩) n c1), (.slice (some ⟨bo, 0, none⟩) (m + 1) (m + 1))]) br 92 [.slice p.1 p.2.1 p.2.2, q]) := by
      obtain ⟨p, q, hpq⟩ := hHeld.2.2.1
      exact ⟨p, q, ne2 (b := bq) hpq (Ne.symm nqr)⟩
    refine hK.out _ _ ⟨V2, V2b, V4, V3, Ent.zero _⟩ (fun hHeld => ?_)
    clear hK K
    try simp only [Act.put, List.setIfInBounds_toArray, List.set_cons_zero, List.set_cons_succ, List.toList_toArray]
    refine wpAnyH_done (by kernel_rfl) ?_ _
    go_wp2_with fail
    go_meet
    exact ⟨bq, bo, rfl, V0, nqr, nor, V1, V2, V2b, V4, V3⟩
  case rest =>
    obtain ⟨bq, bo, rfl, kq, nqr, nor, ko, k4, k5, kr, cwA⟩ := hcut
    clear k4r k5r kbr cw
    have f0 := k4.cell 0 _ rfl
    have f1 := k4.cell 1 _ rfl
    have f2 := k5.cell 0 _ rfl
    have hk := HK.out
    have ft := HTT.out _ cwA
    generalize dlen x = dx at *
    obtain ⟨p, q, kr⟩ := kr
    have V0 := set2 (p' := .slice (some ⟨bS, 0, none⟩) n c1) (q' := .slice (some ⟨bo, 0, none⟩) (m + 1) (m + 1)) kr
    have V1 := ne2 (b := br) (p := .slice (some ⟨bS, 0, none⟩) n c1) (q := .slice (some ⟨bo, 0, none⟩) (m + 1) (m + 1)) ko nor
    have V3 := chg2 (b := br) (p := .slice (some ⟨bS, 0, none⟩) n c1) (q := .slice (some ⟨bo, 0, none⟩) (m + 1) (m + 1)) cwA gr
    go_wp2_with (first | (refine wpList_load_mid (by rfl) 92 (.tmp 8) (by rfl) bq 0 (by rfl) [.slice (some ⟨bS, 0, none⟩) n c1, .slice (some ⟨bo, 0, none⟩) (m + 1) (m + 1)] _ (range2 kq) Takg.underlying92 (by rfl) info92 ?_) | (refine wpList_store_mid (by rfl) 92 (.tmp 6) (.tmp 85) (by rfl) br 0 #[.slice (some ⟨bS, 0, none⟩) n c1, .slice (some ⟨bo, 0, none⟩) (m + 1) (m + 1)] (by rfl) (by rfl) (there2 kr) info92 (one92 rfl rfl) ?_))
    refine bodyPost_ret (results_cell (by rfl) _ _ _ br 0 (by rfl) [.slice (some ⟨bS, 0, none⟩) n c1, .slice (some ⟨bo, 0, none⟩) (m + 1) (m + 1)] _ (range2 V0) Takg.underlying92 (by rfl) info92) rfl ?_
    exact Res.of HEN.out (by simp [HEM.out]) (HS0.out.out V3 HO.out V1 (by rw [HEM.out])) rfl V3

set_option maxRecDepth 10000 in
set_option maxHeartbeats 4000000 in
theorem rowSqr (a1 a2 aa : Option Addr) (c1 c2 kd na ca u : Nat) (es : Es) (os : List Int) (w : World) (hs : StE w a1 c1 es a2 c2 os) (ho : os.length < 1000) (hA : Arg w aa na ca u) (ax : Option Addr) (x : Nat) (hk : kd = 4) (hx : es[es.length - 1]? = some (ax, x)) (hd : dlen x ≤ 512) :
    Calls Takg.prog 52 #[.int .u8 0, .agg #[.slice a1 es.length c1, .slice a2 os.length c2], .agg #[.int .u8 kd, .slice aa na ca]] w fun e w' => Res w w' e ((es.take (es.length - 1)).map (·.2) ++ [x * x]) os := by
  have HNO := hide (fun W (hW : Chg [] w W) => appended_any a2 c2 os (-2) W (by omega) hs.k2 (hs.cel2.chg0 hW))
  have HO := hide ho
  have HN16 := hide hs.n1
  have hn16 := hs.n1
  have hb1 := hs.b1
  have HX := hide (hs.ent _ (List.mem_of_getElem? hx)).1
  have HDX := hide (hs.ent _ (List.mem_of_getElem? hx)).2
  obtain ⟨bS, rfl, htt⟩ := hs.at hx
  simp only at htt HX HDX
  have hpos : 0 < es.length := by
    rcases Nat.eq_zero_or_pos es.length with h0 | h0
    · rw [List.length_eq_zero_iff.mp h0] at hx; simp at hx
    · exact h0
  have HDZ := hide (dlen_mul hd hd)
  have HM := hide (fun W (hW : Chg [] w W) => multipliedRow_one _ a2 ax ax c1 c2 x x es os W (hs.chg0 hW) (by omega) (by omega) (by omega) (HX.out.chg0 hW) (HX.out.chg0 hW))
  obtain ⟨n, en⟩ : ∃ n, n = es.length := ⟨_, rfl⟩
  obtain ⟨m, em⟩ : ∃ n, n = os.length := ⟨_, rfl⟩
  rw [← en] at hn16 HN16 htt hpos hx HM ⊢
  rw [← em] at HNO ho HM ⊢
  have HEN := hide en
  have HEM := hide em
  have HS0 := hide hs
  have HAA := hide hA
  have HTT := hide htt
  clear htt
  have hwr : IntKind.i64.wrap ((n : Int) - 1) = ((n - 1 : Nat) : Int) := by rw [IntKind.wrap_i64]; omega
  have HK := hide hk
  clear en em hs ho hA hk
  go_enter Takg.func52, Takg.ntmps52
  go_upto_region 1 with (first | (refine wpList_box92 (by rfl) (.tmp 1) (by rfl) (.slice (some ⟨bS, 0, none⟩) n c1) (.slice a2 m c2) (by rfl) ?_; intro b4 wb hbb k4 cbb) | (refine wpList_box95 (by rfl) (.tmp 2) (by rfl) (.int .u8 kd) (.slice aa na ca) (by rfl) ?_; intro b5 wd hbd k5 cbd) | (refine wpList_new92 (by rfl) (by rfl) ?_; intro br wr hbr kbr cbr))
  have k5r := cbr.blk k5 (by simp)
  have k4d := cbd.blk k4 (by simp)
  have k4r := cbr.blk k4d (by simp)
  have cw := (cbb.trans cbd).trans cbr
  have n4r : b4 ≠ br := by have := k4d.lt; have := hbr.out; omega
  have n5r : b5 ≠ br := by have := k5.lt; have := hbr.out; omega
  have gr : w.heap.size ≤ br := by have := hbr.out; have := cbb.size; have := cbd.size; omega
  clear k4 k5 cbb cbr hbb hbr k4d cbd hbd
  simp only [Act.put, List.setIfInBounds_toArray, List.set_cons_zero, List.set_cons_succ]
  have f0 := k4r.cell 0 _ rfl
  go_upto_region 2 with fail
  clear f0
  go_cut [8] (fun v wc => ∃ bq bo, v = .pointer (some ⟨bq, 0, none⟩) ∧ Blk wc bq 92 [.slice (some ⟨bS, 0, none⟩) n c1, .slice (some ⟨bo, 0, none⟩) (m + 1) (m + 1)] ∧ bq ≠ br ∧ bo ≠ br ∧ Blk wc bo 62 (Ov (os ++ [-2])) ∧ Blk wc b4 92 [.slice (some ⟨bS, 0, none⟩) n c1, .slice a2 m c2] ∧ Blk wc b5 95 [.int .u8 kd, .slice aa na ca] ∧ (∃ (p : Option Addr × Nat × Nat) (q : Value), Blk wc br 92 [.slice p.1 p.2.1 p.2.2, q]) ∧ Chg [] w wc)
  case first =>
    refine wp_region_held_drew (S := fun w1 => Blk w1 b4 92 [.slice (some ⟨bS, 0, none⟩) n c1, .slice a2 m c2] ∧ Blk w1 b5 95 [.int .u8 kd, .slice aa na ca] ∧ (∃ (p : Option Addr × Nat × Nat) (q : Value), Blk w1 br 92 [.slice p.1 p.2.1 p.2.2, q]) ∧ Chg [] w w1 ∧ Ent w1 none 0) (by kernel_rfl) ⟨k4r.drew, k5r.drew, ⟨(none, 0, 0), _, kbr.drew⟩, cw.drew, Ent.zero _⟩ (fun hHeld => ?_)
    refine takeL 0 (v := ?_) rfl (by kernel_rfl) (by kernel_rfl) (by kernel_rfl) (fun _ _ _ h => h) (by rfl) ?_ hHeld ?_
    rotate_left
    · (intro w1 hSw; have f0 := hSw.1.cell 0 _ rfl; have f1 := hSw.1.cell 1 _ rfl; have f2 := hSw.2.1.cell 0 _ rfl; have f3 := hSw.2.1.cell 1 _ rfl; have f4 := HTT.out _ hSw.2.2.2.1; go_simp; try with_reducible rfl)
    simp only [Act.put, List.setIfInBounds_toArray, List.set_cons_zero, List.set_cons_succ]
    refine takeL 1 (v := ?_) rfl (by kernel_rfl) (by kernel_rfl) (by kernel_rfl) (fun _ _ _ h => h) (by rfl) ?_ hHeld ?_
    rotate_left
    · (intro w1 hSw; have f0 := hSw.1.cell 0 _ rfl; have f1 := hSw.1.cell 1 _ rfl; have f2 := hSw.2.1.cell 0 _ rfl; have f3 := hSw.2.1.cell 1 _ rfl; have f4 := HTT.out _ hSw.2.2.2.1; go_simp; try with_reducible rfl)
    simp only [Act.put, List.setIfInBounds_toArray, List.set_cons_zero, List.set_cons_succ]
    refine takeL 2 (v := ?_) rfl (by kernel_rfl) (by kernel_rfl) (by kernel_rfl) (fun _ _ _ h => h) (by rfl) ?_ hHeld ?_
    rotate_left
    · (intro w1 hSw; have f0 := hSw.1.cell 0 _ rfl; have f1 := hSw.1.cell 1 _ rfl; have f2 := hSw.2.1.cell 0 _ rfl; have f3 := hSw.2.1.cell 1 _ rfl; have f4 := HTT.out _ hSw.2.2.2.1; go_simp; try with_reducible rfl)
    simp only [Act.put, List.setIfInBounds_toArray, List.set_cons_zero, List.set_cons_succ]
    refine takeL 3 (v := ?_) rfl (by kernel_rfl) (by kernel_rfl) (by kernel_rfl) (fun _ _ _ h => h) (by rfl) ?_ hHeld ?_
    rotate_left
    · (intro w1 hSw; have f0 := hSw.1.cell 0 _ rfl; have f1 := hSw.1.cell 1 _ rfl; have f2 := hSw.2.1.cell 0 _ rfl; have f3 := hSw.2.1.cell 1 _ rfl; have f4 := HTT.out _ hSw.2.2.2.1; go_simp; try with_reducible rfl)
    simp only [Act.put, List.setIfInBounds_toArray, List.set_cons_zero, List.set_cons_succ]
    refine wpAnyH_ready (rs := [4, 6]) (by kernel_rfl) (by simp) ?_
    refine consL rfl rfl (fun K hK => ?_) ?_
    · go_simp
      refine (HNO.out _ hHeld.2.2.2.1).mono ?_
      rintro e wn ⟨bo, rfl, go, ko, hcn⟩
      have nor : bo ≠ br := by obtain ⟨p, q, hpq⟩ := hHeld.2.2.1; have := hpq.lt; omega
      have go : w.heap.size ≤ bo := Nat.le_trans hHeld.2.2.2.1.size go
      refine hK.out _ _ ⟨hcn.blk hHeld.1 (by simp), hcn.blk hHeld.2.1 (by simp), (by obtain ⟨p, q, hpq⟩ := hHeld.2.2.1; exact ⟨p, q, hcn.blk hpq (by simp)⟩), hHeld.2.2.2.1.trans hcn, hHeld.2.2.2.2.chg0 hcn⟩ (fun hHeld => ?_)
      clear hK K
      try simp only [Act.put, List.setIfInBounds_toArray, List.set_cons_zero, List.set_cons_succ, List.toList_toArray]
      clear hcn
      refine takeL 5 rfl (by kernel_rfl) (by kernel_rfl) (by kernel_rfl) (fun _ _ _ h => h) (by rfl) (fun w1 hSw => run_build92 (.tmp 13) (.tmp 16) rfl (some ⟨bS, 0, none⟩) n c1 (some ⟨bo, 0, none⟩) (m + 1) (m + 1) w1 rfl rfl) hHeld ?_
      simp only [Act.put, List.setIfInBounds_toArray, List.set_cons_zero, List.set_cons_succ]
      refine wpAnyH_ready (rs := [6]) (by kernel_rfl) (by simp) ?_
      refine consL rfl rfl (fun K hK => ?_) AllReadyH.nil
      have hsz := hHeld.2.2.2.1.size
      have lr := (by obtain ⟨p, q, hpq⟩ := hHeld.2.2.1; exact hpq.lt : br < _)
      have l4 := hHeld.1.lt
      have l5 := hHeld.2.1.lt
      refine wp_new92 rfl ?_
      intro bq wn hbq kq hcn
      have gq : w.heap.size ≤ bq := by have := hbq.out; omega
      have nqr : bq ≠ br := by have := hbq.out; omega
      have nq4 : b4 ≠ bq := by have := hbq.out; omega
      have nq5 : b5 ≠ bq := by have := hbq.out; omega
      have nq : bo ≠ bq := by have := hbq.out; have := ko.lt; omega
      have ko := hcn.blk ko (by simp)
      refine hK.out _ _ ⟨hcn.blk hHeld.1 (by simp), hcn.blk hHeld.2.1 (by simp), (by obtain ⟨p, q, hpq⟩ := hHeld.2.2.1; exact ⟨p, q, hcn.blk hpq (by simp)⟩), hHeld.2.2.2.1.trans hcn, hHeld.2.2.2.2.chg0 hcn⟩ (fun hHeld => ?_)
      clear hK K hsz lr l4 l5
      try simp only [Act.put, List.setIfInBounds_toArray, List.set_cons_zero, List.set_cons_succ, List.toList_toArray]
      refine wpAnyH_ready (rs := [7]) (by kernel_rfl) (by simp) ?_
      refine consL rfl rfl (fun K hK => ?_) AllReadyH.nil
      refine wp_store_mid 92 _ _ rfl bq 0 #[.slice (some ⟨bS, 0, none⟩) n c1, .slice (some ⟨bo, 0, none⟩) (m + 1) (m + 1)] rfl rfl (there2 kq) info92 (one92 rfl rfl) ?_
      have V0 := set2 (p' := (.slice (some ⟨bS, 0, none⟩) n c1)) (q' := (.slice (some ⟨bo, 0, none⟩) (m + 1) (m + 1))) kq
      have V1 := ne2 (b := bq) (p := (.slice (some ⟨bS, 0, none⟩) n c1)) (q := (.slice (some ⟨bo, 0, none⟩) (m + 1) (m + 1))) ko nq
      have V2 := ne2 (b := bq) (p := (.slice (some ⟨bS, 0, none⟩) n c1)) (q := (.slice (some ⟨bo, 0, none⟩) (m + 1) (m + 1))) hHeld.1 nq4
      have V2b := ne2 (b := bq) (p := (.slice (some ⟨bS, 0, none⟩) n c1)) (q := (.slice (some ⟨bo, 0, none⟩) (m + 1) (m + 1))) hHeld.2.1 nq5
      have V3 := chg2 (b := bq) (p := (.slice (some ⟨bS, 0, none⟩) n c1)) (q := (.slice (some ⟨bo, 0, none⟩) (m + 1) (m + 1))) hHeld.2.2.2.1 gq
      have V4 : (∃ (p : Option Addr × Nat × Nat) (q : Value), Blk (World.setCells wn bq 0 [(.slice (some ⟨bS, 0, none⟩) n c1), (.slice (some ⟨bo, 0, none⟩) (m + 1) (m + 1))]) br 92 [.slice p.1 p.2.1 p.2.2, q]) := by
        obtain ⟨p, q, hpq⟩ := hHeld.2.2.1
        exact ⟨p, q, ne2 (b := bq) hpq (Ne.symm nqr)⟩
      refine hK.out _ _ ⟨V2, V2b, V4, V3, Ent.zero _⟩ (fun hHeld => ?_)
      clear hK K
      try simp only [Act.put, List.setIfInBounds_toArray, List.set_cons_zero, List.set_cons_succ, List.toList_toArray]
      refine wpAnyH_done (by kernel_rfl) ?_ _
      go_wp2_with fail
      go_meet
      exact ⟨bq, bo, rfl, V0, nqr, nor, V1, V2, V2b, V4, V3⟩
    refine consL rfl rfl (fun K hK => ?_) AllReadyH.nil
    have hsz := hHeld.2.2.2.1.size
    have lr := (by obtain ⟨p, q, hpq⟩ := hHeld.2.2.1; exact hpq.lt : br < _)
    have l4 := hHeld.1.lt
    have l5 := hHeld.2.1.lt
    refine wp_new92 rfl ?_
    intro bq wn hbq kq hcn
    have gq : w.heap.size ≤ bq := by have := hbq.out; omega
    have nqr : bq ≠ br := by have := hbq.out; omega
    have nq4 : b4 ≠ bq := by have := hbq.out; omega
    have nq5 : b5 ≠ bq := by have := hbq.out; omega
    refine hK.out _ _ ⟨hcn.blk hHeld.1 (by simp), hcn.blk hHeld.2.1 (by simp), (by obtain ⟨p, q, hpq⟩ := hHeld.2.2.1; exact ⟨p, q, hcn.blk hpq (by simp)⟩), hHeld.2.2.2.1.trans hcn, hHeld.2.2.2.2.chg0 hcn⟩ (fun hHeld => ?_)
    clear hK K hsz lr l4 l5
    try simp only [Act.put, List.setIfInBounds_toArray, List.set_cons_zero, List.set_cons_succ, List.toList_toArray]
    refine wpAnyH_ready (rs := [4]) (by kernel_rfl) (by simp) ?_
    refine consL rfl rfl (fun K hK => ?_) AllReadyH.nil
    go_simp
    refine (HNO.out _ hHeld.2.2.2.1).mono ?_
    rintro e wn ⟨bo, rfl, go, ko, hcn⟩
    have nq : bo ≠ bq := by have := kq.lt; omega
    have kq := hcn.blk kq (by simp)
    have nor : bo ≠ br := by obtain ⟨p, q, hpq⟩ := hHeld.2.2.1; have := hpq.lt; omega
    have go : w.heap.size ≤ bo := Nat.le_trans hHeld.2.2.2.1.size go
    refine hK.out _ _ ⟨hcn.blk hHeld.1 (by simp), hcn.blk hHeld.2.1 (by simp), (by obtain ⟨p, q, hpq⟩ := hHeld.2.2.1; exact ⟨p, q, hcn.blk hpq (by simp)⟩), hHeld.2.2.2.1.trans hcn, hHeld.2.2.2.2.chg0 hcn⟩ (fun hHeld => ?_)
    clear hK K
    try simp only [Act.put, List.setIfInBounds_toArray, List.set_cons_zero, List.set_cons_succ, List.toList_toArray]
    clear hcn
    refine takeL 5 rfl (by kernel_rfl) (by kernel_rfl) (by kernel_rfl) (fun _ _ _ h => h) (by rfl) (fun w1 hSw => run_build92 (.tmp 13) (.tmp 16) rfl (some ⟨bS, 0, none⟩) n c1 (some ⟨bo, 0, none⟩) (m + 1) (m + 1) w1 rfl rfl) hHeld ?_
    simp only [Act.put, List.setIfInBounds_toArray, List.set_cons_zero, List.set_cons_succ]
    refine wpAnyH_ready (rs := [7]) (by kernel_rfl) (by simp) ?_
    refine consL rfl rfl (fun K hK => ?_) AllReadyH.nil
    refine wp_store_mid 92 _ _ rfl bq 0 #[.slice (some ⟨bS, 0, none⟩) n c1, .slice (some ⟨bo, 0, none⟩) (m + 1) (m + 1)] rfl rfl (there2 kq) info92 (one92 rfl rfl) ?_
    have V0 := set2 (p' := (.slice (some ⟨bS, 0, none⟩) n c1)) (q' := (.slice (some ⟨bo, 0, none⟩) (m + 1) (m + 1))) kq
    have V1 := ne2 (b := bq) (p := (.slice (some ⟨bS, 0, none⟩) n c1)) (q := (.slice (some ⟨bo, 0, none⟩) (m + 1) (m + 1))) ko nq
    have V2 := ne2 (b := bq) (p := (.slice (some ⟨bS, 0, none⟩) n c1)) (q := (.slice (some ⟨bo, 0, none⟩) (m + 1) (m + 1))) hHeld.1 nq4
    have V2b := ne2 (b := bq) (p := (.slice (some ⟨bS, 0, none⟩) n c1)) (q := (.slice (some ⟨bo, 0, none⟩) (m + 1) (m + 1))) hHeld.2.1 nq5
    have V3 := chg2 (b := bq) (p := (.slice (some ⟨bS, 0, none⟩) n c1)) (q := (.slice (some ⟨bo, 0, none⟩) (m + 1) (m + 1))) hHeld.2.2.2.1 gq
    have V4 : (∃ (p : Option Addr × Nat × Nat) (q : Value), Blk (World.setCells wn bq 0 [(.slice (some ⟨bS, 0, none⟩) n c1), (.slice (some ⟨bo, 0, none⟩) (m + 1) (m + 1))]) br 92 [.slice p.1 p.2.1 p.2.2, q]) := by
      obtain ⟨p, q, hpq⟩ := hHeld.2.2.1
      exact ⟨p, q, ne2 (b := bq) hpq (Ne.symm nqr)⟩
    refine hK.out _ _ ⟨V2, V2b, V4, V3, Ent.zero _⟩ (fun hHeld => ?_)
    clear hK K
    try simp only [Act.put, List.setIfInBounds_toArray, List.set_cons_zero, List.set_cons_succ, List.toList_toArray]
    refine wpAnyH_done (by kernel_rfl) ?_ _
    go_wp2_with fail
    go_meet
    exact ⟨bq, bo, rfl, V0, nqr, nor, V1, V2, V2b, V4, V3⟩
  case rest =>
    obtain ⟨bq, bo, rfl, kq, nqr, nor, ko, k4, k5, kr, cwA⟩ := hcut
    clear k4r k5r kbr cw
    have f0 := k4.cell 0 _ rfl
    have f1 := k4.cell 1 _ rfl
    have f2 := k5.cell 0 _ rfl
    have hk := HK.out
    have ft := HTT.out _ cwA
    have HD2 := hide hd
    generalize dlen x = dx at *
    have q1 : ((n : Int) == 0) = false := by simp; omega
    have q2 : decide ((512 : Int) < (dx : Int)) = false := by simp; omega
    go_upto_region 19 with fail
    clear f0 f1 f2 ft
    refine wp_region_held_drew (S := fun w1 => Blk w1 b4 92 [.slice (some ⟨bS, 0, none⟩) n c1, .slice a2 m c2] ∧ Blk w1 b5 95 [.int .u8 kd, .slice aa na ca] ∧ (∃ (p : Option Addr × Nat × Nat) (q : Value), Blk w1 br 92 [.slice p.1 p.2.1 p.2.2, q]) ∧ Chg [] w w1 ∧ Ent w1 none 0) (by kernel_rfl) ⟨k4.drew, k5.drew, (by obtain ⟨p, q, hpq⟩ := kr; exact ⟨p, q, hpq.drew⟩), cwA.drew, (Ent.zero _).chg0 (Chg.refl [] _).drew⟩ (fun hHeld => ?_)
    clear k4 k5 kr cwA kq ko
    refine takeL 0 (v := ?_) rfl (by kernel_rfl) (by kernel_rfl) (by kernel_rfl) (fun _ _ _ h => h) (by rfl) ?_ hHeld ?_
    rotate_left
    · (intro w1 hSw; have f0 := hSw.1.cell 0 _ rfl; have f1 := hSw.1.cell 1 _ rfl; have f2 := hSw.2.1.cell 0 _ rfl; have f3 := hSw.2.1.cell 1 _ rfl; have f4 := HTT.out _ hSw.2.2.2.1; go_simp; try with_reducible rfl)
    simp only [Act.put, List.setIfInBounds_toArray, List.set_cons_zero, List.set_cons_succ]
    refine takeL 1 rfl (by kernel_rfl) (by kernel_rfl) (by kernel_rfl) (fun _ _ _ h => h) (by rfl) (fun w1 hSw => run_load92 (.tmp 4) rfl b4 (.slice (some ⟨bS, 0, none⟩) n c1) (.slice a2 m c2) w1 rfl hSw.1) hHeld ?_
    simp only [Act.put, List.setIfInBounds_toArray, List.set_cons_zero, List.set_cons_succ]
    refine takeL 2 (v := ?_) rfl (by kernel_rfl) (by kernel_rfl) (by kernel_rfl) (fun _ _ _ h => h) (by rfl) ?_ hHeld ?_
    rotate_left
    · (intro w1 hSw; have f0 := hSw.1.cell 0 _ rfl; have f1 := hSw.1.cell 1 _ rfl; have f2 := hSw.2.1.cell 0 _ rfl; have f3 := hSw.2.1.cell 1 _ rfl; have f4 := HTT.out _ hSw.2.2.2.1; go_simp; try with_reducible rfl)
    simp only [Act.put, List.setIfInBounds_toArray, List.set_cons_zero, List.set_cons_succ]
    refine takeL 3 (v := ?_) rfl (by kernel_rfl) (by kernel_rfl) (by kernel_rfl) (fun _ _ _ h => h) (by rfl) ?_ hHeld ?_
    rotate_left
    · (intro w1 hSw; have f0 := hSw.1.cell 0 _ rfl; have f1 := hSw.1.cell 1 _ rfl; have f2 := hSw.2.1.cell 0 _ rfl; have f3 := hSw.2.1.cell 1 _ rfl; have f4 := HTT.out _ hSw.2.2.2.1; go_simp; try with_reducible rfl)
    simp only [Act.put, List.setIfInBounds_toArray, List.set_cons_zero, List.set_cons_succ]
    refine takeL 4 (v := ?_) rfl (by kernel_rfl) (by kernel_rfl) (by kernel_rfl) (fun _ _ _ h => h) (by rfl) ?_ hHeld ?_
    rotate_left
    · (intro w1 hSw; have f0 := hSw.1.cell 0 _ rfl; have f1 := hSw.1.cell 1 _ rfl; have f2 := hSw.2.1.cell 0 _ rfl; have f3 := hSw.2.1.cell 1 _ rfl; have f4 := HTT.out _ hSw.2.2.2.1; go_simp; try with_reducible rfl)
    simp only [Act.put, List.setIfInBounds_toArray, List.set_cons_zero, List.set_cons_succ]
    refine takeL 5 (v := ?_) rfl (by kernel_rfl) (by kernel_rfl) (by kernel_rfl) (fun _ _ _ h => h) (by rfl) ?_ hHeld ?_
    rotate_left
    · (intro w1 hSw; have f0 := hSw.1.cell 0 _ rfl; have f1 := hSw.1.cell 1 _ rfl; have f2 := hSw.2.1.cell 0 _ rfl; have f3 := hSw.2.1.cell 1 _ rfl; have f4 := HTT.out _ hSw.2.2.2.1; go_simp; try with_reducible rfl)
    simp only [Act.put, List.setIfInBounds_toArray, List.set_cons_zero, List.set_cons_succ]
    refine takeL 6 rfl (by kernel_rfl) (by kernel_rfl) (by kernel_rfl) (fun _ _ _ h => h) (by rfl) (fun w1 hSw => run_index89 (.tmp 89) (.tmp 91) rfl bS n c1 (n - 1) w1 rfl rfl (by omega)) hHeld ?_
    simp only [Act.put, List.setIfInBounds_toArray, List.set_cons_zero, List.set_cons_succ]
    refine takeL 7 rfl (by kernel_rfl) (by kernel_rfl) (by kernel_rfl) (fun _ _ _ h => h) (by rfl) (fun w1 hSw => run_load83 (.tmp 92) rfl bS (n - 1) ax dx dx w1 rfl (HTT.out _ hSw.2.2.2.1)) hHeld ?_
    simp only [Act.put, List.setIfInBounds_toArray, List.set_cons_zero, List.set_cons_succ]
    refine takeL 8 (v := ?_) rfl (by kernel_rfl) (by kernel_rfl) (by kernel_rfl) (fun _ _ _ h => h) (by rfl) ?_ hHeld ?_
    rotate_left
    · (intro w1 hSw; have f0 := hSw.1.cell 0 _ rfl; have f1 := hSw.1.cell 1 _ rfl; have f2 := hSw.2.1.cell 0 _ rfl; have f3 := hSw.2.1.cell 1 _ rfl; have f4 := HTT.out _ hSw.2.2.2.1; go_simp; try with_reducible rfl)
    simp only [Act.put, List.setIfInBounds_toArray, List.set_cons_zero, List.set_cons_succ]
    refine takeL 9 (v := ?_) rfl (by kernel_rfl) (by kernel_rfl) (by kernel_rfl) (fun _ _ _ h => h) (by rfl) ?_ hHeld ?_
    rotate_left
    · (intro w1 hSw; have f0 := hSw.1.cell 0 _ rfl; have f1 := hSw.1.cell 1 _ rfl; have f2 := hSw.2.1.cell 0 _ rfl; have f3 := hSw.2.1.cell 1 _ rfl; have f4 := HTT.out _ hSw.2.2.2.1; go_simp; try with_reducible rfl)
    simp only [Act.put, List.setIfInBounds_toArray, List.set_cons_zero, List.set_cons_succ]
    refine takeL 10 (v := ?_) rfl (by kernel_rfl) (by kernel_rfl) (by kernel_rfl) (fun _ _ _ h => h) (by rfl) ?_ hHeld ?_
    rotate_left
    · (intro w1 hSw; have f0 := hSw.1.cell 0 _ rfl; have f1 := hSw.1.cell 1 _ rfl; have f2 := hSw.2.1.cell 0 _ rfl; have f3 := hSw.2.1.cell 1 _ rfl; have f4 := HTT.out _ hSw.2.2.2.1; go_simp; try with_reducible rfl)
    simp only [Act.put, List.setIfInBounds_toArray, List.set_cons_zero, List.set_cons_succ]
    refine takeL 11 (v := ?_) rfl (by kernel_rfl) (by kernel_rfl) (by kernel_rfl) (fun _ _ _ h => h) (by rfl) ?_ hHeld ?_
    rotate_left
    · (intro w1 hSw; have f0 := hSw.1.cell 0 _ rfl; have f1 := hSw.1.cell 1 _ rfl; have f2 := hSw.2.1.cell 0 _ rfl; have f3 := hSw.2.1.cell 1 _ rfl; have f4 := HTT.out _ hSw.2.2.2.1; go_simp; try with_reducible rfl)
    simp only [Act.put, List.setIfInBounds_toArray, List.set_cons_zero, List.set_cons_succ]
    refine takeL 12 rfl (by kernel_rfl) (by kernel_rfl) (by kernel_rfl) (fun _ _ _ h => h) (by rfl) (fun w1 hSw => run_index89 (.tmp 95) (.tmp 97) rfl bS n c1 (n - 1) w1 rfl rfl (by omega)) hHeld ?_
    simp only [Act.put, List.setIfInBounds_toArray, List.set_cons_zero, List.set_cons_succ]
    refine takeL 13 rfl (by kernel_rfl) (by kernel_rfl) (by kernel_rfl) (fun _ _ _ h => h) (by rfl) (fun w1 hSw => run_load83 (.tmp 98) rfl bS (n - 1) ax dx dx w1 rfl (HTT.out _ hSw.2.2.2.1)) hHeld ?_
    simp only [Act.put, List.setIfInBounds_toArray, List.set_cons_zero, List.set_cons_succ]
    refine wpAnyH_ready (rs := [14]) (by kernel_rfl) (by simp) ?_
    refine consL rfl rfl (fun K hK => ?_) AllReadyH.nil
    go_simp
    refine (HM.out _ hHeld.2.2.2.1).mono ?_
    rintro e wn ⟨b, a', rfl, kb, hE, hcn⟩
    obtain ⟨p, q, krr⟩ := hHeld.2.2.1
    have krr := hcn.blk krr (by simp)
    have nbr : b ≠ br := Blk.ne kb krr (by decide)
    have HNE := hide (Ent.ne hE krr)
    refine hK.out _ _ ⟨hcn.blk hHeld.1 (by simp), hcn.blk hHeld.2.1 (by simp), (by obtain ⟨p, q, hpq⟩ := hHeld.2.2.1; exact ⟨p, q, hcn.blk hpq (by simp)⟩), hHeld.2.2.2.1.trans hcn, hHeld.2.2.2.2.chg0 hcn⟩ (fun hHeld => ?_)
    clear hK K
    try simp only [Act.put, List.setIfInBounds_toArray, List.set_cons_zero, List.set_cons_succ, List.toList_toArray]
    clear hcn
    obtain ⟨p, q, kr⟩ := hHeld.2.2.1
    refine wpAnyH_ready (rs := [15]) (by kernel_rfl) (by simp) ?_
    refine consL rfl rfl (fun K hK => ?_) AllReadyH.nil
    refine wp_store_mid 92 _ _ rfl br 0 #[(.slice (some ⟨b, 0, none⟩) (n - 1 + 1) (n - 1 + 1)), (.slice a2 m c2)] rfl rfl (there2 kr) info92 (one92 rfl rfl) ?_
    have V0 := set2 (p' := (.slice (some ⟨b, 0, none⟩) (n - 1 + 1) (n - 1 + 1))) (q' := (.slice a2 m c2)) kr
    have V2 := ne2 (b := br) (p := (.slice (some ⟨b, 0, none⟩) (n - 1 + 1) (n - 1 + 1))) (q := (.slice a2 m c2)) hHeld.1 n4r
    have V2b := ne2 (b := br) (p := (.slice (some ⟨b, 0, none⟩) (n - 1 + 1) (n - 1 + 1))) (q := (.slice a2 m c2)) hHeld.2.1 n5r
    have V3 := chg2 (b := br) (p := (.slice (some ⟨b, 0, none⟩) (n - 1 + 1) (n - 1 + 1))) (q := (.slice a2 m c2)) hHeld.2.2.2.1 gr
    have V5 := (Ent.zero (World.setCells wn br 0 [(.slice (some ⟨b, 0, none⟩) (n - 1 + 1) (n - 1 + 1)), (.slice a2 m c2)]))
    have V1 := ne2 (b := br) (p := (.slice (some ⟨b, 0, none⟩) (n - 1 + 1) (n - 1 + 1))) (q := (.slice a2 m c2)) kb nbr
    have V6 := hE.chg (chgBr (br := br) (p := (.slice (some ⟨b, 0, none⟩) (n - 1 + 1) (n - 1 + 1))) (q := (.slice a2 m c2))) HNE.out
    refine hK.out _ _ ⟨V2, V2b, ⟨((some ⟨b, 0, none⟩), (n - 1 + 1), (n - 1 + 1)), _, V0⟩, V3, V5⟩ (fun hHeld => ?_)
    clear hK K
    try simp only [Act.put, List.setIfInBounds_toArray, List.set_cons_zero, List.set_cons_succ, List.toList_toArray]
    generalize World.setCells _ br 0 [(.slice (some ⟨b, 0, none⟩) (n - 1 + 1) (n - 1 + 1)), (.slice a2 m c2)] = wz at *
    refine wpAnyH_done (by kernel_rfl) ?_ _
    go_wp2_with fail
    refine bodyPost_ret (results_cell (by rfl) _ _ _ br 0 (by rfl) [(.slice (some ⟨b, 0, none⟩) (n - 1 + 1) (n - 1 + 1)), (.slice a2 m c2)] _ (range2 V0) Takg.underlying92 (by rfl) info92) rfl ?_
    exact Res.push HEN.out HEM.out HS0.out V3 V1 rfl (by have := HN16.out; omega) V6 HDZ.out

set_option maxRecDepth 10000 in
set_option maxHeartbeats 4000000 in
theorem rowTwo (a1 a2 aa : Option Addr) (c1 c2 kd na ca u : Nat) (es : Es) (os : List Int) (w : World) (hs : StE w a1 c1 es a2 c2 os) (ho : os.length < 1000) (hA : Arg w aa na ca u) (ax ay : Option Addr) (x y : Nat) (vs' : List Nat) (os' : List Int) (hk : kd = 1 ∨ kd = 2 ∨ kd = 3 ∨ kd = 5 ∨ kd = 7) (hlt : 2 ≤ es.length) (hx : es[es.length - 2]? = some (ax, x)) (hy : es[es.length - 1]? = some (ay, y)) (hM : ∀ W, Chg [] w W → Calls Takg.prog 92 #[.int .u8 0, .agg #[.slice a1 es.length c1, .slice a2 os.length c2], .int .u8 kd, .slice ax (dlen x) (dlen x), .slice ay (dlen y) (dlen y)] W fun e w' => Res W w' e vs' os') :
    Calls Takg.prog 52 #[.int .u8 0, .agg #[.slice a1 es.length c1, .slice a2 os.length c2], .agg #[.int .u8 kd, .slice aa na ca]] w fun e w' => Res w w' e vs' os' := by
  have HNO := hide (fun W (hW : Chg [] w W) => appended_any a2 c2 os (-2) W (by omega) hs.k2 (hs.cel2.chg0 hW))
  have HO := hide ho
  have HN16 := hide hs.n1
  have hn16 := hs.n1
  have hb1 := hs.b1
  have HM := hide hM
  clear hM
  have HX := hide (hs.ent _ (List.mem_of_getElem? hx)).1
  have HDX := hide (hs.ent _ (List.mem_of_getElem? hx)).2
  have HY := hide (hs.ent _ (List.mem_of_getElem? hy)).1
  have HDY := hide (hs.ent _ (List.mem_of_getElem? hy)).2
  obtain ⟨bS, rfl, htt⟩ := hs.at hx
  obtain ⟨bS', hbs, htu⟩ := hs.at hy
  obtain rfl : bS = bS' := by injection hbs with h1; injection h1
  simp only at htt htu HX HDX HY HDY
  clear hbs
  obtain ⟨n, en⟩ : ∃ n, n = es.length := ⟨_, rfl⟩
  obtain ⟨m, em⟩ : ∃ n, n = os.length := ⟨_, rfl⟩
  rw [← en] at hn16 HN16 htt htu hlt hx hy HM ⊢
  rw [← em] at HNO ho HM ⊢
  have HEN := hide en
  have HEM := hide em
  have HS0 := hide hs
  have HAA := hide hA
  have HTT := hide htt
  clear htt
  have hwr : IntKind.i64.wrap ((n : Int) - 1) = ((n - 1 : Nat) : Int) := by rw [IntKind.wrap_i64]; omega
  have hwr2 : IntKind.i64.wrap ((n : Int) - 2) = ((n - 2 : Nat) : Int) := by rw [IntKind.wrap_i64]; omega
  have HTU := hide htu
  clear htu
  have HK := hide hk
  clear en em hs ho hA hk
  go_enter Takg.func52, Takg.ntmps52
  go_upto_region 1 with (first | (refine wpList_box92 (by rfl) (.tmp 1) (by rfl) (.slice (some ⟨bS, 0, none⟩) n c1) (.slice a2 m c2) (by rfl) ?_; intro b4 wb hbb k4 cbb) | (refine wpList_box95 (by rfl) (.tmp 2) (by rfl) (.int .u8 kd) (.slice aa na ca) (by rfl) ?_; intro b5 wd hbd k5 cbd) | (refine wpList_new92 (by rfl) (by rfl) ?_; intro br wr hbr kbr cbr))
  have k5r := cbr.blk k5 (by simp)
  have k4d := cbd.blk k4 (by simp)
  have k4r := cbr.blk k4d (by simp)
  have cw := (cbb.trans cbd).trans cbr
  have n4r : b4 ≠ br := by have := k4d.lt; have := hbr.out; omega
  have n5r : b5 ≠ br := by have := k5.lt; have := hbr.out; omega
  have gr : w.heap.size ≤ br := by have := hbr.out; have := cbb.size; have := cbd.size; omega
  clear k4 k5 cbb cbr hbb hbr k4d cbd hbd
  simp only [Act.put, List.setIfInBounds_toArray, List.set_cons_zero, List.set_cons_succ]
  have f0 := k4r.cell 0 _ rfl
  go_upto_region 2 with fail
  clear f0
  go_cut [8] (fun v wc => ∃ bq bo, v = .pointer (some ⟨bq, 0, none⟩) ∧ Blk wc bq 92 [.slice (some ⟨bS, 0, none⟩) n c1, .slice (some ⟨bo, 0, none⟩) (m + 1) (m + 1)] ∧ bq ≠ br ∧ bo ≠ br ∧ Blk wc bo 62 (Ov (os ++ [-2])) ∧ Blk wc b4 92 [.slice (some ⟨bS, 0, none⟩) n c1, .slice a2 m c2] ∧ Blk wc b5 95 [.int .u8 kd, .slice aa na ca] ∧ (∃ (p : Option Addr × Nat × Nat) (q : Value), Blk wc br 92 [.slice p.1 p.2.1 p.2.2, q]) ∧ Chg [] w wc)
  case first =>
    refine wp_region_held_drew (S := fun w1 => Blk w1 b4 92 [.slice (some ⟨bS, 0, none⟩) n c1, .slice a2 m c2] ∧ Blk w1 b5 95 [.int .u8 kd, .slice aa na ca] ∧ (∃ (p : Option Addr × Nat × Nat) (q : Value), Blk w1 br 92 [.slice p.1 p.2.1 p.2.2, q]) ∧ Chg [] w w1 ∧ Ent w1 none 0) (by kernel_rfl) ⟨k4r.drew, k5r.drew, ⟨(none, 0, 0), _, kbr.drew⟩, cw.drew, Ent.zero _⟩ (fun hHeld => ?_)
    refine takeL 0 (v := ?_) rfl (by kernel_rfl) (by kernel_rfl) (by kernel_rfl) (fun _ _ _ h => h) (by rfl) ?_ hHeld ?_
    rotate_left
    · (intro w1 hSw; have f0 := hSw.1.cell 0 _ rfl; have f1 := hSw.1.cell 1 _ rfl; have f2 := hSw.2.1.cell 0 _ rfl; have f3 := hSw.2.1.cell 1 _ rfl; have f4 := HTT.out _ hSw.2.2.2.1; have f5 := HTU.out _ hSw.2.2.2.1; go_simp; try with_reducible rfl)
    simp only [Act.put, List.setIfInBounds_toArray, List.set_cons_zero, List.set_cons_succ]
    refine takeL 1 (v := ?_) rfl (by kernel_rfl) (by kernel_rfl) (by kernel_rfl) (fun _ _ _ h => h) (by rfl) ?_ hHeld ?_
    rotate_left
    · (intro w1 hSw; have f0 := hSw.1.cell 0 _ rfl; have f1 := hSw.1.cell 1 _ rfl; have f2 := hSw.2.1.cell 0 _ rfl; have f3 := hSw.2.1.cell 1 _ rfl; have f4 := HTT.out _ hSw.2.2.2.1; have f5 := HTU.out _ hSw.2.2.2.1; go_simp; try with_reducible rfl)
    simp only [Act.put, List.setIfInBounds_toArray, List.set_cons_zero, List.set_cons_succ]
    refine takeL 2 (v := ?_) rfl (by kernel_rfl) (by kernel_rfl) (by kernel_rfl) (fun _ _ _ h => h) (by rfl) ?_ hHeld ?_
    rotate_left
    · (intro w1 hSw; have f0 := hSw.1.cell 0 _ rfl; have f1 := hSw.1.cell 1 _ rfl; have f2 := hSw.2.1.cell 0 _ rfl; have f3 := hSw.2.1.cell 1 _ rfl; have f4 := HTT.out _ hSw.2.2.2.1; have f5 := HTU.out _ hSw.2.2.2.1; go_simp; try with_reducible rfl)
    simp only [Act.put, List.setIfInBounds_toArray, List.set_cons_zero, List.set_cons_succ]
    refine takeL 3 (v := ?_) rfl (by kernel_rfl) (by kernel_rfl) (by kernel_rfl) (fun _ _ _ h => h) (by rfl) ?_ hHeld ?_
    rotate_left
    · (intro w1 hSw; have f0 := hSw.1.cell 0 _ rfl; have f1 := hSw.1.cell 1 _ rfl; have f2 := hSw.2.1.cell 0 _ rfl; have f3 := hSw.2.1.cell 1 _ rfl; have f4 := HTT.out _ hSw.2.2.2.1; have f5 := HTU.out _ hSw.2.2.2.1; go_simp; try with_reducible rfl)
    simp only [Act.put, List.setIfInBounds_toArray, List.set_cons_zero, List.set_cons_succ]
    refine wpAnyH_ready (rs := [4, 6]) (by kernel_rfl) (by simp) ?_
    refine consL rfl rfl (fun K hK => ?_) ?_
    · go_simp
      refine (HNO.out _ hHeld.2.2.2.1).mono ?_
      rintro e wn ⟨bo, rfl, go, ko, hcn⟩
      have nor : bo ≠ br := by obtain ⟨p, q, hpq⟩ := hHeld.2.2.1; have := hpq.lt; omega
      have go : w.heap.size ≤ bo := Nat.le_trans hHeld.2.2.2.1.size go
      refine hK.out _ _ ⟨hcn.blk hHeld.1 (by simp), hcn.blk hHeld.2.1 (by simp), (by obtain ⟨p, q, hpq⟩ := hHeld.2.2.1; exact ⟨p, q, hcn.blk hpq (by simp)⟩), hHeld.2.2.2.1.trans hcn, hHeld.2.2.2.2.chg0 hcn⟩ (fun hHeld => ?_)
      clear hK K
      try simp only [Act.put, List.setIfInBounds_toArray, List.set_cons_zero, List.set_cons_succ, List.toList_toArray]
      clear hcn
      refine takeL 5 rfl (by kernel_rfl) (by kernel_rfl) (by kernel_rfl) (fun _ _ _ h => h) (by rfl) (fun w1 hSw => run_build92 (.tmp 13) (.tmp 16) rfl (some ⟨bS, 0, none⟩) n c1 (some ⟨bo, 0, none⟩) (m + 1) (m + 1) w1 rfl rfl) hHeld ?_
      simp only [Act.put, List.setIfInBounds_toArray, List.set_cons_zero, List.set_cons_succ]
      refine wpAnyH_ready (rs := [6]) (by kernel_rfl) (by simp) ?_
      refine consL rfl rfl (fun K hK => ?_) AllReadyH.nil
      have hsz := hHeld.2.2.2.1.size
      have lr := (by obtain ⟨p, q, hpq⟩ := hHeld.2.2.1; exact hpq.lt : br < _)
      have l4 := hHeld.1.lt
      have l5 := hHeld.2.1.lt
      refine wp_new92 rfl ?_
      intro bq wn hbq kq hcn
      have gq : w.heap.size ≤ bq := by have := hbq.out; omega
      have nqr : bq ≠ br := by have := hbq.out; omega
      have nq4 : b4 ≠ bq := by have := hbq.out; omega
      have nq5 : b5 ≠ bq := by have := hbq.out; omega
      have nq : bo ≠ bq := by have := hbq.out; have := ko.lt; omega
      have ko := hcn.blk ko (by simp)
      refine hK.out _ _ ⟨hcn.blk hHeld.1 (by simp), hcn.blk hHeld.2.1 (by simp), (by obtain ⟨p, q, hpq⟩ := hHeld.2.2.1; exact ⟨p, q, hcn.blk hpq (by simp)⟩), hHeld.2.2.2.1.trans hcn, hHeld.2.2.2.2.chg0 hcn⟩ (fun hHeld => ?_)
      clear hK K hsz lr l4 l5
      try simp only [Act.put, List.setIfInBounds_toArray, List.set_cons_zero, List.set_cons_succ, List.toList_toArray]
      refine wpAnyH_ready (rs := [7]) (by kernel_rfl) (by simp) ?_
      refine consL rfl rfl (fun K hK => ?_) AllReadyH.nil
      refine wp_store_mid 92 _ _ rfl bq 0 #[.slice (some ⟨bS, 0, none⟩) n c1, .slice (some ⟨bo, 0, none⟩) (m + 1) (m + 1)] rfl rfl (there2 kq) info92 (one92 rfl rfl) ?_
      have V0 := set2 (p' := (.slice (some ⟨bS, 0, none⟩) n c1)) (q' := (.slice (some ⟨bo, 0, none⟩) (m + 1) (m + 1))) kq
      have V1 := ne2 (b := bq) (p := (.slice (some ⟨bS, 0, none⟩) n c1)) (q := (.slice (some ⟨bo, 0, none⟩) (m + 1) (m + 1))) ko nq
      have V2 := ne2 (b := bq) (p := (.slice (some ⟨bS, 0, none⟩) n c1)) (q := (.slice (some ⟨bo, 0, none⟩) (m + 1) (m + 1))) hHeld.1 nq4
      have V2b := ne2 (b := bq) (p := (.slice (some ⟨bS, 0, none⟩) n c1)) (q := (.slice (some ⟨bo, 0, none⟩) (m + 1) (m + 1))) hHeld.2.1 nq5
      have V3 := chg2 (b := bq) (p := (.slice (some ⟨bS, 0, none⟩) n c1)) (q := (.slice (some ⟨bo, 0, none⟩) (m + 1) (m + 1))) hHeld.2.2.2.1 gq
      have V4 : (∃ (p : Option Addr × Nat × Nat) (q : Value), Blk (World.setCells wn bq 0 [(.slice (some ⟨bS, 0, none⟩) n c1), (.slice (some ⟨bo, 0, none⟩) (m + 1) (m + 1))]) br 92 [.slice p.1 p.2.1 p.2.2, q]) := by
        obtain ⟨p, q, hpq⟩ := hHeld.2.2.1
        exact ⟨p, q, ne2 (b := bq) hpq (Ne.symm nqr)⟩
      refine hK.out _ _ ⟨V2, V2b, V4, V3, Ent.zero _⟩ (fun hHeld => ?_)
      clear hK K
      try simp only [Act.put, List.setIfInBounds_toArray, List.set_cons_zero, List.set_cons_succ, List.toList_toArray]
      refine wpAnyH_done (by kernel_rfl) ?_ _
      go_wp2_with fail
      go_meet
      exact ⟨bq, bo, rfl, V0, nqr, nor, V1, V2, V2b, V4, V3⟩
    refine consL rfl rfl (fun K hK => ?_) AllReadyH.nil
    have hsz := hHeld.2.2.2.1.size
    have lr := (by obtain ⟨p, q, hpq⟩ := hHeld.2.2.1; exact hpq.lt : br < _)
    have l4 := hHeld.1.lt
    have l5 := hHeld.2.1.lt
    refine wp_new92 rfl ?_
    intro bq wn hbq kq hcn
    have gq : w.heap.size ≤ bq := by have := hbq.out; omega
    have nqr : bq ≠ br := by have := hbq.out; omega
    have nq4 : b4 ≠ bq := by have := hbq.out; omega
    have nq5 : b5 ≠ bq := by have := hbq.out; omega
    refine hK.out _ _ ⟨hcn.blk hHeld.1 (by simp), hcn.blk hHeld.2.1 (by simp), (by obtain ⟨p, q, hpq⟩ := hHeld.2.2.1; exact ⟨p, q, hcn.blk hpq (by simp)⟩), hHeld.2.2.2.1.trans hcn, hHeld.2.2.2.2.chg0 hcn⟩ (fun hHeld => ?_)
    clear hK K hsz lr l4 l5
    try simp only [Act.put, List.setIfInBounds_toArray, List.set_cons_zero, List.set_cons_succ, List.toList_toArray]
    refine wpAnyH_ready (rs := [4]) (by kernel_rfl) (by simp) ?_
    refine consL rfl rfl (fun K hK => ?_) AllReadyH.nil
    go_simp
    refine (HNO.out _ hHeld.2.2.2.1).mono ?_
    rintro e wn ⟨bo, rfl, go, ko, hcn⟩
    have nq : bo ≠ bq := by have := kq.lt; omega
    have kq := hcn.blk kq (by simp)
    have nor : bo ≠ br := by obtain ⟨p, q, hpq⟩ := hHeld.2.2.1; have := hpq.lt; omega
    have go : w.heap.size ≤ bo := Nat.le_trans hHeld.2.2.2.1.size go
    refine hK.out _ _ ⟨hcn.blk hHeld.1 (by simp), hcn.blk hHeld.2.1 (by simp), (by obtain ⟨p, q, hpq⟩ := hHeld.2.2.1; exact ⟨p, q, hcn.blk hpq (by simp)⟩), hHeld.2.2.2.1.trans hcn, hHeld.2.2.2.2.chg0 hcn⟩ (fun hHeld => ?_)
    clear hK K
    try simp only [Act.put, List.setIfInBounds_toArray, List.set_cons_zero, List.set_cons_succ, List.toList_toArray]
    clear hcn
    refine takeL 5 rfl (by kernel_rfl) (by kernel_rfl) (by kernel_rfl) (fun _ _ _ h => h) (by rfl) (fun w1 hSw => run_build92 (.tmp 13) (.tmp 16) rfl (some ⟨bS, 0, none⟩) n c1 (some ⟨bo, 0, none⟩) (m + 1) (m + 1) w1 rfl rfl) hHeld ?_
    simp only [Act.put, List.setIfInBounds_toArray, List.set_cons_zero, List.set_cons_succ]
    refine wpAnyH_ready (rs := [7]) (by kernel_rfl) (by simp) ?_
    refine consL rfl rfl (fun K hK => ?_) AllReadyH.nil
    refine wp_store_mid 92 _ _ rfl bq 0 #[.slice (some ⟨bS, 0, none⟩) n c1, .slice (some ⟨bo, 0, none⟩) (m + 1) (m + 1)] rfl rfl (there2 kq) info92 (one92 rfl rfl) ?_
    have V0 := set2 (p' := (.slice (some ⟨bS, 0, none⟩) n c1)) (q' := (.slice (some ⟨bo, 0, none⟩) (m + 1) (m + 1))) kq
    have V1 := ne2 (b := bq) (p := (.slice (some ⟨bS, 0, none⟩) n c1)) (q := (.slice (some ⟨bo, 0, none⟩) (m + 1) (m + 1))) ko nq
    have V2 := ne2 (b := bq) (p := (.slice (some ⟨bS, 0, none⟩) n c1)) (q := (.slice (some ⟨bo, 0, none⟩) (m + 1) (m + 1))) hHeld.1 nq4
    have V2b := ne2 (b := bq) (p := (.slice (some ⟨bS, 0, none⟩) n c1)) (q := (.slice (some ⟨bo, 0, none⟩) (m + 1) (m + 1))) hHeld.2.1 nq5
    have V3 := chg2 (b := bq) (p := (.slice (some ⟨bS, 0, none⟩) n c1)) (q := (.slice (some ⟨bo, 0, none⟩) (m + 1) (m + 1))) hHeld.2.2.2.1 gq
    have V4 : (∃ (p : Option Addr × Nat × Nat) (q : Value), Blk (World.setCells wn bq 0 [(.slice (some ⟨bS, 0, none⟩) n c1), (.slice (some ⟨bo, 0, none⟩) (m + 1) (m + 1))]) br 92 [.slice p.1 p.2.1 p.2.2, q]) := by
      obtain ⟨p, q, hpq⟩ := hHeld.2.2.1
      exact ⟨p, q, ne2 (b := bq) hpq (Ne.symm nqr)⟩
    refine hK.out _ _ ⟨V2, V2b, V4, V3, Ent.zero _⟩ (fun hHeld => ?_)
    clear hK K
    try simp only [Act.put, List.setIfInBounds_toArray, List.set_cons_zero, List.set_cons_succ, List.toList_toArray]
    refine wpAnyH_done (by kernel_rfl) ?_ _
    go_wp2_with fail
    go_meet
    exact ⟨bq, bo, rfl, V0, nqr, nor, V1, V2, V2b, V4, V3⟩
  case rest =>
    obtain ⟨bq, bo, rfl, kq, nqr, nor, ko, k4, k5, kr, cwA⟩ := hcut
    clear k4r k5r kbr cw
    have f0 := k4.cell 0 _ rfl
    have f1 := k4.cell 1 _ rfl
    have f2 := k5.cell 0 _ rfl
    have hk := HK.out
    clear f1
    have q0 : ((kd : Int) == 0) = false := by simp; omega
    have q6 : ((kd : Int) == 6) = false := by simp; omega
    have q8 : ((kd : Int) == 8) = false := by simp; omega
    have q4 : ((kd : Int) == 4) = false := by simp; omega
    have hk8 : kd ≤ 8 := by omega
    clear hk
    go_upto_region 24 with fail
    clear f0 f2
    refine wp_region_held_drew (S := fun w1 => Blk w1 b4 92 [.slice (some ⟨bS, 0, none⟩) n c1, .slice a2 m c2] ∧ Blk w1 b5 95 [.int .u8 kd, .slice aa na ca] ∧ (∃ (p : Option Addr × Nat × Nat) (q : Value), Blk w1 br 92 [.slice p.1 p.2.1 p.2.2, q]) ∧ Chg [] w w1 ∧ Ent w1 none 0) (by kernel_rfl) ⟨k4.drew, k5.drew, (by obtain ⟨p, q, hpq⟩ := kr; exact ⟨p, q, hpq.drew⟩), cwA.drew, (Ent.zero _).chg0 (Chg.refl [] _).drew⟩ (fun hHeld => ?_)
    clear k4 k5 kr cwA kq ko
    refine takeL 0 (v := ?_) rfl (by kernel_rfl) (by kernel_rfl) (by kernel_rfl) (fun _ _ _ h => h) (by rfl) ?_ hHeld ?_
    rotate_left
    · (intro w1 hSw; have f0 := hSw.1.cell 0 _ rfl; have f1 := hSw.1.cell 1 _ rfl; have f2 := hSw.2.1.cell 0 _ rfl; have f3 := hSw.2.1.cell 1 _ rfl; have f4 := HTT.out _ hSw.2.2.2.1; have f5 := HTU.out _ hSw.2.2.2.1; go_simp; try with_reducible rfl)
    simp only [Act.put, List.setIfInBounds_toArray, List.set_cons_zero, List.set_cons_succ]
    refine takeL 1 rfl (by kernel_rfl) (by kernel_rfl) (by kernel_rfl) (fun _ _ _ h => h) (by rfl) (fun w1 hSw => run_load92 (.tmp 4) rfl b4 (.slice (some ⟨bS, 0, none⟩) n c1) (.slice a2 m c2) w1 rfl hSw.1) hHeld ?_
    simp only [Act.put, List.setIfInBounds_toArray, List.set_cons_zero, List.set_cons_succ]
    refine takeL 2 (v := ?_) rfl (by kernel_rfl) (by kernel_rfl) (by kernel_rfl) (fun _ _ _ h => h) (by rfl) ?_ hHeld ?_
    rotate_left
    · (intro w1 hSw; have f0 := hSw.1.cell 0 _ rfl; have f1 := hSw.1.cell 1 _ rfl; have f2 := hSw.2.1.cell 0 _ rfl; have f3 := hSw.2.1.cell 1 _ rfl; have f4 := HTT.out _ hSw.2.2.2.1; have f5 := HTU.out _ hSw.2.2.2.1; go_simp; try with_reducible rfl)
    simp only [Act.put, List.setIfInBounds_toArray, List.set_cons_zero, List.set_cons_succ]
    refine takeL 3 (v := ?_) rfl (by kernel_rfl) (by kernel_rfl) (by kernel_rfl) (fun _ _ _ h => h) (by rfl) ?_ hHeld ?_
    rotate_left
    · (intro w1 hSw; have f0 := hSw.1.cell 0 _ rfl; have f1 := hSw.1.cell 1 _ rfl; have f2 := hSw.2.1.cell 0 _ rfl; have f3 := hSw.2.1.cell 1 _ rfl; have f4 := HTT.out _ hSw.2.2.2.1; have f5 := HTU.out _ hSw.2.2.2.1; go_simp; try with_reducible rfl)
    simp only [Act.put, List.setIfInBounds_toArray, List.set_cons_zero, List.set_cons_succ]
    refine takeL 4 (v := ?_) rfl (by kernel_rfl) (by kernel_rfl) (by kernel_rfl) (fun _ _ _ h => h) (by rfl) ?_ hHeld ?_
    rotate_left
    · (intro w1 hSw; have f0 := hSw.1.cell 0 _ rfl; have f1 := hSw.1.cell 1 _ rfl; have f2 := hSw.2.1.cell 0 _ rfl; have f3 := hSw.2.1.cell 1 _ rfl; have f4 := HTT.out _ hSw.2.2.2.1; have f5 := HTU.out _ hSw.2.2.2.1; go_simp; try with_reducible rfl)
    simp only [Act.put, List.setIfInBounds_toArray, List.set_cons_zero, List.set_cons_succ]
    refine takeL 5 (v := ?_) rfl (by kernel_rfl) (by kernel_rfl) (by kernel_rfl) (fun _ _ _ h => h) (by rfl) ?_ hHeld ?_
    rotate_left
    · (intro w1 hSw; have f0 := hSw.1.cell 0 _ rfl; have f1 := hSw.1.cell 1 _ rfl; have f2 := hSw.2.1.cell 0 _ rfl; have f3 := hSw.2.1.cell 1 _ rfl; have f4 := HTT.out _ hSw.2.2.2.1; have f5 := HTU.out _ hSw.2.2.2.1; go_simp; try with_reducible rfl)
    simp only [Act.put, List.setIfInBounds_toArray, List.set_cons_zero, List.set_cons_succ]
    refine takeL 6 (v := ?_) rfl (by kernel_rfl) (by kernel_rfl) (by kernel_rfl) (fun _ _ _ h => h) (by rfl) ?_ hHeld ?_
    rotate_left
    · (intro w1 hSw; have f0 := hSw.1.cell 0 _ rfl; have f1 := hSw.1.cell 1 _ rfl; have f2 := hSw.2.1.cell 0 _ rfl; have f3 := hSw.2.1.cell 1 _ rfl; have f4 := HTT.out _ hSw.2.2.2.1; have f5 := HTU.out _ hSw.2.2.2.1; go_simp; try with_reducible rfl)
    simp only [Act.put, List.setIfInBounds_toArray, List.set_cons_zero, List.set_cons_succ]
    refine takeL 7 (v := ?_) rfl (by kernel_rfl) (by kernel_rfl) (by kernel_rfl) (fun _ _ _ h => h) (by rfl) ?_ hHeld ?_
    rotate_left
    · (intro w1 hSw; have f0 := hSw.1.cell 0 _ rfl; have f1 := hSw.1.cell 1 _ rfl; have f2 := hSw.2.1.cell 0 _ rfl; have f3 := hSw.2.1.cell 1 _ rfl; have f4 := HTT.out _ hSw.2.2.2.1; have f5 := HTU.out _ hSw.2.2.2.1; go_simp; try with_reducible rfl)
    simp only [Act.put, List.setIfInBounds_toArray, List.set_cons_zero, List.set_cons_succ]
    refine takeL 8 rfl (by kernel_rfl) (by kernel_rfl) (by kernel_rfl) (fun _ _ _ h => h) (by rfl) (fun w1 hSw => run_index89 (.tmp 113) (.tmp 115) rfl bS n c1 (n - 2) w1 rfl rfl (by omega)) hHeld ?_
    simp only [Act.put, List.setIfInBounds_toArray, List.set_cons_zero, List.set_cons_succ]
    refine takeL 9 rfl (by kernel_rfl) (by kernel_rfl) (by kernel_rfl) (fun _ _ _ h => h) (by rfl) (fun w1 hSw => run_load83 (.tmp 116) rfl bS (n - 2) ax (dlen x) (dlen x) w1 rfl (HTT.out _ hSw.2.2.2.1)) hHeld ?_
    simp only [Act.put, List.setIfInBounds_toArray, List.set_cons_zero, List.set_cons_succ]
    refine takeL 10 (v := ?_) rfl (by kernel_rfl) (by kernel_rfl) (by kernel_rfl) (fun _ _ _ h => h) (by rfl) ?_ hHeld ?_
    rotate_left
    · (intro w1 hSw; have f0 := hSw.1.cell 0 _ rfl; have f1 := hSw.1.cell 1 _ rfl; have f2 := hSw.2.1.cell 0 _ rfl; have f3 := hSw.2.1.cell 1 _ rfl; have f4 := HTT.out _ hSw.2.2.2.1; have f5 := HTU.out _ hSw.2.2.2.1; go_simp; try with_reducible rfl)
    simp only [Act.put, List.setIfInBounds_toArray, List.set_cons_zero, List.set_cons_succ]
    refine takeL 11 (v := ?_) rfl (by kernel_rfl) (by kernel_rfl) (by kernel_rfl) (fun _ _ _ h => h) (by rfl) ?_ hHeld ?_
    rotate_left
    · (intro w1 hSw; have f0 := hSw.1.cell 0 _ rfl; have f1 := hSw.1.cell 1 _ rfl; have f2 := hSw.2.1.cell 0 _ rfl; have f3 := hSw.2.1.cell 1 _ rfl; have f4 := HTT.out _ hSw.2.2.2.1; have f5 := HTU.out _ hSw.2.2.2.1; go_simp; try with_reducible rfl)
    simp only [Act.put, List.setIfInBounds_toArray, List.set_cons_zero, List.set_cons_succ]
    refine takeL 12 (v := ?_) rfl (by kernel_rfl) (by kernel_rfl) (by kernel_rfl) (fun _ _ _ h => h) (by rfl) ?_ hHeld ?_
    rotate_left
    · (intro w1 hSw; have f0 := hSw.1.cell 0 _ rfl; have f1 := hSw.1.cell 1 _ rfl; have f2 := hSw.2.1.cell 0 _ rfl; have f3 := hSw.2.1.cell 1 _ rfl; have f4 := HTT.out _ hSw.2.2.2.1; have f5 := HTU.out _ hSw.2.2.2.1; go_simp; try with_reducible rfl)
    simp only [Act.put, List.setIfInBounds_toArray, List.set_cons_zero, List.set_cons_succ]
    refine takeL 13 (v := ?_) rfl (by kernel_rfl) (by kernel_rfl) (by kernel_rfl) (fun _ _ _ h => h) (by rfl) ?_ hHeld ?_
    rotate_left
    · (intro w1 hSw; have f0 := hSw.1.cell 0 _ rfl; have f1 := hSw.1.cell 1 _ rfl; have f2 := hSw.2.1.cell 0 _ rfl; have f3 := hSw.2.1.cell 1 _ rfl; have f4 := HTT.out _ hSw.2.2.2.1; have f5 := HTU.out _ hSw.2.2.2.1; go_simp; try with_reducible rfl)
    simp only [Act.put, List.setIfInBounds_toArray, List.set_cons_zero, List.set_cons_succ]
    refine takeL 14 rfl (by kernel_rfl) (by kernel_rfl) (by kernel_rfl) (fun _ _ _ h => h) (by rfl) (fun w1 hSw => run_index89 (.tmp 119) (.tmp 121) rfl bS n c1 (n - 1) w1 rfl rfl (by omega)) hHeld ?_
    simp only [Act.put, List.setIfInBounds_toArray, List.set_cons_zero, List.set_cons_succ]
    refine takeL 15 rfl (by kernel_rfl) (by kernel_rfl) (by kernel_rfl) (fun _ _ _ h => h) (by rfl) (fun w1 hSw => run_load83 (.tmp 122) rfl bS (n - 1) ay (dlen y) (dlen y) w1 rfl (HTU.out _ hSw.2.2.2.1)) hHeld ?_
    simp only [Act.put, List.setIfInBounds_toArray, List.set_cons_zero, List.set_cons_succ]
    refine wpAnyH_ready (rs := [16]) (by kernel_rfl) (by simp) ?_
    refine consL rfl rfl (fun K hK => ?_) AllReadyH.nil
    go_simp
    refine (HM.out _ hHeld.2.2.2.1).mono ?_
    rintro e wn ⟨a1', c1', es', a2', c2', rfl, hst, hvs, hcn⟩
    refine hK.out _ _ ⟨hcn.blk hHeld.1 (by simp), hcn.blk hHeld.2.1 (by simp), (by obtain ⟨p, q, hpq⟩ := hHeld.2.2.1; exact ⟨p, q, hcn.blk hpq (by simp)⟩), hHeld.2.2.2.1.trans hcn, hHeld.2.2.2.2.chg0 hcn⟩ (fun hHeld => ?_)
    clear hK K
    try simp only [Act.put, List.setIfInBounds_toArray, List.set_cons_zero, List.set_cons_succ, List.toList_toArray]
    clear hcn
    obtain ⟨p, q, kr⟩ := hHeld.2.2.1
    refine wpAnyH_ready (rs := [17]) (by kernel_rfl) (by simp) ?_
    refine consL rfl rfl (fun K hK => ?_) AllReadyH.nil
    refine wp_store_mid 92 _ _ rfl br 0 #[(.slice a1' es'.length c1'), (.slice a2' os'.length c2')] rfl rfl (there2 kr) info92 (one92 rfl rfl) ?_
    have V0 := set2 (p' := (.slice a1' es'.length c1')) (q' := (.slice a2' os'.length c2')) kr
    have V2 := ne2 (b := br) (p := (.slice a1' es'.length c1')) (q := (.slice a2' os'.length c2')) hHeld.1 n4r
    have V2b := ne2 (b := br) (p := (.slice a1' es'.length c1')) (q := (.slice a2' os'.length c2')) hHeld.2.1 n5r
    have V3 := chg2 (b := br) (p := (.slice a1' es'.length c1')) (q := (.slice a2' os'.length c2')) hHeld.2.2.2.1 gr
    have V5 := (Ent.zero (World.setCells wn br 0 [(.slice a1' es'.length c1'), (.slice a2' os'.length c2')]))
    have V6 := StE.keep hst (chgBr (br := br) (p := (.slice a1' es'.length c1')) (q := (.slice a2' os'.length c2'))) kr
    refine hK.out _ _ ⟨V2, V2b, ⟨(a1', es'.length, c1'), _, V0⟩, V3, V5⟩ (fun hHeld => ?_)
    clear hK K
    try simp only [Act.put, List.setIfInBounds_toArray, List.set_cons_zero, List.set_cons_succ, List.toList_toArray]
    generalize World.setCells _ br 0 [(.slice a1' es'.length c1'), (.slice a2' os'.length c2')] = wz at *
    refine wpAnyH_done (by kernel_rfl) ?_ _
    go_wp2_with fail
    refine bodyPost_ret (results_cell (by rfl) _ _ _ br 0 (by rfl) [(.slice a1' es'.length c1'), (.slice a2' os'.length c2')] _ (range2 V0) Takg.underlying92 (by rfl) info92) rfl ?_
    exact ⟨a1', c1', es', a2', c2', rfl, V6, hvs, V3⟩

end Na
end Go.Proofs.Ygctak
