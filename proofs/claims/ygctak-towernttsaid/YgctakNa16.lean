/-
  calc.sharesDigit: entries in blocks of their own share no digit.
-/
import Derived.Test.YgctakNa11
import Derived.Test.YgctakNa15
import Derived.Deep.MidRow
namespace Go.Proofs.Ygctak
open Go.RowKit
set_option linter.unusedVariables false
set_option linter.unusedSimpArgs false
attribute [local go_sem ↓] Go.wp_at_zero Go.wp_at_succ
namespace Na

/-- A stack in memory. -/
structure Stk (w : World) (g cap : Nat) (es : Es) : Prop where
  lt : g < w.heap.size
  cell : ∀ j e, es[j]? = some e → w.cell? ⟨g, j, none⟩ = some (.slice e.1 (dlen e.2) (dlen e.2))
  ent : ∀ e, e ∈ es → Ent w e.1 e.2 ∧ dlen e.2 ≤ 1024
  dis : es.Pairwise (fun e f => ∀ b, e.1 = some ⟨b, 0, none⟩ → f.1 ≠ some ⟨b, 0, none⟩)
  n1 : es.length ≤ 16
  hc : es.length ≤ cap
theorem Stk.chg0 {w w' : World} {g cap : Nat} {es : Es} (h : Stk w g cap es) (hc : Chg [] w w') : Stk w' g cap es :=
  ⟨Nat.lt_of_lt_of_le h.lt hc.size, fun j e he => (hc.cell g _ h.lt (by simp)).trans (h.cell j e he), fun e he => ⟨(h.ent e he).1.chg0 hc, (h.ent e he).2⟩, h.dis, h.n1, h.hc⟩

theorem anyOf_any (b n bp t : Nat) (cs ps : List Value) (w : World) (hn : n ≤ 5000) (hb : Blk w b t cs) (hp : Blk w bp 198 ps) (hl : ps.length = 8) (h : ∀ p, p ∈ ps → Pv w b p) :
    Calls Takg.prog 155 #[.slice (some ⟨b, 0, none⟩) n n, .pointer (some ⟨bp, 0, none⟩)] w fun e w' => e = .returned (.bool false) ∧ Chg [] w w' := by
  match ps, hl with
  | [p0, p1, p2, p3, p4, p5, p6, p7], _ =>
    exact anyOf_8 b n bp t cs p0 p1 p2 p3 p4 p5 p6 p7 w hn hb hp (h _ (by simp)) (h _ (by simp)) (h _ (by simp)) (h _ (by simp)) (h _ (by simp)) (h _ (by simp)) (h _ (by simp)) (h _ (by simp))

def Z8 : List Value := List.replicate 8 (.pointer none)
theorem alloc198 (w : World) : (Instr.alloc 198 true (.tuple #[])).run Takg.prog w = .ok (.pointer (some ⟨w.heap.size, 0, none⟩)) (w.alloc (.cells #[.pointer none, .pointer none, .pointer none, .pointer none, .pointer none, .pointer none, .pointer none, .pointer none] 198)) := by kernel_rfl
theorem wpList_new198 {ops : Array Oper} {rest : List Oper} {o1 : Oper} {a : Act} {w : World} {Q : Exit → Act → World → Prop} (hg1 : o1.guard = none) (ho1 : o1.op = .alloc 198)
    (h : ∀ b w2, Hid (b = w.heap.size) → Blk w2 b 198 Z8 → Chg [] w w2 → wpList Takg.prog ops Q rest (a.put o1.dst (.pointer (some ⟨b, 0, none⟩))) w2) : wpList Takg.prog ops Q (o1 :: rest) a w := by
  refine wpList_allocVar hg1 198 ho1 _ alloc198 ?_
  exact h _ _ rfl (Blk.new w Z8 198) ((Chg.refl [] w).alloc _)
theorem info198 : (Takg.prog.info? 198).map (·.size) = some 8 := by kernel_rfl
theorem set8 {w : World} {b : Nat} {ps : List Value} (h : Blk w b 198 ps) (hl : ps.length = 8) : Blk (w.setCells b 0 Z8) b 198 Z8 := by
  match ps, hl with
  | [p0, p1, p2, p3, p4, p5, p6, p7], _ => exact (((((((h.set 0 (.pointer none)).set 1 (.pointer none)).set 2 (.pointer none)).set 3 (.pointer none)).set 4 (.pointer none)).set 5 (.pointer none)).set 6 (.pointer none)).set 7 (.pointer none)
theorem setCells_new {S : List Nat} {a : World} (b : Nat) (hb : a.heap.size ≤ b) : ∀ (cs : List Value) (o : Nat) (w : World), Chg S a w → Chg S a (w.setCells b o cs)
  | [], _, _, h => h
  | v :: r, o, w, h => setCells_new b hb r (o + 1) _ (h.setNew _ hb _)
theorem wpList_store8 {ops : Array Oper} {rest : List Oper} {o2 : Oper} {a : Act} {w : World} {Q : Exit → Act → World → Prop} (hg2 : o2.guard = none) (y v : Operand) (ho2 : o2.op = .store 198 y v) (hd2 : o2.dst = none)
    (b : Nat) (ps : List Value) (hl : ps.length = 8) (hk : Blk w b 198 ps) (hv : a.eval v = .agg Z8.toArray) (hy : a.eval y = .pointer (some ⟨b, 0, none⟩))
    (h : ∀ w2, Blk w2 b 198 Z8 → (∀ w0, w0.heap.size ≤ b → Chg [] w0 w → Chg [] w0 w2) → wpList Takg.prog ops Q rest a w2) : wpList Takg.prog ops Q (o2 :: rest) a w := by
  refine wpList_store_mid hg2 198 y v ho2 b 0 Z8.toArray hy hv (fun j hj => ⟨?_, hk.frozen _ _⟩) info198 (all_oneCell_toArray (fun v hv => by rw [List.eq_of_mem_replicate hv]; rfl)) ?_
  · have hj8 : j < 8 := hj
    rw [Nat.zero_add, hk.cell j _ (List.getElem?_eq_getElem (by omega : j < ps.length))]; rfl
  · rw [hd2]
    exact h _ (set8 hk hl) (fun w0 h0 hc => setCells_new b h0 Z8 0 _ hc)
theorem Z8_pv (w : World) (b : Nat) : ∀ p, p ∈ Z8 → Pv w b p := fun p hp => .inl (List.eq_of_mem_replicate hp)

theorem neq_nil (t e : TypeId) (a : Option Addr) (l c : Nat) (h : Takg.prog.underlying t = some (.slice e)) (w : World) : (binOp .neq t (.slice a l c) (.slice none 0 0)).run Takg.prog w = .ok (.bool (!a.isNone)) w := by
  simp only [binOp]
  simp [run_equal_slice_nil w t e a l c h]
/-- Another entry's first digit. -/
theorem Stk.first {w : World} {g cap i j b : Nat} {es : Es} (h : Stk w g cap es) {e f : Option Addr × Nat} (he : es[i]? = some e) (hf : es[j]? = some f) (hij : j ≠ i) (hb : e.1 = some ⟨b, 0, none⟩) (h0 : 0 < f.2) :
    ∃ c, f.1 = some ⟨c, 0, none⟩ ∧ Pv w b (.pointer (some ⟨c, 0, none⟩)) := by
  obtain ⟨c, hc, _⟩ := (h.ent f (List.mem_of_getElem? hf)).1.som h0
  obtain ⟨t, cs, hk⟩ := (h.ent f (List.mem_of_getElem? hf)).1.blk c hc
  refine ⟨c, hc, .inr ⟨c, t, cs, rfl, fun hcb => ?_, hk⟩⟩
  subst hcb
  obtain ⟨hi1, hi2⟩ := List.getElem?_eq_some_iff.1 he
  obtain ⟨hj1, hj2⟩ := List.getElem?_eq_some_iff.1 hf
  have hd := List.pairwise_iff_getElem.1 h.dis
  rcases Nat.lt_or_gt_of_ne hij with hlt | hlt
  · exact hd j i hj1 hi1 hlt c (by rw [hj2]; exact hc) (by rw [hi2]; exact hb)
  · exact hd i j hi1 hj1 hlt c (by rw [hi2]; exact hb) (by rw [hj2]; exact hc)

set_option maxRecDepth 10000 in
set_option maxHeartbeats 2000000 in
theorem shares_any (g cap i : Nat) (es : Es) (e : Option Addr × Nat) (w : World) (h : Stk w g cap es) (he : es[i]? = some e) (h0 : 0 < e.2) :
    Calls Takg.prog 147 #[.slice (some ⟨g, 0, none⟩) es.length cap, .int .i64 i] w fun r w' => r = .returned (.bool false) ∧ Chg [] w w' := by
  have hi : i < es.length := (List.getElem?_eq_some_iff.1 he).1
  obtain ⟨b, hb, _⟩ := (h.ent e (List.mem_of_getElem? he)).1.som h0
  obtain ⟨tb, cb, hkb⟩ := (h.ent e (List.mem_of_getElem? he)).1.blk b hb
  have hce := h.cell i e he
  have hde := (h.ent e (List.mem_of_getElem? he)).2
  rw [hb] at hce
  have HS := hide h
  have HE := hide he
  have HB := hide hb
  have hn16 := h.n1
  have hcap := h.hc
  obtain ⟨n, en⟩ : ∃ n, n = es.length := ⟨_, rfl⟩
  rw [← en] at hi hn16 hcap ⊢
  have HEN := hide en
  generalize dlen e.2 = d at *
  have HKB := hide hkb
  clear en h he hb h0 hkb
  go_enter Takg.func147, Takg.ntmps147
  go_upto_region 3 with (refine wpList_new198 (by rfl) (by rfl) ?_; intro bp w1 hbp kp cw)
  simp only [Act.put, List.setIfInBounds_toArray, List.set_cons_zero, List.set_cons_succ]
  go_wp2_with fail
  have hnew : w.heap.size ≤ bp := by rw [hbp.out]; exact Nat.le_refl _
  clear hbp
  go_loopw [7, 8] (fun x y wr => ∃ (k j : Nat) (ps : List Value), x = .int .i64 k ∧ y = .int .i64 j ∧ k ≤ 7 ∧ j ≤ n ∧ ps.length = 8 ∧ (∀ p, p ∈ ps → Pv w b p) ∧ Blk wr bp 198 ps ∧ Chg [] w wr) (fun _ y _ => n - (intOf y).toNat)
  case atStart => exact ⟨0, 0, Z8, rfl, rfl, by omega, Nat.zero_le _, rfl, Z8_pv w b, kp, cw⟩
  case round =>
    clear kp cw hce
    obtain ⟨k, j, ps, rfl, rfl, hk, hj, hl, hpv, kp, cw⟩ := hrel
    by_cases hlt : j < n
    · obtain ⟨f, hf⟩ : ∃ f, es[j]? = some f := by
        rw [HEN.out] at hlt
        exact ⟨_, List.getElem?_eq_getElem hlt⟩
      have HP := hide (fun (hji : j ≠ i) (h : 0 < f.2) => HS.out.first HE.out hf hji HB.out h)
      have hcf : wr.cell? ⟨g, j, none⟩ = some (.slice f.1 (dlen f.2) (dlen f.2)) := (cw.cell g _ HS.out.lt (by simp)).trans (HS.out.cell j f hf)
      have hdf := (HS.out.ent f (List.mem_of_getElem? hf)).2
      have HF0 := hide ((HS.out.ent f (List.mem_of_getElem? hf)).1.nil)
      have HDP := hide (fun h => dlen_pos (v := f.2) h)
      obtain ⟨f1, f2⟩ := f
      dsimp only at HP hcf hdf HF0 HDP
      generalize dlen f2 = df at *
      have HPV := hide hpv
      have HCW := hide cw
      clear hf hpv cw
      go_upto_region 7 with fail
      go_cut [28] (fun x wc => (x = .bool false ∨ (x = .bool true ∧ ∃ c, f1 = some ⟨c, 0, none⟩ ∧ 0 < df ∧ Pv w b (.pointer (some ⟨c, 0, none⟩)))) ∧ wc = wr)
      case first =>
        by_cases hji : j = i
        · have q : (((j : Nat) : Int) != (i : Nat)) = false := by rw [hji]; simp
          clear hcf hji
          go_wp2_with fail
          go_meet
          exact ⟨.inl rfl, rfl⟩
        · have q : (((j : Nat) : Int) != (i : Nat)) = true := by simp; omega
          rcases Nat.eq_zero_or_pos f2 with h0 | h0
          · have hn := HF0.out h0
            subst hn
            have q2 := neq_nil 83 5 none df df Takg.underlying83 wr
            have q3 : (none : Option Addr).isNone = true := rfl
            go_wp2_with fail
            go_meet
            exact ⟨.inl rfl, rfl⟩
          · obtain ⟨c, rfl, hpc⟩ := HP.out hji h0
            have q2 := neq_nil 83 5 (some ⟨c, 0, none⟩) df df Takg.underlying83 wr
            have q3 : (some (⟨c, 0, none⟩ : Addr)).isNone = false := rfl
            have HPC := hide hpc
            clear hpc
            go_wp2_with fail
            go_meet
            exact ⟨.inr ⟨rfl, c, rfl, HDP.out h0, HPC.out⟩, rfl⟩
      case rest =>
        obtain ⟨hx, rfl⟩ := hcut
        go_upto_if 28 with fail
        go_cut [7] (fun x wc => ∃ (k2 : Nat) (ps2 : List Value), x = .int .i64 k2 ∧ k2 ≤ 8 ∧ ps2.length = 8 ∧ (∀ p, p ∈ ps2 → Pv w b p) ∧ Blk wc bp 198 ps2 ∧ Chg [] w wc)
        case first =>
          rcases hx with rfl | ⟨rfl, c, rfl, hdp, hpc⟩
          · go_wp2_with fail
            go_meet
            exact ⟨k, ps, rfl, by omega, hl, HPV.out, kp, HCW.out⟩
          · have V1 := kp.set k (.pointer (some ⟨c, 0, none⟩))
            have V2 := HCW.out.setNew ⟨bp, k, none⟩ hnew (.pointer (some ⟨c, 0, none⟩))
            have hfz := kp.frozen k none
            have hck := kp.cell k _ (List.getElem?_eq_getElem (by omega : k < ps.length))
            generalize ps[k]'(by omega) = pk at hck
            have HPC := hide hpc
            have HPS : Hid (∀ p, p ∈ ps.set k (.pointer (some ⟨c, 0, none⟩)) → Pv w b p) := fun p hp => by
              rcases List.mem_or_eq_of_mem_set hp with h | h
              · exact HPV.out p h
              · rw [h]; exact HPC.out
            have hl2 : (ps.set k (.pointer (some ⟨c, 0, none⟩))).length = 8 := by simp [hl]
            have HV := hide (And.intro hl2 (And.intro V1 V2))
            clear hpc V1 V2 hl2 kp
            go_wp2_with fail
            go_meet
            exact ⟨k + 1, _, by go_num, by omega, HV.out.1, HPS.out, HV.out.2.1, HV.out.2.2⟩
        case rest =>
          clear hx kp HPV HCW hl hk hcf HP HF0 HDP hdf
          obtain ⟨k, ps, rfl, hk, hl, hpv, kp, cw⟩ := hcut
          have HPV := hide hpv
          have HCW := hide cw
          clear hpv cw
          go_upto_region 10 with fail
          go_cut [50] (fun x wx => (x = .bool true ∨ (x = .bool false ∧ k ≤ 7)) ∧ wx = wc)
          case first =>
            by_cases h8 : k = 8
            · have q : (((k : Nat) : Int) == 8) = true := by rw [h8]; rfl
              go_wp2_with fail
              go_meet
              exact ⟨.inl rfl, rfl⟩
            · have q : (((k : Nat) : Int) == 8) = false := by simp; omega
              by_cases hk0 : 0 < k
              · have q2 : decide ((0 : Int) < (k : Nat)) = true := by simp; omega
                have q3 : (k : Int) > 0 := by omega
                have q4 : ((n : Nat) : Int) - 1 = ((n - 1 : Nat) : Int) := by omega
                by_cases hjn : j = n - 1
                · have q5 : (((j : Nat) : Int) == ((n - 1 : Nat) : Int)) = true := by rw [hjn]; simp
                  go_wp2_with fail
                  go_meet
                  exact ⟨.inl rfl, rfl⟩
                · have q5 : (((j : Nat) : Int) == ((n - 1 : Nat) : Int)) = false := by simp; omega
                  go_wp2_with fail
                  go_meet
                  exact ⟨.inr ⟨rfl, by omega⟩, rfl⟩
              · have : k = 0 := by omega
                subst this
                go_wp2_with fail
                go_meet
                exact ⟨.inr ⟨rfl, by omega⟩, rfl⟩
          case rest =>
            obtain ⟨hx, rfl⟩ := hcut
            rcases hx with rfl | ⟨rfl, hk7⟩
            · have HA := hide (anyOf_any b d bp tb cb ps _ (by omega) (HCW.out.blk HKB.out (by simp)) kp hl (fun p hp => (HPV.out p hp).chg HCW.out (by simp)))
              go_wp2_with fail
              refine HA.out.mono ?_
              rintro r w2 ⟨rfl, cw2⟩
              have kp2 := cw2.blk kp (by simp)
              have HC2 := hide (HCW.out.trans cw2)
              clear kp cw2
              go_wp2_with (refine wpList_store8 (by rfl) (.tmp 6) (.tmp 53) (by rfl) (by rfl) bp ps hl kp2 (by rfl) (by rfl) ?_; intro w3 kp3 hc3)
              have HC3 := hide (hc3 w hnew HC2.out)
              clear hc3 kp2
              go_wp2_with fail
              go_roundw
              case rel => exact ⟨0, j + 1, Z8, rfl, by go_num, by omega, by omega, rfl, Z8_pv w b, kp3, HC3.out⟩
              case measure => simp [intOf]; omega
            · go_wp2_with fail
              go_roundw
              case rel => exact ⟨k, j + 1, ps, rfl, by go_num, hk7, by omega, hl, HPV.out, kp, HCW.out⟩
              case measure => simp [intOf]; omega
    · have : j = n := by omega
      subst this
      go_wp2_with fail
      go_ret
      exact ⟨rfl, cw⟩
end Na
end Go.Proofs.Ygctak
