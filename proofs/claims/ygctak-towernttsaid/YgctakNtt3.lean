/-
  Walks: factors, block.
-/
import Derived.Test.YgctakNtt2
import Derived.Deep.RegionHeld3
import Derived.Deep.RegionWith
import Derived.Deep.DrawnRows
namespace Go.Proofs.Ygctak
open Go.RowKit
set_option linter.unusedVariables false
set_option linter.unusedSimpArgs false
attribute [local go_sem ↓] Go.wp_at_zero Go.wp_at_succ
namespace Ntt

/-- The factors of the words T lie among the cells cs from o on. -/
def Fac (T : List Int) (o : Nat) (cs : List Value) : Prop :=
  ∀ j, j < T.length → cs[o + j * 2]? = some (.int .u32 (T.getD j 0)) ∧ cs[o + j * 2 + 1]? = some (.int .u32 (rat (T.getD j 0)))

/-- Every word is one. -/
def Word (T : List Int) : Prop := ∀ j, j < T.length → 0 ≤ T.getD j 0 ∧ T.getD j 0 ≤ 4294967295

theorem Word.snoc {T : List Int} (h : Word T) (v : Int) (h0 : 0 ≤ v) (h1 : v ≤ 4294967295) : Word (T ++ [v]) := by
  intro j hj
  rcases Nat.lt_or_ge j T.length with hl | hl
  · have := h j hl
    simp only [List.getD_eq_getElem?_getD] at *
    rw [List.getElem?_append_left hl]; exact this
  · have : j = T.length := by simp at hj; omega
    subst this
    simp; exact ⟨h0, h1⟩

theorem Fac.snoc {T : List Int} {o : Nat} {cs : List Value} (h : Fac T o cs) (v : Int) (hl : o + T.length * 2 + 1 < cs.length) :
    Fac (T ++ [v]) o ((cs.set (o + T.length * 2) (.int .u32 v)).set (o + T.length * 2 + 1) (.int .u32 (rat v))) := by
  intro j hj
  rcases Nat.lt_or_ge j T.length with hlt | hge
  · obtain ⟨h1, h2⟩ := h j hlt
    simp only [List.getD_eq_getElem?_getD] at *
    rw [List.getElem?_append_left hlt]
    constructor
    · rw [List.getElem?_set_ne (by omega), List.getElem?_set_ne (by omega), h1]
    · rw [List.getElem?_set_ne (by omega), List.getElem?_set_ne (by omega), h2]
  · have : j = T.length := by simp at hj; omega
    subst this
    constructor
    · rw [List.getElem?_set_ne (by omega), List.getElem?_set_self (by omega)]; simp
    · rw [List.getElem?_set_self (by simp; omega)]; simp

/-- The first so many of the next powers. -/
theorem facGo_length : ∀ (f : Nat) (T : List Int) (w : Int), (facGo f T w).length = T.length * 2 ^ f := by
  intro f
  induction f with
  | zero => intro T w; simp [facGo]
  | succ f ih => intro T w; rw [facGo, ih, List.length_append, List.length_map, Nat.pow_succ, Nat.mul_comm (2 ^ f) 2, ← Nat.mul_assoc]; congr 1; omega

theorem facGo_more (T : List Int) (u : Int) (j : Nat) (h : j < T.length) :
    (T ++ (T.take j).map fun v => fold (times u (rat u) v)) ++ [fold (times u (rat u) (T.getD j 0))] = T ++ (T.take (j + 1)).map fun v => fold (times u (rat u) v) := by
  rw [List.take_succ_eq_append_getElem h, List.map_append, ← List.append_assoc]
  simp [h]

theorem Word.get_left {T : List Int} (U : List Int) (j : Nat) (h : j < T.length) : (T ++ U).getD j 0 = T.getD j 0 := by
  simp only [List.getD_eq_getElem?_getD]; rw [List.getElem?_append_left h]

set_option maxHeartbeats 1000000 in
theorem factors_any (b m i cap t : Nat) (cs : List Value) (w0 : Int) (w : World) (hi : i ≤ 11) (hm : m = 2 ^ i) (hw0 : 0 ≤ w0) (hw1 : w0 ≤ 998244352) (hl : m * 2 ≤ cs.length) (hb : Blk w b t cs) :
    Calls Takg.prog 118 #[.slice (some ⟨b, 0, none⟩) m cap, .int .u32 w0] w fun e w' => e = .returned (.tuple #[]) ∧ ∃ cs2, cs2.length = cs.length ∧ Blk w' b t cs2 ∧ Fac (facGo i [1] w0) 0 cs2 ∧ Chg [b] w w' := by
  have hm0 : 0 < m := by rw [hm]; exact Nat.two_pow_pos i
  have hm2 : m ≤ 2048 := by rw [hm]; exact Nat.pow_le_pow_right (n := 2) (by omega) hi
  have HM := hide hm
  clear hm
  go_enter Takg.func118, Takg.ntmps118
  go_wp2_with fail
  refine (factorOf_any _ _ (by omega) (by omega)).mono ?_
  rintro e w1 ⟨rfl, hc1⟩
  have hb1 := hc1.blk hb (by simp)
  obtain ⟨v0, hv0⟩ : ∃ v, cs[0]? = some v := ⟨_, List.getElem?_eq_getElem (by omega)⟩
  obtain ⟨v1, hv1⟩ : ∃ v, cs[1]? = some v := ⟨_, List.getElem?_eq_getElem (by omega)⟩
  have k0 := hb1.cell 0 _ hv0
  have k1 := hb1.cell 1 _ hv1
  have f0 := hb1.frozen 0 none
  have f1 := hb1.frozen 1 none
  clear hv0 hv1
  go_wp2_with fail
  clear k0 k1 f0 f1
  go_loopw [1, 4] (fun x y wr => ∃ (f : Nat) (T : List Int) (u : Int) (cr : List Value), x = .int .u32 u ∧ y = .int .i64 T.length ∧ 0 ≤ u ∧ u ≤ 998244352 ∧ 0 < T.length ∧ T.length ≤ m ∧ Hid (T.length * 2 ^ f = m) ∧
      Hid (facGo f T u = facGo i [1] w0) ∧ Word T ∧ Blk wr b t cr ∧ Hid (cr.length = cs.length) ∧ Fac T 0 cr ∧ Chg [b] w wr) (fun _ y _ => m - (intOf y).toNat)
  case atStart =>
    refine ⟨i, [1], w0, _, rfl, by simp, hw0, hw1, by simp, by simp; omega, by unfold Hid; simp; exact HM.out.symm, rfl, ?_, (hb1.set 0 _).set 1 _, by unfold Hid; simp, ?_, (((hc1.mono (by simp)).setCell _ (by simp) _).setCell _ (by simp) _)⟩
    · intro j hj
      have : j = 0 := by simp at hj; omega
      subst this; simp
    · intro j hj
      have : j = 0 := by simp at hj; omega
      subst this
      constructor
      · rw [List.getElem?_set_ne (by omega), List.getElem?_set_self (by omega)]; rfl
      · rw [List.getElem?_set_self (by simp; omega)]; rfl
  case round =>
    obtain ⟨f, T, u, cr, rfl, rfl, hu0, hu1, hT0, hTm, HT, HF, hW, hbr, hlr, hfa, hch⟩ := hrel
    clear hb1 hb hc1
    by_cases hlt : T.length < m
    · obtain ⟨g, rfl⟩ : ∃ g, f = g + 1 := ⟨f - 1, by
        rcases Nat.eq_zero_or_pos f with h | h
        · subst h; have := HT.out; simp at this; omega
        · omega⟩
      have hT2 : T.length * 2 ≤ m := by
        have := HT.out
        rw [Nat.pow_succ, Nat.mul_comm (2 ^ g) 2, ← Nat.mul_assoc] at this
        rw [← this]; exact Nat.le_mul_of_pos_right _ (Nat.two_pow_pos g)
      go_wp2_with fail
      refine (factorOf_any _ _ hu0 (by omega)).mono ?_
      rintro e w2 ⟨rfl, hc2⟩
      go_wp2_with fail
      have hb2 : Blk (w2.alloc (Obj.cells #[Value.int IntKind.u32 u, Value.int IntKind.u32 (rat u)] 78)) b t cr := (hc2.blk hbr (by simp)).alloc _
      have hbn := Blk.new' w2 #[Value.int IntKind.u32 u, Value.int IntKind.u32 (rat u)] 78
      have hch2 : Chg [b] w (w2.alloc (Obj.cells #[Value.int IntKind.u32 u, Value.int IntKind.u32 (rat u)] 78)) := (hch.trans (hc2.mono (by simp))).alloc _
      have hlt2 : b < w2.heap.size := Nat.lt_of_lt_of_le hbr.lt hc2.size
      obtain ⟨bb, hbb⟩ : ∃ bb, bb = w2.heap.size := ⟨_, rfl⟩
      rw [← hbb] at hbn hlt2
      rw [← hbb]
      clear hbr hch hc2
      generalize w2.alloc (Obj.cells #[Value.int IntKind.u32 u, Value.int IntKind.u32 (rat u)] 78) = w3 at *
      clear hbb
      go_loopw [6] (fun x wr => ∃ (j : Nat) (cr : List Value), x = .int .i64 j ∧ j ≤ T.length ∧ Blk wr b t cr ∧ Blk wr bb 78 #[Value.int IntKind.u32 u, Value.int IntKind.u32 (rat u)].toList ∧ Hid (cr.length = cs.length) ∧
          Word (T ++ (T.take j).map fun v => fold (times u (rat u) v)) ∧ Fac (T ++ (T.take j).map fun v => fold (times u (rat u) v)) 0 cr ∧ Chg [b] w wr) (fun x _ => T.length - (intOf x).toNat)
      case atStart => exact ⟨0, cr, rfl, by omega, hb2, hbn, hlr, by simpa using hW, by simpa using hfa, hch2⟩
      case round =>
        clear hb2 hbn hch2 hfa
        obtain ⟨j, cq, rfl, hj, hbq, hbbq, hlq, hWq, hfq, hcq⟩ := hrel
        by_cases hjl : j < T.length
        · obtain ⟨v, hv⟩ : ∃ v, v = T.getD j 0 := ⟨_, rfl⟩
          have hvb := hW j hjl
          rw [← hv] at hvb
          obtain ⟨hv0, hv1⟩ := hvb
          have hlen : (T ++ (T.take j).map fun v => fold (times u (rat u) v)).length = T.length + j := by simp; omega
          have hcell := (hfq j (by rw [hlen]; omega)).1
          rw [Word.get_left _ _ hjl, ← hv, Nat.zero_add] at hcell
          have hmore := facGo_more T u j hjl
          rw [← hv] at hmore
          obtain ⟨y, hy⟩ : ∃ y, y = fold (times u (rat u) v) := ⟨_, rfl⟩
          have hyb := fold_bd (times_bd u (rat u) v).1 (times_bd u (rat u) v).2
          rw [← hy] at hyb hmore
          have hsn := hWq.snoc y hyb.1 hyb.2
          have hfn := hfq.snoc y (by rw [hlen]; have := hlq.out; omega)
          rw [hlen, Nat.zero_add] at hfn
          rw [hmore] at hsn hfn
          have HY : Hid (fold (times u (rat u) v) = y) := hy.symm
          obtain ⟨c0, hc0⟩ : ∃ c, cq[(T.length + j) * 2]? = some c := ⟨_, List.getElem?_eq_getElem (by have := hlq.out; omega)⟩
          obtain ⟨c1, hc1⟩ : ∃ c, cq[(T.length + j) * 2 + 1]? = some c := ⟨_, List.getElem?_eq_getElem (by have := hlq.out; omega)⟩
          have k0 := hbq.cell _ _ hcell
          have k1 := hbbq.cell 0 _ rfl
          have k2 := hbbq.cell 1 _ rfl
          have tb := times_bd u (rat u) v
          have rb := rat_bd u
          clear hmore hcell hWq hfq hv hy hlen
          go_wp2_with fail
          go_region_with (first | (go_at_call 45; refine (times_any _ _ _ _ hu0 (by omega) rb.1 rb.2 hv0 hv1).mono ?_; rintro e w5 ⟨rfl, hc5⟩) | (go_at_call 44; refine (fold_any _ _ tb.1 tb.2).mono ?_; rintro e w6 ⟨rfl, rfl⟩) | (go_at_call 43; refine (factorOf_any _ _ (by rw [HY.out]; exact hyb.1) (by rw [HY.out]; exact hyb.2)).mono ?_; rintro e w7 ⟨rfl, hc7⟩; have hb7 := hc7.blk (hc5.blk hbq.drew (by simp)) (by simp); have s0 := hb7.cell _ _ hc0; have s1 := hb7.cell _ _ hc1; have s2 := hb7.frozen ((T.length + j) * 2) none; have s3 := hb7.frozen ((T.length + j) * 2 + 1) none))
          all_goals
            go_wp2_with fail
            go_roundw
            case rel =>
              refine ⟨j + 1, _, by go_num, by omega, ?_, ?_, ?_, hsn, hfn, ?_⟩
              · rw [HY.out]; exact (hb7.set _ _).set _ _
              · exact ((hc7.blk (hc5.blk hbbq.drew (by simp)) (by simp)).set_ne _ (by simp; omega) _).set_ne _ (by simp; omega) _
              · unfold Hid; simp; exact hlq.out
              · exact (((hcq.drew.trans (hc5.mono (by simp))).trans (hc7.mono (by simp))).setCell _ (by simp) _).setCell _ (by simp) _
            case measure => simp [intOf]; omega
        · have hjT : j = T.length := by omega
          subst hjT
          rw [List.take_length] at hWq hfq
          go_wp2_with fail
          refine (mulmod_any _ _ _ hu0 (by omega) hu0 (by omega)).mono ?_
          rintro e w5 ⟨rfl, rfl⟩
          have mb := mulm_bd u u
          go_wp2_with fail
          go_roundw
          case rel =>
            refine ⟨g, _, mulm u u, cq, rfl, ?_, mb.1, mb.2, ?_, ?_, ?_, ?_, hWq, hbq, hlq, hfq, hcq⟩
            · simp; omega
            · simp; omega
            · simp; omega
            · unfold Hid; rw [← HT.out, List.length_append, List.length_map, Nat.pow_succ, Nat.mul_comm (2 ^ g) 2, ← Nat.mul_assoc]; congr 1; omega
            · unfold Hid; rw [← HF.out]; rfl
          case measure => simp [intOf]; omega
    · go_wp2_with fail
      go_end0
      have hTe : T.length = m := by omega
      refine ⟨rfl, cr, hlr.out, hbr, ?_, hch⟩
      rw [← HF.out]
      have hf0 : f = 0 := by
        rcases Nat.eq_zero_or_pos f with h | h
        · exact h
        · have := HT.out
          have h2 := Nat.pow_le_pow_right (n := 2) (by omega) h
          have h3 := Nat.mul_le_mul_left T.length h2
          omega
      subst hf0
      exact hfa

/-- The words of the next powers are words. -/
theorem facGo_word : ∀ (f : Nat) (T : List Int) (w : Int), Word T → Word (facGo f T w) := by
  intro f
  induction f with
  | zero => intro T w h; exact h
  | succ f ih =>
    intro T w h
    apply ih
    intro j hj
    rcases Nat.lt_or_ge j T.length with hl | hl
    · rw [Word.get_left _ _ hl]; exact h j hl
    · simp only [List.getD_eq_getElem?_getD]
      rw [List.getElem?_append_right hl]
      have hj2 : j - T.length < T.length := by simp at hj; omega
      simp [hj2]
      exact fold_bd (times_bd _ _ _).1 (times_bd _ _ _).2
end Ntt
end Go.Proofs.Ygctak
