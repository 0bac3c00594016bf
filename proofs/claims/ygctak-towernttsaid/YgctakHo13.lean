/-
  Walk: conjTable.
-/
import Derived.Test.YgctakHo9
import Derived.Test.YgctakPt9
namespace Go.Proofs.Ygctak
open Go.RowKit
set_option linter.unusedVariables false
set_option linter.unusedSimpArgs false
attribute [local go_sem ↓] Go.wp_at_zero Go.wp_at_succ
attribute [local go_sem] Fl.neg_run Fl.run_store_complex
namespace Ex
open Ac Fl Sh

theorem conj_next (T : List (Nat × Nat)) (i : Nat) (h : i < T.length) : (padC ((T.map conj).take i) T.length).set i (conj (T.getD i (0, 0))) = padC ((T.map conj).take (i + 1)) T.length := by
  have hl : ((T.map conj).take i).length = i := by simp; omega
  have := padC_set ((T.map conj).take i) T.length (conj (T.getD i (0, 0))) (by omega)
  rw [hl] at this
  rw [this]
  congr 1
  rw [List.take_add_one, List.getElem?_map, List.getD_eq_getElem?_getD, List.getElem?_eq_getElem h]
  rfl

set_option maxHeartbeats 1000000 in
theorem conjTable_any (bt n : Nat) (T : List (Nat × Nat)) (w : World) (hn : n ≤ 1024) (hT : T.length = n) (hb : Blk w bt 103 (C T)) :
    Calls Takg.prog 73 #[.slice (some ⟨bt, 0, none⟩) n n] w fun e w' => ∃ bc, e = .returned (.slice (some ⟨bc, 0, none⟩) n n) ∧ Hid (bc = w.heap.size) ∧ Blk w' bc 103 (C (T.map conj)) ∧ Chg [] w w' := by
  have HT := hide hT
  clear hT
  have hmk := make_run (P := Takg.prog) 46 103 (.complex .f64 0 0) 16 n rfl Takg.underlying46 info103 (by omega) (by omega)
  go_enter Takg.func73, Takg.ntmps73
  go_upto_region 2 with fail
  clear hmk
  obtain ⟨b, hbb⟩ : ∃ b, b = w.heap.size := ⟨_, rfl⟩
  have hbn := Blk.newRep w n (Value.complex .f64 0 0) 103
  have hch := (Chg.refl [] w).alloc (.cells (Array.replicate n (Value.complex .f64 0 0)) 103)
  have hb1 := hb.alloc (.cells (Array.replicate n (Value.complex .f64 0 0)) 103)
  rw [← hbb] at hbn ⊢
  have nbb : bt ≠ b := by have := hb.lt; omega
  have gb : w.heap.size ≤ b := by omega
  have HB := hide hbb
  clear hbb hb
  have e0 : List.replicate n (Value.complex .f64 0 0) = C (padC ((T.map conj).take 0) T.length) := by simp [padC, C, HT.out]
  rw [e0] at hbn
  clear e0
  generalize w.alloc (.cells (Array.replicate n (Value.complex .f64 0 0)) 103) = w1 at *
  go_wp2_with fail
  go_loopw [4] (fun v wr => ∃ i : Nat, v = .int .i64 i ∧ i ≤ n ∧ Blk wr bt 103 (C T) ∧ Blk wr b 103 (C (padC ((T.map conj).take i) T.length)) ∧ Chg [] w wr) (fun v _ => n - (intOf v).toNat)
  case atStart => exact ⟨0, rfl, by omega, hb1, hbn, hch⟩
  case round =>
    clear hb1 hbn hch
    obtain ⟨i, rfl, hi, hbt, hbc, hcr⟩ := hrel
    by_cases hil : i < n
    · have hlt : i < T.length := by have := HT.out; omega
      have hnx := conj_next T i hlt
      have k1 := hbt.cell _ _ (C_get T i hlt)
      have hpl : (padC ((T.map conj).take i) T.length).length = T.length := padC_length _ _ (by simp; omega)
      have k2 := hbc.cell _ _ (C_get _ i (by rw [hpl]; exact hlt))
      have f2 := hbc.frozen i none
      obtain ⟨⟨c1, c2⟩, hc⟩ : ∃ z, z = T.getD i (0, 0) := ⟨_, rfl⟩
      rw [← hc] at k1 hnx
      obtain ⟨⟨d1, d2⟩, hd⟩ : ∃ z, z = (padC ((T.map conj).take i) T.length).getD i (0, 0) := ⟨_, rfl⟩
      rw [← hd] at k2
      dsimp only at k1 k2
      have V1 := hbt.drew.set_ne ⟨b, i, none⟩ nbb (.complex .f64 c1 (fneg c2))
      have V2 := hbc.drew.set i (.complex .f64 (conj (c1, c2)).1 (conj (c1, c2)).2)
      rw [C_set, hnx] at V2
      have V3 := hcr.drew.setNew ⟨b, i, none⟩ gb (.complex .f64 c1 (fneg c2))
      have hneg := neg_run c2
      clear hnx hpl hc hd hlt hbt hbc hcr
      go_upto_region 5 with fail
      go_region
      go_wp2_with fail
      go_roundw
      case rel => exact ⟨i + 1, by go_num, by omega, V1, V2, V3⟩
      case measure => simp [intOf]; omega
    · have hie : i = n := by omega
      subst hie
      have e1 : padC ((T.map conj).take i) T.length = T.map conj := by
        rw [← HT.out, List.take_of_length_le (by simp)]
        simp [padC]
      rw [e1] at hbc
      go_wp2_with fail
      go_ret
      exact ⟨b, rfl, HB, hbc, hcr⟩
end Ex
end Go.Proofs.Ygctak
