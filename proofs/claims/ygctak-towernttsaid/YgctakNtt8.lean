/-
  Walks: elems.
-/
import Derived.Test.YgctakNtt7
import Derived.Test.YgctakMem2
namespace Go.Proofs.Ygctak
open Go.RowKit
set_option linter.unusedVariables false
set_option linter.unusedSimpArgs false
attribute [local go_sem ↓] Go.wp_at_zero Go.wp_at_succ
namespace Ntt

/-- The first i of the digits, and zeros, n in all. -/
def padTo (ds : List Int) (n i : Nat) : List Int := ds.take i ++ List.replicate (n - i) 0
theorem padTo_length (ds : List Int) (n i : Nat) (h : i ≤ ds.length) (hn : i ≤ n) : (padTo ds n i).length = n := by simp [padTo]; omega
theorem padTo_set (ds : List Int) (n i : Nat) (h : i < ds.length) (hn : i < n) : (padTo ds n i).set i (ds.getD i 0) = padTo ds n (i + 1) := by
  have hl : (ds.take i).length = i := by simp; omega
  unfold padTo
  rw [List.set_append_right _ _ (by omega), hl, Nat.sub_self, List.take_succ_eq_append_getElem h, List.append_assoc, show n - i = n - (i + 1) + 1 by omega, List.replicate_succ, List.set_cons_zero]
  simp [h]
def pad (ds : List Int) (n : Nat) : List Int := padTo ds n ds.length

theorem info25 : (Takg.prog.info? 25).map (fun i => (i.zero, i.size, i.bytes)) = some (some (.int .u32 0), 1, 4) := by kernel_rfl

theorem elems_any (b0 off n cap : Nat) (ds : List Int) (w : World) (hd : Dig w b0 off ds) (hdb : Byte ds) (hl : ds.length ≤ n) (hn : n ≤ 2048) :
    Calls Takg.prog 46 #[.slice (some ⟨b0, off, none⟩) ds.length cap, .int .i64 n] w fun e w' =>
      e = .returned (.slice (some ⟨w.heap.size, 0, none⟩) n n) ∧ w.heap.size < w'.heap.size ∧ Blk w' w.heap.size 25 (E (pad ds n)) ∧ Chg [] w w' := by
  have hmk := make_run (P := Takg.prog) 23 25 (.int .u32 0) 4 n rfl Takg.underlying23 info25 (by omega) (by omega)
  go_enter Takg.func46, Takg.ntmps46
  go_wp2_with fail
  clear hmk
  obtain ⟨b, hb⟩ : ∃ b, b = w.heap.size := ⟨_, rfl⟩
  have hbn := Blk.newRep w n (Value.int .u32 0) 25
  have hch := (Chg.refl [] w).alloc (.cells (Array.replicate n (Value.int .u32 0)) 25)
  have hdw := hch.dig hd (by simp)
  rw [← hb] at hbn ⊢
  have hb0 := hd.lt
  rw [← hb] at hb0
  have HB := hide hb
  clear hb hd
  have hsz : b < (w.alloc (.cells (Array.replicate n (Value.int .u32 0)) 25)).heap.size := hbn.lt
  have e0 : List.replicate n (Value.int .u32 0) = E (padTo ds n 0) := by simp [padTo, E]
  rw [e0] at hbn
  clear e0
  generalize w.alloc (.cells (Array.replicate n (Value.int .u32 0)) 25) = w1 at *
  go_loopw [6] (fun x wr => ∃ i : Nat, x = .int .i64 i ∧ i ≤ ds.length ∧ Blk wr b 25 (E (padTo ds n i)) ∧ Dig wr b0 off ds ∧ Chg [] w wr) (fun x _ => ds.length - (intOf x).toNat)
  case atStart => exact ⟨0, rfl, by omega, hbn, hdw, hch⟩
  case round =>
    clear hbn hdw hch
    obtain ⟨i, rfl, hi, hbr, hdr, hcr⟩ := hrel
    by_cases hil : i < ds.length
    · obtain ⟨u, hu⟩ : ∃ u, u = ds.getD i 0 := ⟨_, rfl⟩
      have hub := hdb i hil
      have k0 := hdr.cell i hil
      have k1 := hbr.cell _ _ (E_get _ i (by rw [padTo_length _ _ _ hi (by omega)]; omega))
      have f1 := hbr.frozen i none
      have hnext := hbr.set i (.int .u32 u)
      rw [E_set, hu, padTo_set ds n i hil (by omega), ← hu] at hnext
      rw [← hu] at k0 hub
      obtain ⟨hu0, hu1⟩ := hub
      clear hu
      have hin : i < n := by omega
      go_wp2_with fail
      go_roundw
      case rel => exact ⟨i + 1, by go_num, by omega, hnext, hdr.setNe _ (by simp; omega) _, hcr.setNew _ (by have := HB.out; simp; omega) _⟩
      case measure => simp [intOf]; omega
    · have hie : i = ds.length := by omega
      subst hie
      go_wp2_with fail
      go_ret
      refine ⟨by rw [HB.out]; rfl, ?_, ?_, hcr⟩
      · rw [← HB.out]; exact hbr.lt
      · rw [← HB.out]; exact hbr
end Ntt
end Go.Proofs.Ygctak
