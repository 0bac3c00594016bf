/-
  Walks: shadow.Start, shadow.Greatest.
-/
import Derived.Test.YgctakPt4
namespace Go.Proofs.Ygctak
open Go.RowKit
set_option linter.unusedVariables false
set_option linter.unusedSimpArgs false
attribute [local go_sem ↓] Go.wp_at_zero Go.wp_at_succ
attribute [local go_sem] Fl.run_store_complex Fl.run_store_float
namespace Sh
open Ac Fl

/-- float64 of a digit. -/
def dbl (v : Int) : Nat := floatOfInt .f64 v
/-- The points at the start, the first i digits laid. -/
def stI (ds : List Int) (n i : Nat) : List P := (List.range n).map fun m => if m < i ∧ m < ds.length then ((dbl (ds.getD m 0), 0), 0) else p0
def start (ds : List Int) (n : Nat) : List P := stI ds n n
theorem stI_length (ds : List Int) (n i : Nat) : (stI ds n i).length = n := by simp [stI]
theorem stI_get (ds : List Int) (n i m : Nat) (h : m < n) : (stI ds n i).getD m p0 = if m < i ∧ m < ds.length then ((dbl (ds.getD m 0), 0), 0) else p0 := by
  simp [stI, List.getD_eq_getElem?_getD, h]
theorem stI_zero (ds : List Int) (n : Nat) : stI ds n 0 = List.replicate n p0 := by
  apply List.ext_getElem
  · simp [stI]
  · intro i h1 h2; simp [stI]
theorem stI_set (ds : List Int) (n i : Nat) (h : i < n) (hl : i < ds.length) : (stI ds n i).set i ((dbl (ds.getD i 0), 0), ((stI ds n i).getD i p0).2) = stI ds n (i + 1) := by
  have e : ((stI ds n i).getD i p0).2 = 0 := by rw [stI_get _ _ _ _ h, if_neg (by omega)]
  rw [e]
  apply List.ext_getElem
  · simp [stI]
  · intro m h1 h2
    rw [List.getElem_set]
    simp only [stI, List.getElem_map, List.getElem_range]
    by_cases hm : i = m
    · subst hm; rw [if_pos rfl, if_pos (by omega)]
    · rw [if_neg hm]
      by_cases h3 : m < i ∧ m < ds.length
      · rw [if_pos h3, if_pos (by omega)]
      · rw [if_neg h3, if_neg (by omega)]
theorem stI_end (ds : List Int) (n i : Nat) (h : n ≤ i ∨ ds.length ≤ i) : stI ds n i = start ds n := by
  unfold start stI
  refine List.map_congr_left fun m hm => ?_
  have hm : m < n := by simpa using hm
  by_cases h3 : m < ds.length
  · rw [if_pos (by omega), if_pos (by omega)]
  · rw [if_neg (by omega), if_neg (by omega)]

theorem Pts_rep : ∀ (n m : Nat), m < n * 69 → (Pts (List.replicate n p0))[m]? = (Pc p0)[m % 69]?
  | 0, m, h => by omega
  | n + 1, m, h => by
    have : Pts (List.replicate (n + 1) p0) = Pc p0 ++ Pts (List.replicate n p0) := by unfold Pts; rw [List.replicate_succ, List.flatMap_cons]
    rw [this]
    by_cases hm : m < 69
    · rw [List.getElem?_append_left (by rw [Pc_length]; exact hm), Nat.mod_eq_of_lt hm]
    · rw [List.getElem?_append_right (by rw [Pc_length]; omega), Pc_length, Pts_rep n (m - 69) (by omega)]
      congr 1
      omega
theorem zero113a : (Takg.prog.info? 113).map (fun i => (i.zero, i.size, i.bytes)) = some (some (.agg (.complex .f64 0 0 :: List.replicate 68 (.int .u64 0)).toArray), 69, 560) := by kernel_rfl
theorem zero113 : (Takg.prog.info? 113).map (fun i => (i.zero, i.size, i.bytes)) = some (some (.agg (Pc p0).toArray), 69, 560) := by
  have : Pc p0 = .complex .f64 0 0 :: List.replicate 68 (.int .u64 0) := by unfold Pc; rw [W_zero]
  rw [this]
  exact zero113a
theorem madePts (n : Nat) : madeCells (Pc p0).toArray (n * 69) = (Pts (List.replicate n p0)).toArray := by
  apply Array.ext
  · rw [size_madeCells]; simp [Pts_length]
  · intro m h1 h2
    rw [size_madeCells] at h1
    have := Pts_rep n m h1
    have hl : (Pc p0).length = 69 := Pc_length _
    have hm : m % 69 < (Pc p0).length := by rw [hl]; omega
    have hp : m < (Pts (List.replicate n p0)).length := by simpa using h2
    rw [List.getElem?_eq_getElem hm, List.getElem?_eq_getElem hp] at this
    simp only [madeCells, Array.getElem_map, Array.getElem_range, List.size_toArray, hl]
    rw [List.getElem_toArray, Option.some.inj this]
    simp [hm]
theorem make44 (n : Nat) (hn : n ≤ 1024) (w : World) : (Instr.makeSlice 44 (.int .i64 n) (.int .i64 n)).run Takg.prog w = .ok (.slice (some ⟨w.heap.size, 0, none⟩) n n) (w.alloc (.cells (Pts (List.replicate n p0)).toArray 113)) := by
  have hz := zero113
  cases hie : Takg.prog.info? 113 with
  | none => rw [hie] at hz; cases hz
  | some i =>
    rw [hie] at hz
    simp only [Option.map_some, Option.some.injEq, Prod.mk.injEq] at hz
    obtain ⟨h1, h2, h3⟩ := hz
    rw [run_make w 44 113 i _ Takg.underlying44 hie h1 .i64 .i64 n n (by omega) (by omega) (by rw [h3]; omega) (by omega)]
    rw [h2, Int.toNat_natCast]
    show Result.ok _ (w.alloc (.cells (madeCells (Pc p0).toArray (n * 69)) 113)) = _
    rw [madePts]

set_option maxHeartbeats 1000000 in
theorem Start_any (b off cap n : Nat) (ds : List Int) (w : World) (h1 : 1 ≤ n) (hn : n ≤ 1024) (hl : ds.length ≤ 9223372036854775807) (hg : Dig w b off ds) :
    Calls Takg.prog 60 #[.slice (some ⟨b, off, none⟩) ds.length cap, .int .i64 n] w fun e w' => ∃ bx, e = .returned (.slice (some ⟨bx, 0, none⟩) n n) ∧ Hid (bx = w.heap.size) ∧ Blk w' bx 113 (Pts (start ds n)) ∧ Chg [] w w' := by
  have hmk := fun W => make44 n hn W
  go_enter Takg.func60, Takg.ntmps60
  go_wp2_with fail
  obtain ⟨bx, hbx⟩ : ∃ x, x = w.heap.size := ⟨_, rfl⟩
  have hb0 := Blk.new w (Pts (List.replicate n p0)) 113
  rw [← hbx, ← stI_zero ds n] at hb0
  have hc0 := (Chg.refl [] w).alloc (.cells (Pts (List.replicate n p0)).toArray 113)
  have hg0 := hg.alloc (.cells (Pts (List.replicate n p0)).toArray 113)
  have hlt := hg.lt
  rw [← hbx]
  rw [← stI_zero ds n] at hc0 hg0 ⊢
  have HB := hide hbx
  have hne : b ≠ bx := by omega
  clear hbx hg
  generalize w.alloc (.cells (Pts (stI ds n 0)).toArray 113) = w1 at *
  go_loopw [6] (fun v wr => ∃ i : Nat, v = .int .i64 i ∧ i ≤ n ∧ i ≤ ds.length ∧ Blk wr bx 113 (Pts (stI ds n i)) ∧ Dig wr b off ds ∧ Chg [] w wr) (fun v _ => n - (intOf v).toNat)
  case atStart => exact ⟨0, rfl, by omega, by omega, hb0, hg0, hc0⟩
  case round =>
    clear hb0 hg0 hc0 hmk
    obtain ⟨i, rfl, hi, hid, hbr, hgr, hcr⟩ := hrel
    by_cases hlt2 : i < ds.length ∧ i < n
    · obtain ⟨hl1, hl2⟩ := hlt2
      have kd := hgr.cell i hl1
      have k0 := ptZ hbr i (by rw [stI_length]; exact hl2)
      have f0 := hbr.frozen (i * 69) none
      have hz := setZ hbr i (by rw [stI_length]; exact hl2) (dbl (ds.getD i 0), 0)
      rw [stI_set ds n i hl2 hl1] at hz
      obtain ⟨v, hv⟩ : ∃ v, v = ds.getD i 0 := ⟨_, rfl⟩
      rw [← hv] at kd hz
      have HV := hide hv
      have hg2 := hgr.setNe ⟨bx, i * 69, none⟩ hne (.complex .f64 (dbl v) 0)
      have hc2 := hcr.setNew ⟨bx, i * 69, none⟩ (by have := HB.out; simp; omega) (.complex .f64 (dbl v) 0)
      clear hv
      go_wp2_with fail
      go_roundw
      case rel => exact ⟨i + 1, by go_num, by omega, by omega, hz, hg2, hc2⟩
      case measure => simp [intOf]; omega
    · have he := stI_end ds n i (by omega)
      rw [he] at hbr
      clear he
      have h3 : ds.length ≤ i ∨ n ≤ i := by omega
      clear hgr
      by_cases h4 : i < ds.length
      · go_wp2_with fail
        go_ret
        exact ⟨bx, rfl, HB, hbr, hcr⟩
      · go_wp2_with fail
        go_ret
        exact ⟨bx, rfl, HB, hbr, hcr⟩

theorem Start_nil (n : Nat) (w : World) (h1 : 1 ≤ n) (hn : n ≤ 1024) :
    Calls Takg.prog 60 #[.slice none 0 0, .int .i64 n] w fun e w' => ∃ bx, e = .returned (.slice (some ⟨bx, 0, none⟩) n n) ∧ Hid (bx = w.heap.size) ∧ Blk w' bx 113 (Pts (start [] n)) ∧ Chg [] w w' := by
  have hmk := fun W => make44 n hn W
  go_enter Takg.func60, Takg.ntmps60
  go_wp2_with fail
  obtain ⟨bx, hbx⟩ : ∃ x, x = w.heap.size := ⟨_, rfl⟩
  have hb0 := Blk.new w (Pts (List.replicate n p0)) 113
  rw [← hbx, ← stI_zero [] n, stI_end [] n 0 (Or.inr (by simp))] at hb0
  have hc0 := (Chg.refl [] w).alloc (.cells (Pts (List.replicate n p0)).toArray 113)
  rw [← hbx]
  rw [← stI_zero [] n, stI_end [] n 0 (Or.inr (by simp))] at hc0 ⊢
  have HB := hide hbx
  clear hbx
  generalize w.alloc (.cells (Pts (start [] n)).toArray 113) = w1 at *
  go_loopw [6] (fun v wr => v = .int .i64 0 ∧ wr = w1) (fun v _ => n - (intOf v).toNat)
  case atStart => exact ⟨rfl, rfl⟩
  case round =>
    obtain ⟨rfl, rfl⟩ := hrel
    go_wp2_with fail
    go_ret
    exact ⟨bx, rfl, HB, hb0, hc0⟩
end Sh
end Go.Proofs.Ygctak
