/-
  Walks: fft.level, fft.fits, fft.points.
-/
import Derived.Test.YgctakHo13
import Derived.Test.YgctakHo15
namespace Go.Proofs.Ygctak
open Go.RowKit
set_option linter.unusedVariables false
set_option linter.unusedSimpArgs false
attribute [local go_sem ↓] Go.wp_at_zero Go.wp_at_succ
attribute [local go_sem] Fl.run_store_complex Fl.run_store_float
namespace Fr
open Ac Fl Sh Ex

/-- A row of complex numbers. -/
def Zl (n : Nat) (f : Nat → Nat × Nat) : List (Nat × Nat) := (List.range n).map f
theorem Zl_length (n : Nat) (f : Nat → Nat × Nat) : (Zl n f).length = n := by simp [Zl]
theorem Zl_get (n : Nat) (f : Nat → Nat × Nat) (i : Nat) (h : i < n) : (Zl n f).getD i (0, 0) = f i := by
  simp only [Zl, List.getD_eq_getElem?_getD, List.getElem?_map, List.getElem?_range h, Option.map_some, Option.getD_some]
theorem Zl_congr {n : Nat} {f g : Nat → Nat × Nat} (h : ∀ i, i < n → f i = g i) : Zl n f = Zl n g := List.map_congr_left fun i hi => h i (by simpa using hi)
theorem Zl_set (n : Nat) (f : Nat → Nat × Nat) (i : Nat) (v : Nat × Nat) : (Zl n f).set i v = Zl n (fun m => if m = i then v else f m) := by
  apply List.ext_getElem
  · simp [Zl]
  · intro m h1 h2
    rw [List.getElem_set]
    simp only [Zl, List.getElem_map, List.getElem_range]
    by_cases e : i = m
    · rw [if_pos e, if_pos e.symm]
    · rw [if_neg e, if_neg (Ne.symm e)]
theorem Zl_of (T : List (Nat × Nat)) : T = Zl T.length (fun i => T.getD i (0, 0)) := by
  apply List.ext_getElem
  · simp [Zl]
  · intro m h1 h2
    simp [Zl, List.getD_eq_getElem?_getD, h1]
theorem Zl_rep (n : Nat) : List.replicate n (Value.complex .f64 0 0) = C (Zl n fun _ => (0, 0)) := by
  unfold C Zl
  rw [List.map_map]
  apply List.ext_getElem
  · simp
  · intro m h1 h2; simp
theorem Zl_cell {w : World} {b t n : Nat} {f : Nat → Nat × Nat} (h : Blk w b t (C (Zl n f))) (i : Nat) (hi : i < n) : w.cell? ⟨b, i, none⟩ = some (.complex .f64 (f i).1 (f i).2) := by
  have := h.cell i _ (C_get _ i (by rw [Zl_length]; exact hi))
  rw [Zl_get _ _ _ hi] at this
  exact this
theorem Zl_setB {w : World} {b t n : Nat} {f : Nat → Nat × Nat} (h : Blk w b t (C (Zl n f))) (i : Nat) (v : Nat × Nat) : Blk (w.setCell ⟨b, i, none⟩ (.complex .f64 v.1 v.2)) b t (C (Zl n fun m => if m = i then v else f m)) := by
  have := h.set i (.complex .f64 v.1 v.2)
  rw [C_set, Zl_set] at this
  exact this

theorem level_any (k : Nat) (w : World) (h0 : k ≤ 11) :
    Calls Takg.prog 142 #[.int .i64 ((2 ^ k : Nat) : Int)] w fun e w' => e = .returned (.int .i64 k) ∧ w' = w := by
  obtain ⟨n, hn⟩ : ∃ n, n = 2 ^ k := ⟨_, rfl⟩
  rw [← hn]
  have HN := hide hn
  clear hn
  have hwrap : ∀ m : Nat, m ≤ k → wrap64 (2 ^ m) = ((2 ^ m : Nat) : Int) := fun m hm => by
    have h1 : 2 ^ m ≤ 2 ^ 11 := Nat.pow_le_pow_right (n := 2) (by omega) (by omega)
    have h2 : (2 ^ m : Int) = ((2 ^ m : Nat) : Int) := (ipow _).symm
    rw [h2]
    generalize 2 ^ m = A at *
    unfold wrap64
    omega
  have HW := hide hwrap
  clear hwrap
  go_enter Takg.func142, Takg.ntmps142
  go_wp2_with fail
  go_loop [3] (fun i => ∃ m : Nat, m ≤ k ∧ i = .int .i64 m) (fun i => 12 - (intOf i).toNat)
  case atStart => exact ⟨0, by omega, rfl⟩
  case round =>
    obtain ⟨m, hm, rfl⟩ := hrel
    by_cases hlt : m < k
    · have hne : ((n : Int) == wrap64 (2 ^ m)) = false := by
        rw [HW.out m hm, HN.out, beq_eq_false_iff_ne]
        have := Nat.pow_lt_pow_right (a := 2) (by omega) hlt
        omega
      go_wp2
      go_round
      case rel => exact ⟨m + 1, by omega, by go_num⟩
      case measure => simp [intOf]; omega
    · have hk : m = k := by omega
      subst hk
      have hne : ((n : Int) == wrap64 (2 ^ m)) = true := by
        rw [HW.out m hm, HN.out]
        simp
      go_wp2
      go_ret
      exact ⟨rfl, rfl⟩

theorem fits_any (k : Nat) (w : World) (h0 : 1 ≤ k) (h1 : k ≤ 10) :
    Calls Takg.prog 140 #[.int .i64 ((2 ^ k : Nat) : Int), .int .i64 ((2 ^ (k - 1) : Nat) : Int)] w fun e w' => e = .returned (.bool true) ∧ w' = w := by
  have HL := hide (fun W => level_any k W (by omega))
  have hnn : 2 ^ k = 2 * 2 ^ (k - 1) := by rw [← Nat.pow_succ']; congr 1; omega
  have hn2 : 2 ^ k ≤ 1024 := Nat.le_trans (Nat.pow_le_pow_right (n := 2) (by omega) h1) (by decide)
  obtain ⟨n, en⟩ : ∃ n, n = 2 ^ k := ⟨_, rfl⟩
  obtain ⟨h, eh⟩ : ∃ n, n = 2 ^ (k - 1) := ⟨_, rfl⟩
  rw [← en, ← eh] at hnn
  rw [← en] at HL hn2 ⊢
  rw [← eh]
  clear en eh
  have hb : ((n : Int) == 2 * (h : Int)) = true := by rw [beq_iff_eq]; omega
  have hle : 2 * h ≤ 1024 := by omega
  clear hnn
  go_enter Takg.func140, Takg.ntmps140
  go_wp2_with fail
  refine (HL.out _).mono ?_
  rintro e w' ⟨rfl, rfl⟩
  go_wp2_with fail
  go_ret
  exact ⟨rfl, rfl⟩

/-- The points laid. -/
def pnt (ds : List Int) (m : Nat) : Nat × Nat := if m < ds.length then (dbl (Ft.dg ds m), 0) else (0, 0)

set_option maxHeartbeats 1000000 in
theorem points_any (bd off cap n : Nat) (ds : List Int) (w : World) (hn : n ≤ 1024) (hl : ds.length ≤ n) (hg : Dig w bd off ds) :
    Calls Takg.prog 111 #[.slice (some ⟨bd, off, none⟩) ds.length cap, .int .i64 n] w fun e w' => ∃ bx, e = .returned (.slice (some ⟨bx, 0, none⟩) n n) ∧ Hid (bx = w.heap.size) ∧ Blk w' bx 103 (C (Zl n (pnt ds))) ∧ Chg [] w w' := by
  have hmk := make_run (P := Takg.prog) 46 103 (.complex .f64 0 0) 16 n rfl Takg.underlying46 info103 (by omega) (by omega)
  go_enter Takg.func111, Takg.ntmps111
  go_upto_region 2 with fail
  clear hmk
  obtain ⟨b, hbb⟩ : ∃ b, b = w.heap.size := ⟨_, rfl⟩
  have hbn := Blk.newRep w n (Value.complex .f64 0 0) 103
  have hch := (Chg.refl [] w).alloc (.cells (Array.replicate n (Value.complex .f64 0 0)) 103)
  have hg1 := hg.alloc (.cells (Array.replicate n (Value.complex .f64 0 0)) 103)
  rw [← hbb] at hbn ⊢
  have nbb : bd ≠ b := by have := hg.lt; omega
  have gb : w.heap.size ≤ b := by omega
  have HB := hide hbb
  clear hbb hg
  rw [Zl_rep] at hbn
  generalize w.alloc (.cells (Array.replicate n (Value.complex .f64 0 0)) 103) = w1 at *
  go_wp2_with fail
  go_loopw [6] (fun v wr => ∃ i : Nat, v = .int .i64 i ∧ i ≤ ds.length ∧ Dig wr bd off ds ∧ Blk wr b 103 (C (Zl n fun m => if m < i then pnt ds m else (0, 0))) ∧ Chg [] w wr) (fun v _ => n - (intOf v).toNat)
  case atStart => exact ⟨0, rfl, by omega, hg1, by simpa using hbn, hch⟩
  case round =>
    clear hg1 hbn hch
    obtain ⟨i, rfl, hi, hgr, hbr, hcr⟩ := hrel
    by_cases hil : i < ds.length
    · have kd := hgr.cell i hil
      have k0 := Zl_cell hbr i (by omega)
      have f0 := hbr.frozen i none
      obtain ⟨v, hv⟩ : ∃ v, v = ds.getD i 0 := ⟨_, rfl⟩
      have V1 := Zl_setB hbr i (dbl v, 0)
      have e1 : Zl n (fun m => if m = i then (dbl v, 0) else if m < i then pnt ds m else (0, 0)) = Zl n (fun m => if m < i + 1 then pnt ds m else (0, 0)) := Zl_congr fun m _ => by
        by_cases e : m = i
        · subst e
          rw [if_pos rfl, if_pos (by omega)]
          unfold pnt Ft.dg
          rw [if_pos hil, ← hv]
        · rw [if_neg e]
          by_cases e2 : m < i
          · rw [if_pos e2, if_pos (by omega)]
          · rw [if_neg e2, if_neg (by omega)]
      rw [e1] at V1
      rw [← hv] at kd
      obtain ⟨⟨d1, d2⟩, hdd⟩ : ∃ z, z = (if i < i then pnt ds i else (0, 0)) := ⟨_, rfl⟩
      rw [← hdd] at k0
      have V2 := hgr.setNe ⟨b, i, none⟩ nbb (.complex .f64 (dbl v) 0)
      have V3 := hcr.setNew ⟨b, i, none⟩ gb (.complex .f64 (dbl v) 0)
      clear e1 hv hdd
      go_wp2_with fail
      go_roundw
      case rel => exact ⟨i + 1, by go_num, by omega, V2, V1, V3⟩
      case measure => simp [intOf]; omega
    · have hie : i = ds.length := by omega
      subst hie
      have e1 : Zl n (fun m => if m < ds.length then pnt ds m else (0, 0)) = Zl n (pnt ds) := Zl_congr fun m _ => by
        by_cases e : m < ds.length
        · rw [if_pos e]
        · rw [if_neg e]; unfold pnt; rw [if_neg e]
      rw [e1] at hbr
      clear e1
      go_wp2_with fail
      go_ret
      exact ⟨b, rfl, HB, hbr, hcr⟩
end Fr
end Go.Proofs.Ygctak
