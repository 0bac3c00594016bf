/-
  Rows of exact points: 136 words each.
-/
import Derived.Test.YgctakPt5
namespace Go.Proofs.Ygctak
open Go.RowKit
set_option linter.unusedVariables false
set_option linter.unusedSimpArgs false
attribute [local go_sem ↓] Go.wp_at_zero Go.wp_at_succ
namespace Ex
open Ac Fl Sh

/-- An exact point. -/
abbrev Q := Int × Int
abbrev q0 : Q := (0, 0)
def Cc (p : Q) : List Value := W p.1 ++ W p.2
def Cs (x : List Q) : List Value := x.flatMap Cc

theorem Cc_length (p : Q) : (Cc p).length = 136 := by simp [Cc, W_length]
theorem Cs_length : ∀ x : List Q, (Cs x).length = x.length * 136
  | [] => rfl
  | p :: x => by
    have := Cs_length x
    unfold Cs at *
    rw [List.flatMap_cons, List.length_append, Cc_length, this, List.length_cons]; omega
theorem Cs_append (x y : List Q) : Cs (x ++ y) = Cs x ++ Cs y := by simp [Cs]
theorem Cs_one (p : Q) : Cs [p] = Cc p := by simp [Cs]

theorem qsplit (x : List Q) (i : Nat) (h : i < x.length) : x = x.take i ++ [x.getD i q0] ++ x.drop (i + 1) := by
  simp [List.getD_eq_getElem?_getD, List.getElem?_eq_getElem h]
theorem qset (x : List Q) (i : Nat) (p : Q) (h : i < x.length) : x.set i p = x.take i ++ [p] ++ x.drop (i + 1) := by
  simp [List.set_eq_take_append_cons_drop, h]
theorem qget_set (x : List Q) (i m : Nat) (p : Q) (h : m < x.length) : (x.set i p).getD m q0 = if i = m then p else x.getD m q0 := by
  rw [List.getD_eq_getElem?_getD, List.getElem?_set]
  by_cases e : i = m
  · subst e; simp [h]
  · rw [if_neg e, if_neg e, List.getD_eq_getElem?_getD]

theorem ce {w : World} {b t : Nat} {x : List Q} (h : Blk w b t (Cs x)) (i : Nat) (hi : i < x.length) :
    At w b (i * 136) t (Cs (x.take i)) (Cc (x.getD i q0)) (Cs (x.drop (i + 1))) := by
  refine ⟨?_, ?_⟩
  · rw [Cs_length, List.length_take, Nat.min_eq_left (by omega)]
  · rw [← Cs_one, ← Cs_append, ← Cs_append, ← qsplit x i hi]; exact h
theorem unce {w : World} {b t : Nat} {x : List Q} {p : Q} (i : Nat) (hi : i < x.length) (h : At w b (i * 136) t (Cs (x.take i)) (Cc p) (Cs (x.drop (i + 1)))) : Blk w b t (Cs (x.set i p)) := by
  have := h.blk
  rw [← Cs_one, ← Cs_append, ← Cs_append, ← qset x i p hi] at this
  exact this
/-- The real part. -/
theorem cre {w : World} {b t : Nat} {x : List Q} (h : Blk w b t (Cs x)) (i : Nat) (hi : i < x.length) :
    At w b (i * 136) t (Cs (x.take i)) (W (x.getD i q0).1) (W (x.getD i q0).2 ++ Cs (x.drop (i + 1))) := by
  have := ce h i hi
  exact ⟨this.off, by have := this.blk; unfold Cc at this; simpa using this⟩
theorem cim {w : World} {b t : Nat} {x : List Q} (h : Blk w b t (Cs x)) (i : Nat) (hi : i < x.length) :
    At w b (i * 136 + 68) t (Cs (x.take i) ++ W (x.getD i q0).1) (W (x.getD i q0).2) (Cs (x.drop (i + 1))) := by
  have := ce h i hi
  exact ⟨by rw [List.length_append, W_length, this.off], by have := this.blk; unfold Cc at this; simpa using this⟩
theorem unre {w : World} {b t : Nat} {x : List Q} (i : Nat) (hi : i < x.length) {r m : Int} (h : At w b (i * 136) t (Cs (x.take i)) (W r) (W m ++ Cs (x.drop (i + 1)))) : Blk w b t (Cs (x.set i (r, m))) :=
  unce i hi ⟨h.off, by have := h.blk; unfold Cc; simpa using this⟩
theorem unim {w : World} {b t : Nat} {x : List Q} (i : Nat) (hi : i < x.length) {r m : Int} (h : At w b (i * 136 + 68) t (Cs (x.take i) ++ W r) (W m) (Cs (x.drop (i + 1)))) : Blk w b t (Cs (x.set i (r, m))) := by
  refine unce i hi ⟨?_, by have := h.blk; unfold Cc; simpa using this⟩
  have := h.off
  rw [List.length_append, W_length] at this
  omega

theorem info119 : (Takg.prog.info? 119).map (·.size) = some 136 := by kernel_rfl
theorem Cc_one (p : Q) : (Cc p).toArray.all (·.oneCell') = true := by
  unfold Cc
  have h1 := Wd_one (word p.1)
  have h2 := Wd_one (word p.2)
  rw [List.all_toArray] at *
  rw [List.all_append]
  unfold W
  rw [h1, h2]
  rfl

set_option maxRecDepth 100000 in
theorem Cs_rep : ∀ (n m : Nat), m < n * 136 → (Cs (List.replicate n q0))[m]? = (Cc q0)[m % 136]?
  | 0, m, h => by omega
  | n + 1, m, h => by
    have : Cs (List.replicate (n + 1) q0) = Cc q0 ++ Cs (List.replicate n q0) := by unfold Cs; rw [List.replicate_succ, List.flatMap_cons]
    rw [this]
    by_cases hm : m < 136
    · rw [List.getElem?_append_left (by rw [Cc_length]; exact hm), Nat.mod_eq_of_lt hm]
    · rw [List.getElem?_append_right (by rw [Cc_length]; omega), Cc_length, Cs_rep n (m - 136) (by omega)]
      congr 1
      omega
theorem zero119a : (Takg.prog.info? 119).map (fun i => (i.zero, i.size, i.bytes)) = some (some (.agg (List.replicate 136 (.int .u64 0)).toArray), 136, 1088) := by kernel_rfl
theorem zero119 : (Takg.prog.info? 119).map (fun i => (i.zero, i.size, i.bytes)) = some (some (.agg (Cc q0).toArray), 136, 1088) := by
  have : Cc q0 = List.replicate 136 (.int .u64 0) := by unfold Cc; rw [W_zero]; rfl
  rw [this]
  exact zero119a
set_option maxRecDepth 100000 in
theorem madeCs (n : Nat) : madeCells (Cc q0).toArray (n * 136) = (Cs (List.replicate n q0)).toArray := by
  apply Array.ext
  · rw [size_madeCells]; simp [Cs_length]
  · intro m h1 h2
    rw [size_madeCells] at h1
    have := Cs_rep n m h1
    have hl : (Cc q0).length = 136 := Cc_length _
    have hm : m % 136 < (Cc q0).length := by rw [hl]; omega
    have hp : m < (Cs (List.replicate n q0)).length := by simpa using h2
    rw [List.getElem?_eq_getElem hm, List.getElem?_eq_getElem hp] at this
    simp only [madeCells, Array.getElem_map, Array.getElem_range, List.size_toArray, hl]
    rw [List.getElem_toArray, Option.some.inj this]
    simp [hm]
theorem make48 (n : Nat) (hn : n ≤ 1024) (w : World) : (Instr.makeSlice 48 (.int .i64 n) (.int .i64 n)).run Takg.prog w = .ok (.slice (some ⟨w.heap.size, 0, none⟩) n n) (w.alloc (.cells (Cs (List.replicate n q0)).toArray 119)) := by
  have hz := zero119
  cases hie : Takg.prog.info? 119 with
  | none => rw [hie] at hz; cases hz
  | some i =>
    rw [hie] at hz
    simp only [Option.map_some, Option.some.injEq, Prod.mk.injEq] at hz
    obtain ⟨h1, h2, h3⟩ := hz
    rw [run_make w 48 119 i _ Takg.underlying48 hie h1 .i64 .i64 n n (by omega) (by omega) (by rw [h3]; omega) (by omega)]
    rw [h2, Int.toNat_natCast]
    show Result.ok _ (w.alloc (.cells (madeCells (Cc q0).toArray (n * 136)) 119)) = _
    rw [madeCs]
end Ex
end Go.Proofs.Ygctak
