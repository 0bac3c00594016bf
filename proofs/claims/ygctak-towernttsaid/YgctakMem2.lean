/-
  Memory, more: make; an argument's digits.
-/
import Derived.Test.YgctakMem
import Derived.Laws.MakeOwn
namespace Go.Proofs.Ygctak
open Go.RowKit
set_option linter.unusedVariables false
set_option linter.unusedSimpArgs false

theorem madeCells_one (z : Value) (n : Nat) : madeCells #[z] n = Array.replicate n z := by
  apply Array.ext
  · simp [madeCells]
  · intro i h1 h2
    simp [madeCells, Nat.mod_one]

/-- 'make' of n elements of one cell each. -/
theorem make_run {P : Program} (t e : TypeId) (z : Value) (bytes n : Nat) (hz : z.cells = #[z]) (ht : P.underlying t = some (.slice e))
    (hi : (P.info? e).map (fun i => (i.zero, i.size, i.bytes)) = some (some z, 1, bytes)) (hn : bytes * n ≤ 281474976710656) (h63 : n ≤ 9223372036854775807) (w : World) :
    (Instr.makeSlice t (.int .i64 n) (.int .i64 n)).run P w = .ok (.slice (some ⟨w.heap.size, 0, none⟩) n n) (w.alloc (.cells (Array.replicate n z) e)) := by
  cases hie : P.info? e with
  | none => rw [hie] at hi; cases hi
  | some i =>
    rw [hie] at hi
    simp at hi
    obtain ⟨h1, h2, h3⟩ := hi
    rw [run_make w t e i z ht hie h1 .i64 .i64 n n (by omega) (by omega) (by rw [h3]; omega) (by omega)]
    rw [h2, hz, Int.toNat_natCast, Nat.mul_one, madeCells_one]

theorem Chg.cell {S : List Nat} {w w2 : World} (h : Chg S w w2) (b o : Nat) (hb : b < w.heap.size) (hn : b ∉ S) : w2.cell? ⟨b, o, none⟩ = w.cell? ⟨b, o, none⟩ :=
  World.cell?_of_block (w := w) (h.block b hb hn)

/-- The digits 'ds' lie in block 'b' from 'off' on. -/
structure Dig (w : World) (b off : Nat) (ds : List Int) : Prop where
  lt : b < w.heap.size
  cell : ∀ i, i < ds.length → w.cell? ⟨b, off + i, none⟩ = some (.int .u8 (ds.getD i 0))

theorem Chg.dig {S : List Nat} {w w2 : World} (h : Chg S w w2) {b off : Nat} {ds : List Int} (hd : Dig w b off ds) (hn : b ∉ S) : Dig w2 b off ds :=
  ⟨Nat.lt_of_lt_of_le hd.lt h.size, fun i hi => (h.cell b _ hd.lt hn).trans (hd.cell i hi)⟩

theorem Dig.setNe {w : World} {b off : Nat} {ds : List Int} (h : Dig w b off ds) (a : Addr) (hne : b ≠ a.block) (v : Value) : Dig (w.setCell a v) b off ds :=
  ⟨by simpa using h.lt, fun i hi => (World.cell?_of_block (w := w) (Below.heap_setCell _ _ _ _ hne)).trans (h.cell i hi)⟩
theorem Dig.drew {w : World} {b off : Nat} {ds : List Int} (h : Dig w b off ds) : Dig w.drew b off ds := ⟨h.lt, h.cell⟩
theorem Dig.alloc {w : World} {b off : Nat} {ds : List Int} (h : Dig w b off ds) (o : Obj) : Dig (w.alloc o) b off ds := ((Chg.refl [] w).alloc o).dig h (by simp)
theorem Blk.newRep (w : World) (n : Nat) (z : Value) (t : TypeId) : Blk (w.alloc (.cells (Array.replicate n z) t)) w.heap.size t (List.replicate n z) := by
  have := Blk.new' w (Array.replicate n z) t
  simpa using this

/-- Every digit is one. -/
def Byte (ds : List Int) : Prop := ∀ i, i < ds.length → 0 ≤ ds.getD i 0 ∧ ds.getD i 0 ≤ 255

/-- Writes to blocks that may be written, or that are new since 'a'. -/
theorem Chg.news {S T : List Nat} {a b c : World} (h : Chg T a b) (k : Chg S b c) (hs : ∀ x, x ∈ S → x ∈ T ∨ a.heap.size ≤ x) : Chg T a c :=
  ⟨k.os.trans h.os, k.tape.trans h.tape, k.output.trans h.output, Nat.le_trans h.size k.size, fun i hi hn => (k.block i (Nat.lt_of_lt_of_le hi h.size) (fun hx => by
    rcases hs i hx with h1 | h1
    · exact hn h1
    · omega)).trans (h.block i hi hn)⟩

end Go.Proofs.Ygctak
