/-
  The script that came in: opened.
-/
import Derived.Test.YgctakNa33
import Derived.Test.YgctakNb1
import Derived.ProofKit
import Derived.Deep.SlicePairs
namespace Go.Proofs.Ygctak
open Go.RowKit Go.ChangeShapes Go.WideShapes Go.ChangeAt
set_option linter.unusedVariables false
set_option linter.unusedSimpArgs false
namespace Nb
open Na

theorem cval_small (f : Nat → Nat) (h : ∀ j, f j < 256) : ∀ n, cval f n < 256 ^ n
  | 0 => by rw [cval]; decide
  | n + 1 => by
    rw [cval, Nat.pow_succ]
    have h1 := cval_small f h n
    have h2 := Nat.mul_le_mul_right (256 ^ n) (show f n ≤ 255 by have := h n; omega)
    omega
theorem cval_digit (f : Nat → Nat) (h : ∀ j, f j < 256) {n j : Nat} (hj : j < n) : dgt (cval f n) j = f j := by
  have := cval_dgt f j (n - (j + 1))
  rw [show j + 1 + (n - (j + 1)) = n by omega] at this
  rw [this]
  unfold ov
  rw [Nat.div_eq_of_lt (cval_small f h j), Nat.zero_add, Nat.mod_eq_of_lt (h j)]

theorem addr_plain {w : World} {x : Addr} {v : Value} (h : w.cell? (x.add 0) = some v) : ∃ b off, x = ⟨b, off, none⟩ ∧ b < w.heap.size := by
  obtain ⟨b, off, spot⟩ := x
  have hs : spot = none := by
    cases spot with
    | none => rfl
    | some s => simp [Addr.add, World.cell?] at h; split at h <;> simp_all
  subst hs
  refine ⟨b, off, rfl, ?_⟩
  have := World.block_lt_of_cell? (h := h)
  rw [addr_add] at this
  exact this

/-- The argument of an operation. -/
theorem arg_of {H : Type} {enc : TypeId × Value → H} {w : World} {base fuel : Nat} {held : Bool} {v : Value} {y : DataW H × List MemPlace} (h : DataW.trod enc Takg.prog w base (fun _ => true) held fuel 22 [v] = some y) :
    ∃ aa na ca u, v = .slice aa na ca ∧ Arg w aa na ca u := by
  rcases open_ints Takg.underlying22 Takg.underlying5 (by kernel_rfl) h with ⟨hcs, _⟩ | ⟨x, l, c, zs, hcs, _, hl, hm, hz, _, hcell, hwz⟩
  · refine ⟨none, 0, 0, 0, by simpa using hcs, ⟨by omega, by omega, fun _ => ⟨rfl, rfl⟩, fun h => by omega, by simp, .inl rfl⟩⟩
  · have hz : zs.length = c := by simpa using hz
    refine ⟨some x, l, c, cval (fun j => (zs.getD j 0).toNat) (min l 512), by simpa using hcs, ?_⟩
    have hby : ∀ j, 0 ≤ zs.getD j 0 ∧ zs.getD j 0 ≤ 255 := fun j => by
      rcases Nat.lt_or_ge j zs.length with hj | hj
      · have := hwz zs[j] (List.getElem_mem hj)
        have e1 : zs.getD j 0 = zs[j] := by simp [hj]
        rw [e1]
        simpa [Lit.wf, IntKind.min, IntKind.max, IntKind.bits, IntKind.signed] using this
      · have e1 : zs.getD j 0 = 0 := by rw [List.getD_eq_getElem?_getD, List.getElem?_eq_none hj]; rfl
        rw [e1]; omega
    have hb2 : ∀ j, (fun j => (zs.getD j 0).toNat) j < 256 := fun j => by
      have := hby j
      show (zs.getD j 0).toNat < 256
      omega
    refine ⟨hl, by unfold maxLen at hm; omega, (fun h => by cases h), fun hb => ?_, cval_small _ hb2 _, ?_⟩
    · obtain ⟨b, off, e, _⟩ := addr_plain (hcell 0 (by omega))
      exact ⟨b, off, by rw [e]⟩
    · by_cases h0 : min l 512 = 0
      · exact .inl h0
      · obtain ⟨b, off, e, hbl⟩ := addr_plain (hcell 0 (by omega))
        subst e
        refine .inr ⟨b, off, rfl, hbl, fun j hj => ?_⟩
        have := hcell j (by omega)
        rw [addr_add] at this
        rw [this, cval_digit _ hb2 hj]
        have := hby j
        congr 2
        omega

theorem cells95 : Takg.prog.cellsOf 95 = 2 := by kernel_rfl
theorem cells5 : Takg.prog.cellsOf 5 = 1 := by kernel_rfl
theorem cells22 : Takg.prog.cellsOf 22 = 1 := by kernel_rfl

/-- The script. -/
theorem scr_of {H : Type} {enc : TypeId × Value → H} {w : World} {base fuel : Nat} {held : Bool} {sa : Option Addr} {n cap : Nat} {y : DataW H × List MemPlace} (h : DataW.trod enc Takg.prog w base (fun _ => true) held fuel 40 [.slice sa n cap] = some y) :
    (∃ ops, Scr w sa n cap ops) ∧ (129 < n → (∃ b off, sa = some ⟨b, off, none⟩) ∧ n ≤ cap ∧ cap ≤ 9223372036854775807) := by
  rcases Go.Deep.open_slice_pairs Takg.underlying40 Takg.underlying95 cells95 rfl rfl cells5 cells22 h with ⟨hcs, _⟩ | ⟨x, l, c, m, k, V0, V1, D0, D1, P0, P1, hcs, _, hl, hm, hmm, _, hx⟩
  · simp at hcs
    obtain ⟨rfl, rfl, rfl⟩ := hcs
    exact ⟨⟨[], rfl, by omega, by omega, fun i o ho => by simp at ho⟩, fun h => by omega⟩
  · simp at hcs
    obtain ⟨rfl, rfl, rfl⟩ := hcs
    have hmm : m = cap := by simpa using hmm
    subst hmm
    have hc2 : m ≤ 9223372036854775807 := by unfold maxLen at hm; omega
    have each : ∀ i, i < n → ∃ o : Nat × Nat, ∃ b off aa na ca, some x = some (⟨b, off, none⟩ : Addr) ∧ b < w.heap.size ∧ w.cell? ⟨b, off + i * 2, none⟩ = some (.int .u8 (o.1 : Nat)) ∧ w.cell? ⟨b, off + i * 2 + 1, none⟩ = some (.slice aa na ca) ∧ Arg w aa na ca o.2 ∧ o.1 < 256 := fun i hi => by
      obtain ⟨c0, c1, t0, t1⟩ := hx i (by omega)
      obtain ⟨kd, e0, _, hwf⟩ := DataW.trod_int Takg.underlying5 t0
      have e0 : V0 i = .int .u8 kd := by simpa using e0
      obtain ⟨aa, na, ca, u, e1, hA⟩ := arg_of t1
      obtain ⟨b, off, e, hbl⟩ := addr_plain (by have := (hx 0 (by omega)).1; rwa [Nat.zero_mul] at this)
      subst e
      rw [addr_add] at c0 c1
      have hk : 0 ≤ kd ∧ kd ≤ 255 := by simpa [Lit.wf, IntKind.min, IntKind.max, IntKind.bits, IntKind.signed] using hwf
      refine ⟨(kd.toNat, u), b, off, aa, na, ca, rfl, hbl, ?_, ?_, hA, by show kd.toNat < 256; omega⟩
      · rw [c0, e0]
        show some (Value.int .u8 kd) = some (Value.int .u8 ((kd.toNat : Nat) : Int))
        rw [Int.toNat_of_nonneg hk.1]
      · rw [← Nat.add_assoc] at c1
        rw [c1, e1]
    obtain ⟨f, hf⟩ := Go.Deep.choose_lt each
    refine ⟨⟨(List.range n).map f, by simp, hl, hc2, fun i o ho => ?_⟩, fun h => ⟨?_, hl, hc2⟩⟩
    · rw [List.getElem?_map] at ho
      rcases Nat.lt_or_ge i n with hi | hi
      · rw [List.getElem?_range hi] at ho
        have : f i = o := by simpa using ho
        rw [← this]
        exact hf i hi
      · rw [List.getElem?_eq_none (by simpa using hi)] at ho
        simp at ho
    · obtain ⟨b, off, aa, na, ca, e, _⟩ := hf 0 (by omega)
      exact ⟨b, off, e⟩
end Nb
end Go.Proofs.Ygctak
