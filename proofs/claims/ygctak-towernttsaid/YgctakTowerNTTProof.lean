/-
  TowerNTTSaid: the walk is YgctakNa33's; the product YgctakNb3's; the script YgctakNb2's.
-/
import Derived.Test.YgctakRows
import Derived.WalkKit
import Derived.ProofKit
import Derived.OpenShut
import Derived.ShutString
import Derived.ChangeOld
import Derived.Below
import Derived.Test.YgctakNb2
import Derived.Test.YgctakNb3
namespace Go.Proofs.Ygctak.towerNTT
open Go.ChangeShapes Go.WideShapes Go.ChangeAt Go.RowKit
open Go.ChangeMaps (open_string shut_string)
set_option linter.unusedVariables false

theorem own : ownKnob Takg.prog.godebug = none := by kernel_rfl
theorem laidOut : laidOutB Takg.prog = true := by kernel_rfl

theorem walk (a0 : Option Addr) (len0 cap0 : Nat) (w : World) (h : ∃ ops, Na.Scr w a0 len0 cap0 ops) (hs : 129 < len0 → (∃ b off, a0 = some ⟨b, off, none⟩) ∧ len0 ≤ cap0 ∧ cap0 ≤ 9223372036854775807) :
    Calls Takg.prog 9 #[.slice a0 len0 cap0] w fun e w' => e = .returned (.bool true) ∧ Below w.heap.size w w' :=
  (Na.towerNTT_any len0 cap0 a0 w Nb.prod3 (fun _ => h) hs).mono fun e w' ⟨he, hc⟩ => ⟨he, hc.below _ (Nat.le_refl _) (by simp)⟩

set_option maxRecDepth 100000 in
theorem lifted (os : Os) (started : os.Started) (H : Type) (enc : TypeId × Value → H) :
    ReturnsInHanded {} Takg.checked os 9 .any (Rows.towerNTTSpec.pre6 enc Takg.prog Takg.f9 Rows.towerNTTRow.domain false) (Rows.towerNTTSpec.post enc Takg.prog Takg.f9 false true false false) := by
  refine returnsInHanded_of_change (C := Takg.checked) own started (by kernel_rfl) Takg.func9
    (ChangeSpec.witness6 (enc := enc) (C := Takg.checked) false ⟨#[], #[.slice none 0 0], []⟩ 8 (by kernel_rfl) (by kernel_rfl) (by kernel_rfl) (by kernel_rfl)) ?_
  intro W base args ds gs before hval0 hW hcnd _
  have hval : ∀ (j : Nat) t v, Takg.f9.params[j]? = some t → args[j]? = some v → Value.okWide Takg.prog W .any base t v := hval0
  have hW' := hW
  obtain ⟨p, q, hA0, hV, rfl, hfz, hnd⟩ := hW
  have hA : DataW.TrodAll enc Takg.prog W 0 (fun _ => true) true Takg.f9.params.toList args.toList ds p := hA0
  rw [Takg.params9] at hA hval
  obtain ⟨v0, vs0, d0, ds0, p0, q0, hargs, rfl, rfl, h0, r0⟩ := trodAll_cons hA
  obtain ⟨rfl, rfl, rfl⟩ := trodAll_nil r0
  obtain rfl : args = #[v0] := by cases args; simp_all
  obtain ⟨rfl, rfl⟩ := trodVars_none hV
  obtain ⟨a0, len0, cap0, rfl⟩ := okWide_slice Takg.underlying40 (hval 0 40 v0 rfl rfl)
  have k0 := h0
  have lt0 : ∀ x ∈ p0, x.block < W.heap.size := by obtain ⟨m, hm⟩ := k0; exact DataW.trod_lt m _ _ _ hm
  obtain ⟨w0, w1⟩ : (∃ ops, Na.Scr W a0 len0 cap0 ops) ∧ (129 < len0 → (∃ b off, a0 = some ⟨b, off, none⟩) ∧ len0 ≤ cap0 ∧ cap0 ≤ 9223372036854775807) := by
    obtain ⟨fuel, hf⟩ := h0
    exact Nb.scr_of (by simpa [Value.cells] using hf)
  clear hA0 hval0
  refine (walk a0 len0 cap0 W w0 w1).mono fun e W' ⟨he, bel⟩ => ?_
  subst he
  exact ⟨_, rfl, _, _, _, [], _, [], hW', trodAll_mk1 (shut_bool Takg.underlying4 _), (trodAll_cons_mk (Below.trod laidOut (by kernel_rfl) (of_decide_eq_true (by kernel_rfl)) k0 bel lt0) trodAll_mk0), rfl, bel.frame _, fun h => by cases h⟩

theorem over : Rows.towerNTTRow.holds Takg.pinned (OpenSpec.ofChange Rows.towerNTTSpec) :=
  OpenClaim.holds_of_wide 9 Takg.f9 rfl rfl rfl rfl rfl rfl rfl ⟨rfl, rfl, rfl, rfl, rfl⟩ rfl rfl rfl rfl rfl (by kernel_rfl) Takg.func9 (by kernel_rfl)
    (of_decide_eq_true (by kernel_rfl)) (by unfold Func.isWrapper; first | (rw [if_pos (by decide +kernel)]; kernel_rfl) | (rw [if_neg (by decide +kernel)]; exact ⟨rfl, rfl⟩))
    (fun os started H enc _ => lifted os started H enc)

/-- ████ THE STATEMENT ████ -/
theorem proved : Rows.TowerNTTSaid := over
#print axioms proved
end Go.Proofs.Ygctak.towerNTT
