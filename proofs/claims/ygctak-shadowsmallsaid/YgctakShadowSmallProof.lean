/-
  ShadowSmallSaid: the frame is the shell that came with the seat; the walk is YgctakPt15's and YgctakPt16's.
-/
import Derived.Test.YgctakRows
import Derived.WalkKit
import Derived.ProofKit
import Derived.OpenShut
import Derived.ShutString
import Derived.ChangeOld
import Derived.Below
import Derived.Test.YgctakPt16
set_option linter.unusedSimpArgs false
namespace Go.Proofs.Ygctak.shadowSmall
open Go.ChangeShapes Go.WideShapes Go.ChangeAt Go.RowKit
open Go.ChangeMaps (open_string shut_string)
set_option linter.unusedVariables false      -- a walk need not use every 'w<i>' (that an integer argument fits its kind)

theorem own : ownKnob Takg.prog.godebug = none := by kernel_rfl

theorem walk (a0 : Int) (a1 : Int) (w0 : (Lit.int .u8 a0).wf = true) (w1 : (Lit.int .u8 a1).wf = true) (w : World) :
    Calls Takg.prog 11 #[.int .u8 a0, .int .u8 a1] w fun e w' => e = .returned (.bool true) ∧ Below w.heap.size w w' := by
  have e0 : 0 ≤ a0 ∧ a0 ≤ 255 := by simpa [Lit.wf, IntKind.min, IntKind.max, IntKind.bits, IntKind.signed] using w0
  have e1 : 0 ≤ a1 ∧ a1 ≤ 255 := by simpa [Lit.wf, IntKind.min, IntKind.max, IntKind.bits, IntKind.signed] using w1
  obtain ⟨k, rfl⟩ : ∃ k : Nat, a0 = k := ⟨a0.toNat, by omega⟩
  obtain ⟨d, rfl⟩ : ∃ d : Nat, a1 = d := ⟨a1.toNat, by omega⟩
  have key : Calls Takg.prog 11 #[.int .u8 k, .int .u8 d] w fun e w' => e = .returned (.bool true) ∧ Chg [] w w' := by
    by_cases h : 1 ≤ k ∧ k ≤ 10
    · exact Sh.law_on k d w h.1 h.2 (by omega)
    · exact Sh.law_off k d w (by omega) (by omega) h
  exact key.mono fun e w' ⟨he, hc⟩ => ⟨he, hc.below _ (Nat.le_refl _) (by simp)⟩

/-! ### THE ROW's STEP: WRITTEN OUT: LEAVE IT -/
set_option maxRecDepth 100000 in
theorem lifted (os : Os) (started : os.Started) (H : Type) (enc : TypeId × Value → H) :
    ReturnsInHanded {} Takg.checked os 11 .any (Rows.shadowSmallSpec.pre6 enc Takg.prog Takg.f11 Rows.shadowSmallRow.domain false) (Rows.shadowSmallSpec.post enc Takg.prog Takg.f11 false true false false) := by
  refine returnsInHanded_of_change (C := Takg.checked) own started (by kernel_rfl) Takg.func11
    (ChangeSpec.witness6 (enc := enc) (C := Takg.checked) false ⟨#[], #[.int .u8 0, .int .u8 0], []⟩ 8 (by kernel_rfl) (by kernel_rfl) (by kernel_rfl) (by kernel_rfl)) ?_
  intro W base args ds gs before hval0 hW hcnd _
  have hval : ∀ (j : Nat) t v, Takg.f11.params[j]? = some t → args[j]? = some v → Value.okWide Takg.prog W .any base t v := hval0
  have hW' := hW
  obtain ⟨p, q, hA0, hV, rfl, hfz, hnd⟩ := hW
  have hA : DataW.TrodAll enc Takg.prog W 0 (fun _ => true) true Takg.f11.params.toList args.toList ds p := hA0
  rw [Takg.params11] at hA hval
  obtain ⟨v0, vs0, d0, ds0, p0, q0, hargs, rfl, rfl, h0, r0⟩ := trodAll_cons hA
  obtain ⟨v1, vs1, d1, ds1, p1, q1, rfl, rfl, rfl, h1, r1⟩ := trodAll_cons r0
  obtain ⟨rfl, rfl, rfl⟩ := trodAll_nil r1
  obtain rfl : args = #[v0, v1] := by cases args; simp_all
  obtain ⟨rfl, rfl⟩ := trodVars_none hV
  obtain ⟨a0, rfl, rfl, rfl, w0⟩ := open_int Takg.underlying5 (hval 0 5 v0 rfl rfl) h0
  obtain ⟨a1, rfl, rfl, rfl, w1⟩ := open_int Takg.underlying5 (hval 1 5 v1 rfl rfl) h1
  clear hA0 hval0
  simp only [List.append_nil] at hW'
  refine (walk a0 a1 w0 w1 W).mono fun e W' ⟨he, bel⟩ => ?_
  subst he
  exact ⟨_, rfl, _, _, _, [], _, [], hW', trodAll_mk1 (shut_bool Takg.underlying4 _), (trodAll_cons_mk (shut_int Takg.underlying5 w0) (trodAll_cons_mk (shut_int Takg.underlying5 w1) trodAll_mk0)), rfl, bel.frame _, fun h => by cases h⟩

theorem over : Rows.shadowSmallRow.holds Takg.pinned (OpenSpec.ofChange Rows.shadowSmallSpec) :=
  OpenClaim.holds_of_wide 11 Takg.f11 rfl rfl rfl rfl rfl rfl rfl ⟨rfl, rfl, rfl, rfl, rfl⟩ rfl rfl rfl rfl rfl (by kernel_rfl) Takg.func11 (by kernel_rfl)
    (of_decide_eq_true (by kernel_rfl)) (by unfold Func.isWrapper; first | (rw [if_pos (by decide +kernel)]; kernel_rfl) | (rw [if_neg (by decide +kernel)]; exact ⟨rfl, rfl⟩))
    (fun os started H enc _ => lifted os started H enc)

/-- ████ THE STATEMENT ████ -/
theorem proved : Rows.ShadowSmallSaid :=
  over
#print axioms proved
end Go.Proofs.Ygctak.shadowSmall
