/-
  FsumRight3CardSaid: the row, and the tied card. The walk is YgctakDoorLw3's.
-/
import Derived.Test.YgctakDoorTie
import Derived.Test.YgctakDoorCards
import Derived.Test.YgctakDoorLw3
import Derived.WalkKit
import Derived.ProofKit
import Derived.OpenShut
import Derived.Lay
import Derived.SevenTiedAt
namespace Go.Proofs.YgctakDoor.fsumRight3
open Go.ChangeShapes Go.WideShapes Go.ChangeAt Go.RowKit
set_option linter.unusedVariables false
set_option linter.unusedSimpArgs false

theorem own : ownKnob Takg.prog.godebug = none := by kernel_rfl
theorem named : Takg.prog.globalNamed "math/bits.deBruijn64tab" = some 1 := by kernel_rfl
theorem typed : (Takg.prog.globals[1]?).map (·.type) = some 66 := by kernel_rfl
theorem cells5 : Takg.prog.cellsOf 5 = 1 := by kernel_rfl

/-- What the listed variable gives a walk: the table's cells. -/
theorem tab_of_laid {W : World} (h : laidMetH Takg.prog Rows.fsumRight3Row.laid W) : Bt.Tab W := by
  have h' : laidMet Takg.prog [("math/bits.deBruijn64tab", Rows.laid_math_bits_deBruijn64tab)] W := h
  obtain ⟨ps, ⟨g, t, cs, fuel, p, q, e1, e2, e3, e4, _⟩, _⟩ := h'
  obtain rfl := Option.some.inj (named.symm.trans e1)
  obtain rfl := Option.some.inj (typed.symm.trans e2)
  obtain ⟨xs, m, _, hx, _, hl, hf⟩ := DataW.trod_array Takg.underlying66 e4
  have hd : xs.map (·.1) = Bt.tab.map fun (n : Nat) => DataW.lit (.int .u8 (n : Int)) := by
    have h1 := congrArg Prod.fst hx
    simp only [Rows.laid_math_bits_deBruijn64tab, DataW.agg.injEq] at h1
    rw [← h1]
    rfl
  have hcell : ∀ j, j < 64 → W.cell? ⟨1, j, none⟩ = some (.int .u8 (Bt.tab.getD j 0 : Nat)) := by
    intro j hj
    have h1 := hf j hj
    rw [cells5, Nat.mul_one] at h1
    have hjl : j < xs.length := by omega
    rw [List.getElem?_eq_getElem hjl] at h1
    obtain ⟨n, hc, he, _⟩ := DataW.trod_int Takg.underlying5 h1
    have h2 : (xs.map (·.1))[j]? = some (xs[j].1) := by simp [hjl]
    rw [hd, he] at h2
    have htl : j < Bt.tab.length := by have : Bt.tab.length = 64 := by decide
                                       omega
    rw [List.getElem?_map, List.getElem?_eq_getElem htl] at h2
    simp only [Option.map_some, Option.some.injEq, DataW.lit.injEq, Lit.int.injEq, true_and] at h2
    rw [World.var?_cell named e3 j]
    have h3 : cs.toList[j]? = some (.int .u8 n) := by
      have := congrArg (fun l : List Value => l[0]?) hc
      simpa using this
    rw [Array.getElem?_toList] at h3
    rw [h3, ← h2, List.getD_eq_getElem?_getD, List.getElem?_eq_getElem htl]
    rfl
  exact ⟨World.block_lt_of_cell? (h := hcell 0 (by decide)), hcell⟩

theorem walk (a0 a1 a2 : Int) (w0 : (Lit.int .u64 a0).wf = true) (w1 : (Lit.int .u64 a1).wf = true) (w2 : (Lit.int .u64 a2).wf = true) (w : World) (ht : Bt.Tab w) :
    Calls Takg.prog 4 #[.int .u64 a0, .int .u64 a1, .int .u64 a2] w fun e w' => e = .returned (.bool true) ∧ Below w.heap.size w w' := by
  have e0 : 0 ≤ a0 ∧ a0 ≤ 18446744073709551615 := by simpa [Lit.wf, IntKind.min, IntKind.max, IntKind.bits, IntKind.signed] using w0
  have e1 : 0 ≤ a1 ∧ a1 ≤ 18446744073709551615 := by simpa [Lit.wf, IntKind.min, IntKind.max, IntKind.bits, IntKind.signed] using w1
  have e2 : 0 ≤ a2 ∧ a2 ≤ 18446744073709551615 := by simpa [Lit.wf, IntKind.min, IntKind.max, IntKind.bits, IntKind.signed] using w2
  obtain ⟨a, rfl⟩ : ∃ k : Nat, a0 = k := ⟨a0.toNat, by omega⟩
  obtain ⟨b, rfl⟩ : ∃ k : Nat, a1 = k := ⟨a1.toNat, by omega⟩
  obtain ⟨c, rfl⟩ : ∃ k : Nat, a2 = k := ⟨a2.toNat, by omega⟩
  exact (Lw.FsumRight3_any a b c w (by omega) (by omega) (by omega) ht).mono fun e w' ⟨he, hc⟩ => ⟨he, hc.below _ (Nat.le_refl _) (by simp)⟩

set_option maxRecDepth 100000 in
theorem lifted (os : Os) (started : os.Started) (H : Type) (enc : TypeId × Value → H) :
    ReturnsInHanded {} Takg.checked os 4 .any (fun w args => (Rows.fsumRight3Spec.pre enc Takg.prog Takg.f4 [] false w args ∧ laidMetH Takg.prog Rows.fsumRight3Row.laid w) ∧ sizedMet enc Takg.prog Takg.f4 (OpenSpec.ofChange Rows.fsumRight3Spec) false w args)
      (Rows.fsumRight3Spec.post enc Takg.prog Takg.f4 false true false false) := by
  refine returnsInHanded_of_change_and (C := Takg.checked) (X := fun w _ => laidMetH Takg.prog Rows.fsumRight3Row.laid w) (fun _ _ _ hh h => h.of_heap hh) own started (by kernel_rfl) Takg.func4
    (ChangeSpec.witness_shaped (enc := enc) (C := Takg.checked) (os := os) (X := fun w _ => laidMetH Takg.prog Rows.fsumRight3Row.laid w) false (World.laidAll Takg.prog os Rows.fsumRight3Row.laid) #[.int .u64 0, .int .u64 0, .int .u64 0] 8 (World.laidAll_os _ _ _)
      (World.shaped_of_ZipB (by kernel_rfl) (by kernel_rfl)) (by kernel_rfl) (by kernel_rfl) (by kernel_rfl)
      (by rw [MakeChecks.laidMetH_plain _ _ _ (by kernel_rfl)]; exact laidMet_laidAll _ (by kernel_rfl) (by kernel_rfl))) ?_
  intro W base args ds gs before hval0 hW _ _ hL _
  have hval : ∀ (j : Nat) t v, Takg.f4.params[j]? = some t → args[j]? = some v → Value.okWide Takg.prog W .any base t v := hval0
  have hW' := hW
  obtain ⟨p, q, hA0, hV, rfl, _, _⟩ := hW
  have hA : DataW.TrodAll enc Takg.prog W 0 (fun _ => true) true Takg.f4.params.toList args.toList ds p := hA0
  rw [Takg.params4] at hA hval
  obtain ⟨v0, vs0, d0, ds0, p0, q0, hargs, rfl, rfl, h0, r0⟩ := trodAll_cons hA
  obtain ⟨v1, vs1, d1, ds1, p1, q1, rfl, rfl, rfl, h1, r1⟩ := trodAll_cons r0
  obtain ⟨v2, vs2, d2, ds2, p2, q2, rfl, rfl, rfl, h2, r2⟩ := trodAll_cons r1
  obtain ⟨rfl, rfl, rfl⟩ := trodAll_nil r2
  obtain rfl : args = #[v0, v1, v2] := by cases args; simp_all
  obtain ⟨rfl, rfl⟩ := trodVars_none hV
  obtain ⟨a0, rfl, rfl, rfl, w0⟩ := open_int Takg.underlying22 (hval 0 22 v0 rfl rfl) h0
  obtain ⟨a1, rfl, rfl, rfl, w1⟩ := open_int Takg.underlying22 (hval 1 22 v1 rfl rfl) h1
  obtain ⟨a2, rfl, rfl, rfl, w2⟩ := open_int Takg.underlying22 (hval 2 22 v2 rfl rfl) h2
  simp only [List.append_nil] at hW'
  refine (walk a0 a1 a2 w0 w1 w2 W (tab_of_laid hL)).mono fun e W' ⟨he, bel⟩ => ?_
  subst he
  exact ⟨_, rfl, _, _, _, [], [], [], hW', trodAll_mk1 (shut_bool Takg.underlying4 _), (trodAll_cons_mk (shut_int Takg.underlying22 w0) (trodAll_cons_mk (shut_int Takg.underlying22 w1) (trodAll_cons_mk (shut_int Takg.underlying22 w2) trodAll_mk0))), rfl, bel.frame _, fun h => by cases h⟩

theorem holds : Rows.FsumRight3Said :=
  OpenClaim.holds_of_wide 4 Takg.f4 rfl rfl rfl rfl rfl rfl rfl ⟨rfl, rfl, rfl, rfl, rfl⟩ rfl rfl rfl rfl rfl (by kernel_rfl) Takg.func4 (by kernel_rfl)
    (of_decide_eq_true (by kernel_rfl)) (by unfold Func.isWrapper; first | (rw [if_pos (by decide +kernel)]; kernel_rfl) | (rw [if_neg (by decide +kernel)]; exact ⟨rfl, rfl⟩))
    (fun os started H enc _ => lifted os started H enc)

/-- ████ THE CARD ████ -/
theorem proved : Rows.FsumRight3CardSaid :=
  Claim7.holds_tied_plain_at .later [] [.data] true (true, "6c27a5bd5a9b01dac8f4a1f656bee73b545ea687b6bb98b36f1e25ac84b1c6a6") false holds (fun _ h => by cases h) (by kernel_rfl) (fun _ h => by cases h) fsumRight3_row_tie rfl ⟨rfl, rfl⟩ (by kernel_rfl) rfl
    (fun f fn hf hfn => by
      obtain rfl : f = 4 := Option.some.inj ((show Takg.prog.funcNamed "fftlab/law.FsumRight3" = some 4 by kernel_rfl).symm.trans hf) |>.symm
      obtain rfl : fn = Takg.f4 := (Option.some.inj (Takg.func4.symm.trans hfn)).symm
      exact ⟨by kernel_rfl, fun j t ht => by
        rw [Takg.params4] at ht
        have hm : t ∈ [22, 22, 22] := by simpa using Array.mem_of_getElem? ht
        have hall : ([22, 22, 22].all fun u => !Takg.prog.wantsStandIn u) = true := by kernel_rfl
        exact (show Takg.prog.wantsStandIn t = false by simpa using List.all_eq_true.1 hall t hm)⟩)
    (by kernel_rfl)
#print axioms proved
end Go.Proofs.YgctakDoor.fsumRight3
