/-
  No cell of these rows narrows 'for every input' (looked for: loops, veiled, ifaces, maps, wideKeys, modest, calm, conditions, laid).
  DERIVED. THE GIVEN ROWS OF THIS SEAT. 10 by the template 'for every input the law returns true; each argument reads behind the call as it read before'; 0 by the template 'total and deterministic' (their statements: YgctakTotals.lean).
  GIVEN WITH THE SEED: the statements are not yours to turn. If you find one false, say at which input.
  Laid BY PROGRAM, IN A SANDBOX (cutbox-rows.mjs): the forced cells as the released guide's own fill.sh prints them over the translation ffcdd8e8fb3a72e7… (all of the seat's roots in one cut). By AI agents, Wed Nov 11 2026. No macro, syntax, notation, axiom, sorry.
-/
import Derived.Test.YgctakChecked
import GoSem.Claim
import GoSem.ClaimJoined
import GoSem.ClaimMapViews
import Derived.JoinedTies
import Derived.KernelRfl
namespace Go.Proofs.Ygctak
/- THE CELL 'sum', in the pinned program and in every row, IS THE sha256 OF THE DUMP (.gsa) THAT YgctakProg.lean LOADS. Nothing in Lean hashes anything: it is a label: what it is worth is what the hold of that sum in a sandbox is worth. -/
noncomputable def Takg.pinned : Pinned := { name := "ygctak", sum := "ffcdd8e8fb3a72e7f64c0bebef87ac88a7b0506dd11f3090fc8ef4cb11247356", checked := Takg.checked }
namespace Rows
def none {H : Type} : Left H := { results := [], args := [] }

/-- 'law.NTTConvIsTransform': WHATEVER THE INPUT: true; the input reads as it did. -/
def nTTConvIsTransformSpec : ChangeSpec := { name := "nTTConvIsTransform", fn := fun _ => fun
  | [d1, d2] => { results := [.lit (.bool true)], args := [d1, d2] }
  | _ => none }
def nTTConvIsTransformRow : OpenClaim := { program := "ygctak", sum := "ffcdd8e8fb3a72e7f64c0bebef87ac88a7b0506dd11f3090fc8ef4cb11247356", func := "fftlab/law.NTTConvIsTransform", spec := "nTTConvIsTransform", apart := false }
def NTTConvIsTransformSaid : Prop := nTTConvIsTransformRow.holds Takg.pinned (OpenSpec.ofChange nTTConvIsTransformSpec)

/-- ITS FALSE NEIGHBOUR: 'it returns false'. Refute it at one input. -/
def nTTConvIsTransformWrong : ChangeSpec := { name := "nTTConvIsTransform", fn := fun _ => fun
  | [d1, d2] => { results := [.lit (.bool false)], args := [d1, d2] }
  | _ => none }
def NTTConvIsTransformWrongFalsely : Prop := nTTConvIsTransformRow.holds Takg.pinned (OpenSpec.ofChange nTTConvIsTransformWrong)

/-- 'law.ConvExact4': WHATEVER THE INPUT: true; the input reads as it did. -/
def convExact4Spec : ChangeSpec := { name := "convExact4", fn := fun _ => fun
  | [d1, d2] => { results := [.lit (.bool true)], args := [d1, d2] }
  | _ => none }
def convExact4Row : OpenClaim := { program := "ygctak", sum := "ffcdd8e8fb3a72e7f64c0bebef87ac88a7b0506dd11f3090fc8ef4cb11247356", func := "fftlab/law.ConvExact4", spec := "convExact4", apart := false }
def ConvExact4Said : Prop := convExact4Row.holds Takg.pinned (OpenSpec.ofChange convExact4Spec)

/-- ITS FALSE NEIGHBOUR: 'it returns false'. Refute it at one input. -/
def convExact4Wrong : ChangeSpec := { name := "convExact4", fn := fun _ => fun
  | [d1, d2] => { results := [.lit (.bool false)], args := [d1, d2] }
  | _ => none }
def ConvExact4WrongFalsely : Prop := convExact4Row.holds Takg.pinned (OpenSpec.ofChange convExact4Wrong)

/-- 'law.ConvExact16': WHATEVER THE INPUT: true; the input reads as it did. -/
def convExact16Spec : ChangeSpec := { name := "convExact16", fn := fun _ => fun
  | [d1, d2] => { results := [.lit (.bool true)], args := [d1, d2] }
  | _ => none }
def convExact16Row : OpenClaim := { program := "ygctak", sum := "ffcdd8e8fb3a72e7f64c0bebef87ac88a7b0506dd11f3090fc8ef4cb11247356", func := "fftlab/law.ConvExact16", spec := "convExact16", apart := false }
def ConvExact16Said : Prop := convExact16Row.holds Takg.pinned (OpenSpec.ofChange convExact16Spec)

/-- ITS FALSE NEIGHBOUR: 'it returns false'. Refute it at one input. -/
def convExact16Wrong : ChangeSpec := { name := "convExact16", fn := fun _ => fun
  | [d1, d2] => { results := [.lit (.bool false)], args := [d1, d2] }
  | _ => none }
def ConvExact16WrongFalsely : Prop := convExact16Row.holds Takg.pinned (OpenSpec.ofChange convExact16Wrong)

/-- 'law.ConvExact64': WHATEVER THE INPUT: true; the input reads as it did. -/
def convExact64Spec : ChangeSpec := { name := "convExact64", fn := fun _ => fun
  | [d1, d2] => { results := [.lit (.bool true)], args := [d1, d2] }
  | _ => none }
def convExact64Row : OpenClaim := { program := "ygctak", sum := "ffcdd8e8fb3a72e7f64c0bebef87ac88a7b0506dd11f3090fc8ef4cb11247356", func := "fftlab/law.ConvExact64", spec := "convExact64", apart := false }
def ConvExact64Said : Prop := convExact64Row.holds Takg.pinned (OpenSpec.ofChange convExact64Spec)

/-- ITS FALSE NEIGHBOUR: 'it returns false'. Refute it at one input. -/
def convExact64Wrong : ChangeSpec := { name := "convExact64", fn := fun _ => fun
  | [d1, d2] => { results := [.lit (.bool false)], args := [d1, d2] }
  | _ => none }
def ConvExact64WrongFalsely : Prop := convExact64Row.holds Takg.pinned (OpenSpec.ofChange convExact64Wrong)

/-- 'law.MulFFTRight8': WHATEVER THE INPUT: true; the input reads as it did. -/
def mulFFTRight8Spec : ChangeSpec := { name := "mulFFTRight8", fn := fun _ => fun
  | [d1, d2] => { results := [.lit (.bool true)], args := [d1, d2] }
  | _ => none }
def mulFFTRight8Row : OpenClaim := { program := "ygctak", sum := "ffcdd8e8fb3a72e7f64c0bebef87ac88a7b0506dd11f3090fc8ef4cb11247356", func := "fftlab/law.MulFFTRight8", spec := "mulFFTRight8", apart := false }
def MulFFTRight8Said : Prop := mulFFTRight8Row.holds Takg.pinned (OpenSpec.ofChange mulFFTRight8Spec)

/-- ITS FALSE NEIGHBOUR: 'it returns false'. Refute it at one input. -/
def mulFFTRight8Wrong : ChangeSpec := { name := "mulFFTRight8", fn := fun _ => fun
  | [d1, d2] => { results := [.lit (.bool false)], args := [d1, d2] }
  | _ => none }
def MulFFTRight8WrongFalsely : Prop := mulFFTRight8Row.holds Takg.pinned (OpenSpec.ofChange mulFFTRight8Wrong)

/-- 'law.TowerFFT': WHATEVER THE INPUT: true; the input reads as it did. -/
def towerFFTSpec : ChangeSpec := { name := "towerFFT", fn := fun _ => fun
  | [d] => { results := [.lit (.bool true)], args := [d] }
  | _ => none }
def towerFFTRow : OpenClaim := { program := "ygctak", sum := "ffcdd8e8fb3a72e7f64c0bebef87ac88a7b0506dd11f3090fc8ef4cb11247356", func := "fftlab/law.TowerFFT", spec := "towerFFT", recurses := true, apart := false }
def TowerFFTSaid : Prop := towerFFTRow.holds Takg.pinned (OpenSpec.ofChange towerFFTSpec)

/-- ITS FALSE NEIGHBOUR: 'it returns false'. Refute it at one input. -/
def towerFFTWrong : ChangeSpec := { name := "towerFFT", fn := fun _ => fun
  | [d] => { results := [.lit (.bool false)], args := [d] }
  | _ => none }
def TowerFFTWrongFalsely : Prop := towerFFTRow.holds Takg.pinned (OpenSpec.ofChange towerFFTWrong)

/-- 'law.TowerNTT': WHATEVER THE INPUT: true; the input reads as it did. -/
def towerNTTSpec : ChangeSpec := { name := "towerNTT", fn := fun _ => fun
  | [d] => { results := [.lit (.bool true)], args := [d] }
  | _ => none }
def towerNTTRow : OpenClaim := { program := "ygctak", sum := "ffcdd8e8fb3a72e7f64c0bebef87ac88a7b0506dd11f3090fc8ef4cb11247356", func := "fftlab/law.TowerNTT", spec := "towerNTT", recurses := true, apart := false }
def TowerNTTSaid : Prop := towerNTTRow.holds Takg.pinned (OpenSpec.ofChange towerNTTSpec)

/-- ITS FALSE NEIGHBOUR: 'it returns false'. Refute it at one input. -/
def towerNTTWrong : ChangeSpec := { name := "towerNTT", fn := fun _ => fun
  | [d] => { results := [.lit (.bool false)], args := [d] }
  | _ => none }
def TowerNTTWrongFalsely : Prop := towerNTTRow.holds Takg.pinned (OpenSpec.ofChange towerNTTWrong)

/-- 'law.ShadowHolds': WHATEVER THE INPUT: true; the input reads as it did. -/
def shadowHoldsSpec : ChangeSpec := { name := "shadowHolds", fn := fun _ => fun
  | [d1, d2] => { results := [.lit (.bool true)], args := [d1, d2] }
  | _ => none }
def shadowHoldsRow : OpenClaim := { program := "ygctak", sum := "ffcdd8e8fb3a72e7f64c0bebef87ac88a7b0506dd11f3090fc8ef4cb11247356", func := "fftlab/law.ShadowHolds", spec := "shadowHolds", inPlace := ["math/bits.Add64", "math.Float64bits", "math/bits.Sub64"], apart := false }
def ShadowHoldsSaid : Prop := shadowHoldsRow.holds Takg.pinned (OpenSpec.ofChange shadowHoldsSpec)

/-- ITS FALSE NEIGHBOUR: 'it returns false'. Refute it at one input. -/
def shadowHoldsWrong : ChangeSpec := { name := "shadowHolds", fn := fun _ => fun
  | [d1, d2] => { results := [.lit (.bool false)], args := [d1, d2] }
  | _ => none }
def ShadowHoldsWrongFalsely : Prop := shadowHoldsRow.holds Takg.pinned (OpenSpec.ofChange shadowHoldsWrong)

/-- 'law.ShadowSmall': WHATEVER THE INPUT: true; the input reads as it did. -/
def shadowSmallSpec : ChangeSpec := { name := "shadowSmall", fn := fun _ => fun
  | [d1, d2] => { results := [.lit (.bool true)], args := [d1, d2] }
  | _ => none }
def shadowSmallRow : OpenClaim := { program := "ygctak", sum := "ffcdd8e8fb3a72e7f64c0bebef87ac88a7b0506dd11f3090fc8ef4cb11247356", func := "fftlab/law.ShadowSmall", spec := "shadowSmall", inPlace := ["math/bits.Add64"], apart := false }
def ShadowSmallSaid : Prop := shadowSmallRow.holds Takg.pinned (OpenSpec.ofChange shadowSmallSpec)

/-- ITS FALSE NEIGHBOUR: 'it returns false'. Refute it at one input. -/
def shadowSmallWrong : ChangeSpec := { name := "shadowSmall", fn := fun _ => fun
  | [d1, d2] => { results := [.lit (.bool false)], args := [d1, d2] }
  | _ => none }
def ShadowSmallWrongFalsely : Prop := shadowSmallRow.holds Takg.pinned (OpenSpec.ofChange shadowSmallWrong)

/-- 'law.ShadowConvExact': WHATEVER THE INPUT: true; the input reads as it did. -/
def shadowConvExactSpec : ChangeSpec := { name := "shadowConvExact", fn := fun _ => fun
  | [d1, d2, d3] => { results := [.lit (.bool true)], args := [d1, d2, d3] }
  | _ => none }
def shadowConvExactRow : OpenClaim := { program := "ygctak", sum := "ffcdd8e8fb3a72e7f64c0bebef87ac88a7b0506dd11f3090fc8ef4cb11247356", func := "fftlab/law.ShadowConvExact", spec := "shadowConvExact", inPlace := ["math/bits.Add64"], apart := false }
def ShadowConvExactSaid : Prop := shadowConvExactRow.holds Takg.pinned (OpenSpec.ofChange shadowConvExactSpec)

/-- ITS FALSE NEIGHBOUR: 'it returns false'. Refute it at one input. -/
def shadowConvExactWrong : ChangeSpec := { name := "shadowConvExact", fn := fun _ => fun
  | [d1, d2, d3] => { results := [.lit (.bool false)], args := [d1, d2, d3] }
  | _ => none }
def ShadowConvExactWrongFalsely : Prop := shadowConvExactRow.holds Takg.pinned (OpenSpec.ofChange shadowConvExactWrong)

end Rows
end Go.Proofs.Ygctak
