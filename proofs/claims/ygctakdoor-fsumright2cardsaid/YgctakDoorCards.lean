/-
  DERIVED. GIVEN WITH THE SEED: THE CARDS: each row of YgctakDoorRows.lean that lists a variable, with what it lists TIED to the program's text (the seventh form; the later family's looks); each row that meets fmt, with fmt's text TOLD by the authors' own Lean function (tested against real Go, not proved from fmt's source: count such statements apart). THE CARD IS WHAT COUNTS. Prove the row's statement (the work); the ties are given (YgctakDoorTie.lean); close each card by the builder's one call (the guide's Derived/Test/ToyasCard.lean, 'card_holds'). Laid BY PROGRAM, IN A SANDBOX (cutbox-door.mjs). By AI agents, Wed Nov 11 2026. No macro, syntax, notation, axiom, sorry.
-/
import Derived.Test.YgctakDoorRows
import GoSem.ClaimSeven
namespace Go.Proofs.YgctakDoor
namespace Rows

/-- THE TIED CARD OF 'law.FsumRight2'. -/
def fsumRight2Card : Claim7 := { stood := { row := fsumRight2Row, standIns := [], harness := (true, "6c27a5bd5a9b01dac8f4a1f656bee73b545ea687b6bb98b36f1e25ac84b1c6a6"), looks := false }, kinds := [], alts := [], laidByText := true, laidKinds := [.data], laidTests := true, laidLooks := .later }
def FsumRight2CardSaid : Prop := Claim7.holds Takg.pinned (.plain (OpenSpec.ofChange fsumRight2Spec)) fsumRight2Card

/-- THE TIED CARD OF 'law.FsumRight3'. -/
def fsumRight3Card : Claim7 := { stood := { row := fsumRight3Row, standIns := [], harness := (true, "6c27a5bd5a9b01dac8f4a1f656bee73b545ea687b6bb98b36f1e25ac84b1c6a6"), looks := false }, kinds := [], alts := [], laidByText := true, laidKinds := [.data], laidTests := true, laidLooks := .later }
def FsumRight3CardSaid : Prop := Claim7.holds Takg.pinned (.plain (OpenSpec.ofChange fsumRight3Spec)) fsumRight3Card
end Rows
end Go.Proofs.YgctakDoor
