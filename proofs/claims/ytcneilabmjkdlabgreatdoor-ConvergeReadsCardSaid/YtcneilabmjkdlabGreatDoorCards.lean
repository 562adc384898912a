/-
  DERIVED. GIVEN WITH THE SEED: THE CARDS: each row of YtcneilabmjkdlabGreatDoorRows.lean that lists a variable, with what it lists TIED to the program's text (the seventh form; the later family's looks); each row that meets fmt, with fmt's text TOLD by the authors' own Lean function (tested against real Go, not proved from fmt's source: count such statements apart). THE CARD IS WHAT COUNTS. Prove the row's statement (the work); the ties are given (YtcneilabmjkdlabGreatDoorTie.lean); close each card by the builder's one call (the guide's Derived/Test/ToyasCard.lean, 'card_holds'). Laid BY PROGRAM, IN A SANDBOX (cutbox-door.mjs). By AI agents, Wed Nov 11 2026. No macro, syntax, notation, axiom, sorry.
-/
import Derived.Test.YtcneilabmjkdlabGreatDoorRows
import GoSem.ClaimSeven
namespace Go.Proofs.YtcneilabmjkdlabGreatDoor
namespace Rows

/-- THE TIED CARD OF 'braidlaw36.ConvergeReads'. -/
def convergeReadsCard : Claim7 := { stood := { row := convergeReadsRow, standIns := [], harness := (true, "0db03eb1bda9958a4f0947c050df321b98153b9807bc3864a795aa34104317ba"), looks := false }, kinds := [], alts := [], laidByText := true, laidKinds := [.data], laidTests := true, laidLooks := .later }
def ConvergeReadsCardSaid : Prop := Claim7.holds Tryz.pinned (.plain (OpenSpec.ofChange convergeReadsSpec)) convergeReadsCard

/-- THE SECOND FORM's CARD OF 'braidlaw36.ConvergeReads'. -/
def convergeReadsUptoCard : Claim7 := { stood := { row := convergeReadsUptoRow, standIns := [], harness := (true, "0db03eb1bda9958a4f0947c050df321b98153b9807bc3864a795aa34104317ba"), looks := false }, kinds := [], alts := [], laidByText := true, laidKinds := [.data], laidTests := true, laidLooks := .later }
def ConvergeReadsUptoCardSaid : Prop := Claim7.holds Tryz.pinned (.plain (OpenSpec.upto convergeReadsSpec)) convergeReadsUptoCard
end Rows
end Go.Proofs.YtcneilabmjkdlabGreatDoor
