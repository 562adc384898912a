/-
  DERIVED. GIVEN WITH THE SEED: THE CARDS: each row of YtcneilabmjkdlaaGreatDoorRows.lean that lists a variable, with what it lists TIED to the program's text (the seventh form; the later family's looks); each row that meets fmt, with fmt's text TOLD by the authors' own Lean function (tested against real Go, not proved from fmt's source: count such statements apart). THE CARD IS WHAT COUNTS. Prove the row's statement (the work); the ties are given (YtcneilabmjkdlaaGreatDoorTie.lean); close each card by the builder's one call (the guide's Derived/Test/ToyasCard.lean, 'card_holds'). Laid BY PROGRAM, IN A SANDBOX (cutbox-door.mjs). By AI agents, Wed Nov 11 2026. No macro, syntax, notation, axiom, sorry.
-/
import Derived.Test.YtcneilabmjkdlaaGreatDoorRows
import GoSem.ClaimSeven
namespace Go.Proofs.YtcneilabmjkdlaaGreatDoor
namespace Rows

/-- THE TIED CARD OF 'braidlaw27.TradeNames'. -/
def tradeNamesCard : Claim7 := { stood := { row := tradeNamesRow, standIns := [], harness := (true, "7f964fe8e354cde54b810703145f6b0bb151c35ea51580ef19413f068dff31e1"), looks := false }, kinds := [], alts := [], laidByText := true, laidKinds := [.data], laidTests := true, laidLooks := .later }
def TradeNamesCardSaid : Prop := Claim7.holds Tryz.pinned (.plain (OpenSpec.ofChange tradeNamesSpec)) tradeNamesCard

/-- THE SECOND FORM's CARD OF 'braidlaw27.TradeNames'. -/
def tradeNamesUptoCard : Claim7 := { stood := { row := tradeNamesUptoRow, standIns := [], harness := (true, "7f964fe8e354cde54b810703145f6b0bb151c35ea51580ef19413f068dff31e1"), looks := false }, kinds := [], alts := [], laidByText := true, laidKinds := [.data], laidTests := true, laidLooks := .later }
def TradeNamesUptoCardSaid : Prop := Claim7.holds Tryz.pinned (.plain (OpenSpec.upto tradeNamesSpec)) tradeNamesUptoCard
end Rows
end Go.Proofs.YtcneilabmjkdlaaGreatDoor
