/-
  DERIVED. GIVEN WITH THE SEED: THE CARDS: each row of YtdeegahcaekfaaaGreatDoorRows.lean that lists a variable, with what it lists TIED to the program's text (the seventh form; the later family's looks); each row that meets fmt, with fmt's text TOLD by the authors' own Lean function (tested against real Go, not proved from fmt's source: count such statements apart). THE CARD IS WHAT COUNTS. Prove the row's statement (the work); the ties are given (YtdeegahcaekfaaaGreatDoorTie.lean); close each card by the builder's one call (the guide's Derived/Test/ToyasCard.lean, 'card_holds'). Laid BY PROGRAM, IN A SANDBOX (cutbox-door.mjs). By AI agents, Wed Nov 11 2026. No macro, syntax, notation, axiom, sorry.
-/
import Derived.Test.YtdeegahcaekfaaaGreatDoorRows
import GoSem.ClaimSeven
namespace Go.Proofs.YtdeegahcaekfaaaGreatDoor
namespace Rows

/-- THE TIED CARD OF 'braidlaw42.SnapshotWrites'. -/
def snapshotWritesCard : Claim7 := { stood := { row := snapshotWritesRow, standIns := [], harness := (true, "986bd966bff660b81e16025d01c8810ec7d87144ac1c12f2de55c79679f69665"), looks := false }, kinds := [], alts := [], laidByText := true, laidKinds := [.data], laidTests := true, laidLooks := .later }
def SnapshotWritesCardSaid : Prop := Claim7.holds Tryz.pinned (.plain (OpenSpec.ofChange snapshotWritesSpec)) snapshotWritesCard

/-- THE SECOND FORM's CARD OF 'braidlaw42.SnapshotWrites'. -/
def snapshotWritesUptoCard : Claim7 := { stood := { row := snapshotWritesUptoRow, standIns := [], harness := (true, "986bd966bff660b81e16025d01c8810ec7d87144ac1c12f2de55c79679f69665"), looks := false }, kinds := [], alts := [], laidByText := true, laidKinds := [.data], laidTests := true, laidLooks := .later }
def SnapshotWritesUptoCardSaid : Prop := Claim7.holds Tryz.pinned (.plain (OpenSpec.upto snapshotWritesSpec)) snapshotWritesUptoCard
end Rows
end Go.Proofs.YtdeegahcaekfaaaGreatDoor
