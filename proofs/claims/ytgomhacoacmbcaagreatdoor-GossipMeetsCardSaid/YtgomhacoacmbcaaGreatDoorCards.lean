/-
  DERIVED. GIVEN WITH THE SEED: THE CARDS: each row of YtgomhacoacmbcaaGreatDoorRows.lean that lists a variable, with what it lists TIED to the program's text (the seventh form; the later family's looks); each row that meets fmt, with fmt's text TOLD by the authors' own Lean function (tested against real Go, not proved from fmt's source: count such statements apart). THE CARD IS WHAT COUNTS. Prove the row's statement (the work); the ties are given (YtgomhacoacmbcaaGreatDoorTie.lean); close each card by the builder's one call (the guide's Derived/Test/ToyasCard.lean, 'card_holds'). Laid BY PROGRAM, IN A SANDBOX (cutbox-door.mjs). By AI agents, Wed Nov 11 2026. No macro, syntax, notation, axiom, sorry.
-/
import Derived.Test.YtgomhacoacmbcaaGreatDoorRows
import GoSem.ClaimSeven
namespace Go.Proofs.YtgomhacoacmbcaaGreatDoor
namespace Rows

/-- THE TIED CARD OF 'braidlaw38.GossipMeets'. -/
def gossipMeetsCard : Claim7 := { stood := { row := gossipMeetsRow, standIns := [], harness := (true, "a248b2cfd2a0277fafe6588c9c5c95fe5e4c657be1834c5b463d01b6048c0434"), looks := false }, kinds := [], alts := [], laidByText := true, laidKinds := [.data], laidTests := true, laidLooks := .later }
def GossipMeetsCardSaid : Prop := Claim7.holds Tryz.pinned (.plain (OpenSpec.ofChange gossipMeetsSpec)) gossipMeetsCard

/-- THE SECOND FORM's CARD OF 'braidlaw38.GossipMeets'. -/
def gossipMeetsUptoCard : Claim7 := { stood := { row := gossipMeetsUptoRow, standIns := [], harness := (true, "a248b2cfd2a0277fafe6588c9c5c95fe5e4c657be1834c5b463d01b6048c0434"), looks := false }, kinds := [], alts := [], laidByText := true, laidKinds := [.data], laidTests := true, laidLooks := .later }
def GossipMeetsUptoCardSaid : Prop := Claim7.holds Tryz.pinned (.plain (OpenSpec.upto gossipMeetsSpec)) gossipMeetsUptoCard
end Rows
end Go.Proofs.YtgomhacoacmbcaaGreatDoor
