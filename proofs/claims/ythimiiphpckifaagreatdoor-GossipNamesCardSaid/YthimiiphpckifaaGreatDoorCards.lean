/-
  DERIVED. GIVEN WITH THE SEED: THE CARDS: each row of YthimiiphpckifaaGreatDoorRows.lean that lists a variable, with what it lists TIED to the program's text (the seventh form; the later family's looks); each row that meets fmt, with fmt's text TOLD by the authors' own Lean function (tested against real Go, not proved from fmt's source: count such statements apart). THE CARD IS WHAT COUNTS. Prove the row's statement (the work); the ties are given (YthimiiphpckifaaGreatDoorTie.lean); close each card by the builder's one call (the guide's Derived/Test/ToyasCard.lean, 'card_holds'). Laid BY PROGRAM, IN A SANDBOX (cutbox-door.mjs). By AI agents, Wed Nov 11 2026. No macro, syntax, notation, axiom, sorry.
-/
import Derived.Test.YthimiiphpckifaaGreatDoorRows
import GoSem.ClaimSeven
namespace Go.Proofs.YthimiiphpckifaaGreatDoor
namespace Rows

/-- THE TIED CARD OF 'braidlaw38.GossipRuns'. -/
def gossipRunsCard : Claim7 := { stood := { row := gossipRunsRow, standIns := [], harness := (true, "9f8b426bd39a9c2e2b23107f995ea9f06479ac7d947e79d87c8e067a94a5e255"), looks := false }, kinds := [], alts := [], laidByText := true, laidKinds := [.data], laidTests := true, laidLooks := .later }
def GossipRunsCardSaid : Prop := Claim7.holds Tryz.pinned (.plain (OpenSpec.ofChange gossipRunsSpec)) gossipRunsCard

/-- THE TIED CARD OF 'braidlaw38.GossipNames'. -/
def gossipNamesCard : Claim7 := { stood := { row := gossipNamesRow, standIns := [], harness := (true, "9f8b426bd39a9c2e2b23107f995ea9f06479ac7d947e79d87c8e067a94a5e255"), looks := false }, kinds := [], alts := [], laidByText := true, laidKinds := [.data], laidTests := true, laidLooks := .later }
def GossipNamesCardSaid : Prop := Claim7.holds Tryz.pinned (.plain (OpenSpec.ofChange gossipNamesSpec)) gossipNamesCard

/-- THE TIED CARD OF 'braidlaw38.GossipAll'. -/
def gossipAllCard : Claim7 := { stood := { row := gossipAllRow, standIns := [], harness := (true, "9f8b426bd39a9c2e2b23107f995ea9f06479ac7d947e79d87c8e067a94a5e255"), looks := false }, kinds := [], alts := [], laidByText := true, laidKinds := [.data], laidTests := true, laidLooks := .later }
def GossipAllCardSaid : Prop := Claim7.holds Tryz.pinned (.plain (OpenSpec.ofChange gossipAllSpec)) gossipAllCard

/-- THE TIED CARD OF 'braidlaw38.GossipHeard'. -/
def gossipHeardCard : Claim7 := { stood := { row := gossipHeardRow, standIns := [], harness := (true, "9f8b426bd39a9c2e2b23107f995ea9f06479ac7d947e79d87c8e067a94a5e255"), looks := false }, kinds := [], alts := [], laidByText := true, laidKinds := [.data], laidTests := true, laidLooks := .later }
def GossipHeardCardSaid : Prop := Claim7.holds Tryz.pinned (.plain (OpenSpec.ofChange gossipHeardSpec)) gossipHeardCard

/-- THE SECOND FORM's CARD OF 'braidlaw38.GossipRuns'. -/
def gossipRunsUptoCard : Claim7 := { stood := { row := gossipRunsUptoRow, standIns := [], harness := (true, "9f8b426bd39a9c2e2b23107f995ea9f06479ac7d947e79d87c8e067a94a5e255"), looks := false }, kinds := [], alts := [], laidByText := true, laidKinds := [.data], laidTests := true, laidLooks := .later }
def GossipRunsUptoCardSaid : Prop := Claim7.holds Tryz.pinned (.plain (OpenSpec.upto gossipRunsSpec)) gossipRunsUptoCard

/-- THE SECOND FORM's CARD OF 'braidlaw38.GossipNames'. -/
def gossipNamesUptoCard : Claim7 := { stood := { row := gossipNamesUptoRow, standIns := [], harness := (true, "9f8b426bd39a9c2e2b23107f995ea9f06479ac7d947e79d87c8e067a94a5e255"), looks := false }, kinds := [], alts := [], laidByText := true, laidKinds := [.data], laidTests := true, laidLooks := .later }
def GossipNamesUptoCardSaid : Prop := Claim7.holds Tryz.pinned (.plain (OpenSpec.upto gossipNamesSpec)) gossipNamesUptoCard

/-- THE SECOND FORM's CARD OF 'braidlaw38.GossipAll'. -/
def gossipAllUptoCard : Claim7 := { stood := { row := gossipAllUptoRow, standIns := [], harness := (true, "9f8b426bd39a9c2e2b23107f995ea9f06479ac7d947e79d87c8e067a94a5e255"), looks := false }, kinds := [], alts := [], laidByText := true, laidKinds := [.data], laidTests := true, laidLooks := .later }
def GossipAllUptoCardSaid : Prop := Claim7.holds Tryz.pinned (.plain (OpenSpec.upto gossipAllSpec)) gossipAllUptoCard

/-- THE SECOND FORM's CARD OF 'braidlaw38.GossipHeard'. -/
def gossipHeardUptoCard : Claim7 := { stood := { row := gossipHeardUptoRow, standIns := [], harness := (true, "9f8b426bd39a9c2e2b23107f995ea9f06479ac7d947e79d87c8e067a94a5e255"), looks := false }, kinds := [], alts := [], laidByText := true, laidKinds := [.data], laidTests := true, laidLooks := .later }
def GossipHeardUptoCardSaid : Prop := Claim7.holds Tryz.pinned (.plain (OpenSpec.upto gossipHeardSpec)) gossipHeardUptoCard
end Rows
end Go.Proofs.YthimiiphpckifaaGreatDoor
