/-
  DERIVED. GIVEN WITH THE SEED: THE CARDS: each row of YtojceajkeefnpaaGreatDoorRows.lean that lists a variable, with what it lists TIED to the program's text (the seventh form; the later family's looks); each row that meets fmt, with fmt's text TOLD by the authors' own Lean function (tested against real Go, not proved from fmt's source: count such statements apart). THE CARD IS WHAT COUNTS. Prove the row's statement (the work); the ties are given (YtojceajkeefnpaaGreatDoorTie.lean); close each card by the builder's one call (the guide's Derived/Test/ToyasCard.lean, 'card_holds'). Laid BY PROGRAM, IN A SANDBOX (cutbox-door.mjs). By AI agents, Wed Nov 11 2026. No macro, syntax, notation, axiom, sorry.
-/
import Derived.Test.YtojceajkeefnpaaGreatDoorRows
import GoSem.ClaimSeven
namespace Go.Proofs.YtojceajkeefnpaaGreatDoor
namespace Rows

/-- THE TIED CARD OF 'braidlaw41.PackSorts'. -/
def packSortsCard : Claim7 := { stood := { row := packSortsRow, standIns := [], harness := (true, "b1cd018050495a0a64ce133054ff9e9d197022928246c982989830497e8a1604"), looks := false }, kinds := [], alts := [], laidByText := true, laidKinds := [.data], laidTests := true, laidLooks := .later }
def PackSortsCardSaid : Prop := Claim7.holds Tryz.pinned (.plain (OpenSpec.ofChange packSortsSpec)) packSortsCard

/-- THE TIED CARD OF 'braidlaw41.PackWrites'. -/
def packWritesCard : Claim7 := { stood := { row := packWritesRow, standIns := [], harness := (true, "b1cd018050495a0a64ce133054ff9e9d197022928246c982989830497e8a1604"), looks := false }, kinds := [], alts := [], laidByText := true, laidKinds := [.data], laidTests := true, laidLooks := .later }
def PackWritesCardSaid : Prop := Claim7.holds Tryz.pinned (.plain (OpenSpec.ofChange packWritesSpec)) packWritesCard

/-- THE TIED CARD OF 'braidlaw41.PackBack'. -/
def packBackCard : Claim7 := { stood := { row := packBackRow, standIns := [], harness := (true, "b1cd018050495a0a64ce133054ff9e9d197022928246c982989830497e8a1604"), looks := false }, kinds := [], alts := [], laidByText := true, laidKinds := [.data], laidTests := true, laidLooks := .later }
def PackBackCardSaid : Prop := Claim7.holds Tryz.pinned (.plain (OpenSpec.ofChange packBackSpec)) packBackCard

/-- THE TIED CARD OF 'braidlaw41.PackReads'. -/
def packReadsCard : Claim7 := { stood := { row := packReadsRow, standIns := [], harness := (true, "b1cd018050495a0a64ce133054ff9e9d197022928246c982989830497e8a1604"), looks := false }, kinds := [], alts := [], laidByText := true, laidKinds := [.data], laidTests := true, laidLooks := .later }
def PackReadsCardSaid : Prop := Claim7.holds Tryz.pinned (.plain (OpenSpec.ofChange packReadsSpec)) packReadsCard

/-- THE TIED CARD OF 'braidlaw41.PackNames'. -/
def packNamesCard : Claim7 := { stood := { row := packNamesRow, standIns := [], harness := (true, "b1cd018050495a0a64ce133054ff9e9d197022928246c982989830497e8a1604"), looks := false }, kinds := [], alts := [], laidByText := true, laidKinds := [.data], laidTests := true, laidLooks := .later }
def PackNamesCardSaid : Prop := Claim7.holds Tryz.pinned (.plain (OpenSpec.ofChange packNamesSpec)) packNamesCard

/-- THE TIED CARD OF 'braidlaw41.PackGraph'. -/
def packGraphCard : Claim7 := { stood := { row := packGraphRow, standIns := [], harness := (true, "b1cd018050495a0a64ce133054ff9e9d197022928246c982989830497e8a1604"), looks := false }, kinds := [], alts := [], laidByText := true, laidKinds := [.data], laidTests := true, laidLooks := .later }
def PackGraphCardSaid : Prop := Claim7.holds Tryz.pinned (.plain (OpenSpec.ofChange packGraphSpec)) packGraphCard

/-- THE SECOND FORM's CARD OF 'braidlaw41.PackSorts'. -/
def packSortsUptoCard : Claim7 := { stood := { row := packSortsUptoRow, standIns := [], harness := (true, "b1cd018050495a0a64ce133054ff9e9d197022928246c982989830497e8a1604"), looks := false }, kinds := [], alts := [], laidByText := true, laidKinds := [.data], laidTests := true, laidLooks := .later }
def PackSortsUptoCardSaid : Prop := Claim7.holds Tryz.pinned (.plain (OpenSpec.upto packSortsSpec)) packSortsUptoCard

/-- THE SECOND FORM's CARD OF 'braidlaw41.PackWrites'. -/
def packWritesUptoCard : Claim7 := { stood := { row := packWritesUptoRow, standIns := [], harness := (true, "b1cd018050495a0a64ce133054ff9e9d197022928246c982989830497e8a1604"), looks := false }, kinds := [], alts := [], laidByText := true, laidKinds := [.data], laidTests := true, laidLooks := .later }
def PackWritesUptoCardSaid : Prop := Claim7.holds Tryz.pinned (.plain (OpenSpec.upto packWritesSpec)) packWritesUptoCard

/-- THE SECOND FORM's CARD OF 'braidlaw41.PackBack'. -/
def packBackUptoCard : Claim7 := { stood := { row := packBackUptoRow, standIns := [], harness := (true, "b1cd018050495a0a64ce133054ff9e9d197022928246c982989830497e8a1604"), looks := false }, kinds := [], alts := [], laidByText := true, laidKinds := [.data], laidTests := true, laidLooks := .later }
def PackBackUptoCardSaid : Prop := Claim7.holds Tryz.pinned (.plain (OpenSpec.upto packBackSpec)) packBackUptoCard

/-- THE SECOND FORM's CARD OF 'braidlaw41.PackReads'. -/
def packReadsUptoCard : Claim7 := { stood := { row := packReadsUptoRow, standIns := [], harness := (true, "b1cd018050495a0a64ce133054ff9e9d197022928246c982989830497e8a1604"), looks := false }, kinds := [], alts := [], laidByText := true, laidKinds := [.data], laidTests := true, laidLooks := .later }
def PackReadsUptoCardSaid : Prop := Claim7.holds Tryz.pinned (.plain (OpenSpec.upto packReadsSpec)) packReadsUptoCard

/-- THE SECOND FORM's CARD OF 'braidlaw41.PackNames'. -/
def packNamesUptoCard : Claim7 := { stood := { row := packNamesUptoRow, standIns := [], harness := (true, "b1cd018050495a0a64ce133054ff9e9d197022928246c982989830497e8a1604"), looks := false }, kinds := [], alts := [], laidByText := true, laidKinds := [.data], laidTests := true, laidLooks := .later }
def PackNamesUptoCardSaid : Prop := Claim7.holds Tryz.pinned (.plain (OpenSpec.upto packNamesSpec)) packNamesUptoCard

/-- THE SECOND FORM's CARD OF 'braidlaw41.PackGraph'. -/
def packGraphUptoCard : Claim7 := { stood := { row := packGraphUptoRow, standIns := [], harness := (true, "b1cd018050495a0a64ce133054ff9e9d197022928246c982989830497e8a1604"), looks := false }, kinds := [], alts := [], laidByText := true, laidKinds := [.data], laidTests := true, laidLooks := .later }
def PackGraphUptoCardSaid : Prop := Claim7.holds Tryz.pinned (.plain (OpenSpec.upto packGraphSpec)) packGraphUptoCard
end Rows
end Go.Proofs.YtojceajkeefnpaaGreatDoor
