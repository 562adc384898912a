/-
  DERIVED. GIVEN WITH THE SEED: THE CARDS: each row of YthgpinfkodaefaaGreatDoorRows.lean that lists a variable, with what it lists TIED to the program's text (the seventh form; the later family's looks); each row that meets fmt, with fmt's text TOLD by the authors' own Lean function (tested against real Go, not proved from fmt's source: count such statements apart). THE CARD IS WHAT COUNTS. Prove the row's statement (the work); the ties are given (YthgpinfkodaefaaGreatDoorTie.lean); close each card by the builder's one call (the guide's Derived/Test/ToyasCard.lean, 'card_holds'). Laid BY PROGRAM, IN A SANDBOX (cutbox-door.mjs). By AI agents, Wed Nov 11 2026. No macro, syntax, notation, axiom, sorry.
-/
import Derived.Test.YthgpinfkodaefaaGreatDoorRows
import GoSem.ClaimSeven
namespace Go.Proofs.YthgpinfkodaefaaGreatDoor
namespace Rows

/-- THE TIED CARD OF 'braidlaw36.ConvergeMerges'. -/
def convergeMergesCard : Claim7 := { stood := { row := convergeMergesRow, standIns := [], harness := (true, "3fbe50e4c941b63721e5be22be883733bfc1f884c14c16cfc9dba7bed05387b6"), looks := false }, kinds := [], alts := [], laidByText := true, laidKinds := [.data], laidTests := true, laidLooks := .later }
def ConvergeMergesCardSaid : Prop := Claim7.holds Tryz.pinned (.plain (OpenSpec.ofChange convergeMergesSpec)) convergeMergesCard

/-- THE TIED CARD OF 'braidlaw36.ConvergeAsks'. -/
def convergeAsksCard : Claim7 := { stood := { row := convergeAsksRow, standIns := [], harness := (true, "3fbe50e4c941b63721e5be22be883733bfc1f884c14c16cfc9dba7bed05387b6"), looks := false }, kinds := [], alts := [], laidByText := true, laidKinds := [.data], laidTests := true, laidLooks := .later }
def ConvergeAsksCardSaid : Prop := Claim7.holds Tryz.pinned (.plain (OpenSpec.ofChange convergeAsksSpec)) convergeAsksCard

/-- THE TIED CARD OF 'braidlaw36.ConvergeOnly'. -/
def convergeOnlyCard : Claim7 := { stood := { row := convergeOnlyRow, standIns := [], harness := (true, "3fbe50e4c941b63721e5be22be883733bfc1f884c14c16cfc9dba7bed05387b6"), looks := false }, kinds := [], alts := [], laidByText := true, laidKinds := [.data], laidTests := true, laidLooks := .later }
def ConvergeOnlyCardSaid : Prop := Claim7.holds Tryz.pinned (.plain (OpenSpec.ofChange convergeOnlySpec)) convergeOnlyCard

/-- THE TIED CARD OF 'braidlaw36.ConvergeParts'. -/
def convergePartsCard : Claim7 := { stood := { row := convergePartsRow, standIns := [], harness := (true, "3fbe50e4c941b63721e5be22be883733bfc1f884c14c16cfc9dba7bed05387b6"), looks := false }, kinds := [], alts := [], laidByText := true, laidKinds := [.data], laidTests := true, laidLooks := .later }
def ConvergePartsCardSaid : Prop := Claim7.holds Tryz.pinned (.plain (OpenSpec.ofChange convergePartsSpec)) convergePartsCard

/-- THE TIED CARD OF 'braidlaw36.ConvergeNames'. -/
def convergeNamesCard : Claim7 := { stood := { row := convergeNamesRow, standIns := [], harness := (true, "3fbe50e4c941b63721e5be22be883733bfc1f884c14c16cfc9dba7bed05387b6"), looks := false }, kinds := [], alts := [], laidByText := true, laidKinds := [.data], laidTests := true, laidLooks := .later }
def ConvergeNamesCardSaid : Prop := Claim7.holds Tryz.pinned (.plain (OpenSpec.ofChange convergeNamesSpec)) convergeNamesCard

/-- THE TIED CARD OF 'braidlaw36.ConvergeEqual'. -/
def convergeEqualCard : Claim7 := { stood := { row := convergeEqualRow, standIns := [], harness := (true, "3fbe50e4c941b63721e5be22be883733bfc1f884c14c16cfc9dba7bed05387b6"), looks := false }, kinds := [], alts := [], laidByText := true, laidKinds := [.data], laidTests := true, laidLooks := .later }
def ConvergeEqualCardSaid : Prop := Claim7.holds Tryz.pinned (.plain (OpenSpec.ofChange convergeEqualSpec)) convergeEqualCard

/-- THE SECOND FORM's CARD OF 'braidlaw36.ConvergeMerges'. -/
def convergeMergesUptoCard : Claim7 := { stood := { row := convergeMergesUptoRow, standIns := [], harness := (true, "3fbe50e4c941b63721e5be22be883733bfc1f884c14c16cfc9dba7bed05387b6"), looks := false }, kinds := [], alts := [], laidByText := true, laidKinds := [.data], laidTests := true, laidLooks := .later }
def ConvergeMergesUptoCardSaid : Prop := Claim7.holds Tryz.pinned (.plain (OpenSpec.upto convergeMergesSpec)) convergeMergesUptoCard

/-- THE SECOND FORM's CARD OF 'braidlaw36.ConvergeAsks'. -/
def convergeAsksUptoCard : Claim7 := { stood := { row := convergeAsksUptoRow, standIns := [], harness := (true, "3fbe50e4c941b63721e5be22be883733bfc1f884c14c16cfc9dba7bed05387b6"), looks := false }, kinds := [], alts := [], laidByText := true, laidKinds := [.data], laidTests := true, laidLooks := .later }
def ConvergeAsksUptoCardSaid : Prop := Claim7.holds Tryz.pinned (.plain (OpenSpec.upto convergeAsksSpec)) convergeAsksUptoCard

/-- THE SECOND FORM's CARD OF 'braidlaw36.ConvergeOnly'. -/
def convergeOnlyUptoCard : Claim7 := { stood := { row := convergeOnlyUptoRow, standIns := [], harness := (true, "3fbe50e4c941b63721e5be22be883733bfc1f884c14c16cfc9dba7bed05387b6"), looks := false }, kinds := [], alts := [], laidByText := true, laidKinds := [.data], laidTests := true, laidLooks := .later }
def ConvergeOnlyUptoCardSaid : Prop := Claim7.holds Tryz.pinned (.plain (OpenSpec.upto convergeOnlySpec)) convergeOnlyUptoCard

/-- THE SECOND FORM's CARD OF 'braidlaw36.ConvergeParts'. -/
def convergePartsUptoCard : Claim7 := { stood := { row := convergePartsUptoRow, standIns := [], harness := (true, "3fbe50e4c941b63721e5be22be883733bfc1f884c14c16cfc9dba7bed05387b6"), looks := false }, kinds := [], alts := [], laidByText := true, laidKinds := [.data], laidTests := true, laidLooks := .later }
def ConvergePartsUptoCardSaid : Prop := Claim7.holds Tryz.pinned (.plain (OpenSpec.upto convergePartsSpec)) convergePartsUptoCard

/-- THE SECOND FORM's CARD OF 'braidlaw36.ConvergeNames'. -/
def convergeNamesUptoCard : Claim7 := { stood := { row := convergeNamesUptoRow, standIns := [], harness := (true, "3fbe50e4c941b63721e5be22be883733bfc1f884c14c16cfc9dba7bed05387b6"), looks := false }, kinds := [], alts := [], laidByText := true, laidKinds := [.data], laidTests := true, laidLooks := .later }
def ConvergeNamesUptoCardSaid : Prop := Claim7.holds Tryz.pinned (.plain (OpenSpec.upto convergeNamesSpec)) convergeNamesUptoCard

/-- THE SECOND FORM's CARD OF 'braidlaw36.ConvergeEqual'. -/
def convergeEqualUptoCard : Claim7 := { stood := { row := convergeEqualUptoRow, standIns := [], harness := (true, "3fbe50e4c941b63721e5be22be883733bfc1f884c14c16cfc9dba7bed05387b6"), looks := false }, kinds := [], alts := [], laidByText := true, laidKinds := [.data], laidTests := true, laidLooks := .later }
def ConvergeEqualUptoCardSaid : Prop := Claim7.holds Tryz.pinned (.plain (OpenSpec.upto convergeEqualSpec)) convergeEqualUptoCard
end Rows
end Go.Proofs.YthgpinfkodaefaaGreatDoor
