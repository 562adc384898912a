/-
  DERIVED. GIVEN WITH THE SEED: THE CARDS: each row of YtefkialcgmohkaaGreatDoorRows.lean that lists a variable, with what it lists TIED to the program's text (the seventh form; the later family's looks); each row that meets fmt, with fmt's text TOLD by the authors' own Lean function (tested against real Go, not proved from fmt's source: count such statements apart). THE CARD IS WHAT COUNTS. Prove the row's statement (the work); the ties are given (YtefkialcgmohkaaGreatDoorTie.lean); close each card by the builder's one call (the guide's Derived/Test/ToyasCard.lean, 'card_holds'). Laid BY PROGRAM, IN A SANDBOX (cutbox-door.mjs). By AI agents, Wed Nov 11 2026. No macro, syntax, notation, axiom, sorry.
-/
import Derived.Test.YtefkialcgmohkaaGreatDoorRows
import GoSem.ClaimSeven
namespace Go.Proofs.YtefkialcgmohkaaGreatDoor
namespace Rows

/-- THE TIED CARD OF 'braidlaw27.TradeFinds'. -/
def tradeFindsCard : Claim7 := { stood := { row := tradeFindsRow, standIns := [], harness := (true, "0b2782c8e365848f93fe9550c1eafe7c2f8a892fdc6e9872f281f679c2fe5472"), looks := false }, kinds := [], alts := [], laidByText := true, laidKinds := [.data], laidTests := true, laidLooks := .later }
def TradeFindsCardSaid : Prop := Claim7.holds Tryz.pinned (.plain (OpenSpec.ofChange tradeFindsSpec)) tradeFindsCard

/-- THE TIED CARD OF 'braidlaw27.TradeGives'. -/
def tradeGivesCard : Claim7 := { stood := { row := tradeGivesRow, standIns := [], harness := (true, "0b2782c8e365848f93fe9550c1eafe7c2f8a892fdc6e9872f281f679c2fe5472"), looks := false }, kinds := [], alts := [], laidByText := true, laidKinds := [.data], laidTests := true, laidLooks := .later }
def TradeGivesCardSaid : Prop := Claim7.holds Tryz.pinned (.plain (OpenSpec.ofChange tradeGivesSpec)) tradeGivesCard

/-- THE TIED CARD OF 'braidlaw27.TradeKnown'. -/
def tradeKnownCard : Claim7 := { stood := { row := tradeKnownRow, standIns := [], harness := (true, "0b2782c8e365848f93fe9550c1eafe7c2f8a892fdc6e9872f281f679c2fe5472"), looks := false }, kinds := [], alts := [], laidByText := true, laidKinds := [.data], laidTests := true, laidLooks := .later }
def TradeKnownCardSaid : Prop := Claim7.holds Tryz.pinned (.plain (OpenSpec.ofChange tradeKnownSpec)) tradeKnownCard

/-- THE TIED CARD OF 'braidlaw27.TradeOrder'. -/
def tradeOrderCard : Claim7 := { stood := { row := tradeOrderRow, standIns := [], harness := (true, "0b2782c8e365848f93fe9550c1eafe7c2f8a892fdc6e9872f281f679c2fe5472"), looks := false }, kinds := [], alts := [], laidByText := true, laidKinds := [.data], laidTests := true, laidLooks := .later }
def TradeOrderCardSaid : Prop := Claim7.holds Tryz.pinned (.plain (OpenSpec.ofChange tradeOrderSpec)) tradeOrderCard

/-- THE TIED CARD OF 'braidlaw27.TradeFrames'. -/
def tradeFramesCard : Claim7 := { stood := { row := tradeFramesRow, standIns := [], harness := (true, "0b2782c8e365848f93fe9550c1eafe7c2f8a892fdc6e9872f281f679c2fe5472"), looks := false }, kinds := [], alts := [], laidByText := true, laidKinds := [.data], laidTests := true, laidLooks := .later }
def TradeFramesCardSaid : Prop := Claim7.holds Tryz.pinned (.plain (OpenSpec.ofChange tradeFramesSpec)) tradeFramesCard

/-- THE TIED CARD OF 'braidlaw27.TradeUnion'. -/
def tradeUnionCard : Claim7 := { stood := { row := tradeUnionRow, standIns := [], harness := (true, "0b2782c8e365848f93fe9550c1eafe7c2f8a892fdc6e9872f281f679c2fe5472"), looks := false }, kinds := [], alts := [], laidByText := true, laidKinds := [.data], laidTests := true, laidLooks := .later }
def TradeUnionCardSaid : Prop := Claim7.holds Tryz.pinned (.plain (OpenSpec.ofChange tradeUnionSpec)) tradeUnionCard

/-- THE TIED CARD OF 'braidlaw27.TradeNames'. -/
def tradeNamesCard : Claim7 := { stood := { row := tradeNamesRow, standIns := [], harness := (true, "0b2782c8e365848f93fe9550c1eafe7c2f8a892fdc6e9872f281f679c2fe5472"), looks := false }, kinds := [], alts := [], laidByText := true, laidKinds := [.data], laidTests := true, laidLooks := .later }
def TradeNamesCardSaid : Prop := Claim7.holds Tryz.pinned (.plain (OpenSpec.ofChange tradeNamesSpec)) tradeNamesCard

/-- THE SECOND FORM's CARD OF 'braidlaw27.TradeFinds'. -/
def tradeFindsUptoCard : Claim7 := { stood := { row := tradeFindsUptoRow, standIns := [], harness := (true, "0b2782c8e365848f93fe9550c1eafe7c2f8a892fdc6e9872f281f679c2fe5472"), looks := false }, kinds := [], alts := [], laidByText := true, laidKinds := [.data], laidTests := true, laidLooks := .later }
def TradeFindsUptoCardSaid : Prop := Claim7.holds Tryz.pinned (.plain (OpenSpec.upto tradeFindsSpec)) tradeFindsUptoCard

/-- THE SECOND FORM's CARD OF 'braidlaw27.TradeGives'. -/
def tradeGivesUptoCard : Claim7 := { stood := { row := tradeGivesUptoRow, standIns := [], harness := (true, "0b2782c8e365848f93fe9550c1eafe7c2f8a892fdc6e9872f281f679c2fe5472"), looks := false }, kinds := [], alts := [], laidByText := true, laidKinds := [.data], laidTests := true, laidLooks := .later }
def TradeGivesUptoCardSaid : Prop := Claim7.holds Tryz.pinned (.plain (OpenSpec.upto tradeGivesSpec)) tradeGivesUptoCard

/-- THE SECOND FORM's CARD OF 'braidlaw27.TradeKnown'. -/
def tradeKnownUptoCard : Claim7 := { stood := { row := tradeKnownUptoRow, standIns := [], harness := (true, "0b2782c8e365848f93fe9550c1eafe7c2f8a892fdc6e9872f281f679c2fe5472"), looks := false }, kinds := [], alts := [], laidByText := true, laidKinds := [.data], laidTests := true, laidLooks := .later }
def TradeKnownUptoCardSaid : Prop := Claim7.holds Tryz.pinned (.plain (OpenSpec.upto tradeKnownSpec)) tradeKnownUptoCard

/-- THE SECOND FORM's CARD OF 'braidlaw27.TradeOrder'. -/
def tradeOrderUptoCard : Claim7 := { stood := { row := tradeOrderUptoRow, standIns := [], harness := (true, "0b2782c8e365848f93fe9550c1eafe7c2f8a892fdc6e9872f281f679c2fe5472"), looks := false }, kinds := [], alts := [], laidByText := true, laidKinds := [.data], laidTests := true, laidLooks := .later }
def TradeOrderUptoCardSaid : Prop := Claim7.holds Tryz.pinned (.plain (OpenSpec.upto tradeOrderSpec)) tradeOrderUptoCard

/-- THE SECOND FORM's CARD OF 'braidlaw27.TradeFrames'. -/
def tradeFramesUptoCard : Claim7 := { stood := { row := tradeFramesUptoRow, standIns := [], harness := (true, "0b2782c8e365848f93fe9550c1eafe7c2f8a892fdc6e9872f281f679c2fe5472"), looks := false }, kinds := [], alts := [], laidByText := true, laidKinds := [.data], laidTests := true, laidLooks := .later }
def TradeFramesUptoCardSaid : Prop := Claim7.holds Tryz.pinned (.plain (OpenSpec.upto tradeFramesSpec)) tradeFramesUptoCard

/-- THE SECOND FORM's CARD OF 'braidlaw27.TradeUnion'. -/
def tradeUnionUptoCard : Claim7 := { stood := { row := tradeUnionUptoRow, standIns := [], harness := (true, "0b2782c8e365848f93fe9550c1eafe7c2f8a892fdc6e9872f281f679c2fe5472"), looks := false }, kinds := [], alts := [], laidByText := true, laidKinds := [.data], laidTests := true, laidLooks := .later }
def TradeUnionUptoCardSaid : Prop := Claim7.holds Tryz.pinned (.plain (OpenSpec.upto tradeUnionSpec)) tradeUnionUptoCard

/-- THE SECOND FORM's CARD OF 'braidlaw27.TradeNames'. -/
def tradeNamesUptoCard : Claim7 := { stood := { row := tradeNamesUptoRow, standIns := [], harness := (true, "0b2782c8e365848f93fe9550c1eafe7c2f8a892fdc6e9872f281f679c2fe5472"), looks := false }, kinds := [], alts := [], laidByText := true, laidKinds := [.data], laidTests := true, laidLooks := .later }
def TradeNamesUptoCardSaid : Prop := Claim7.holds Tryz.pinned (.plain (OpenSpec.upto tradeNamesSpec)) tradeNamesUptoCard
end Rows
end Go.Proofs.YtefkialcgmohkaaGreatDoor
