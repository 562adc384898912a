/-
  DERIVED. GIVEN WITH THE SEED: THE CARDS: each row of YtfncjjgmldogiaaGreatDoorRows.lean that lists a variable, with what it lists TIED to the program's text (the seventh form; the later family's looks); each row that meets fmt, with fmt's text TOLD by the authors' own Lean function (tested against real Go, not proved from fmt's source: count such statements apart). THE CARD IS WHAT COUNTS. Prove the row's statement (the work); the ties are given (YtfncjjgmldogiaaGreatDoorTie.lean); close each card by the builder's one call (the guide's Derived/Test/ToyasCard.lean, 'card_holds'). Laid BY PROGRAM, IN A SANDBOX (cutbox-door.mjs). By AI agents, Wed Nov 11 2026. No macro, syntax, notation, axiom, sorry.
-/
import Derived.Test.YtfncjjgmldogiaaGreatDoorRows
import GoSem.ClaimSeven
namespace Go.Proofs.YtfncjjgmldogiaaGreatDoor
namespace Rows

/-- THE TIED CARD OF 'braidlaw10.AncestryOrder'. -/
def ancestryOrderCard : Claim7 := { stood := { row := ancestryOrderRow, standIns := [], harness := (true, "92ec117d8b8bbaed6854e9d27e0b7194bbac24e9c66588e7c2660833496c1a5b"), looks := false }, kinds := [], alts := [], laidByText := true, laidKinds := [.data], laidTests := true, laidLooks := .later }
def AncestryOrderCardSaid : Prop := Claim7.holds Tryz.pinned (.plain (OpenSpec.ofChange ancestryOrderSpec)) ancestryOrderCard

/-- THE TIED CARD OF 'braidlaw10.AncestryHeads'. -/
def ancestryHeadsCard : Claim7 := { stood := { row := ancestryHeadsRow, standIns := [], harness := (true, "92ec117d8b8bbaed6854e9d27e0b7194bbac24e9c66588e7c2660833496c1a5b"), looks := false }, kinds := [], alts := [], laidByText := true, laidKinds := [.data], laidTests := true, laidLooks := .later }
def AncestryHeadsCardSaid : Prop := Claim7.holds Tryz.pinned (.plain (OpenSpec.ofChange ancestryHeadsSpec)) ancestryHeadsCard

/-- THE TIED CARD OF 'braidlaw10.AncestryLeast'. -/
def ancestryLeastCard : Claim7 := { stood := { row := ancestryLeastRow, standIns := [], harness := (true, "92ec117d8b8bbaed6854e9d27e0b7194bbac24e9c66588e7c2660833496c1a5b"), looks := false }, kinds := [], alts := [], laidByText := true, laidKinds := [.data], laidTests := true, laidLooks := .later }
def AncestryLeastCardSaid : Prop := Claim7.holds Tryz.pinned (.plain (OpenSpec.ofChange ancestryLeastSpec)) ancestryLeastCard

/-- THE TIED CARD OF 'braidlaw10.AncestryDeep'. -/
def ancestryDeepCard : Claim7 := { stood := { row := ancestryDeepRow, standIns := [], harness := (true, "92ec117d8b8bbaed6854e9d27e0b7194bbac24e9c66588e7c2660833496c1a5b"), looks := false }, kinds := [], alts := [], laidByText := true, laidKinds := [.data], laidTests := true, laidLooks := .later }
def AncestryDeepCardSaid : Prop := Claim7.holds Tryz.pinned (.plain (OpenSpec.ofChange ancestryDeepSpec)) ancestryDeepCard

/-- THE TIED CARD OF 'braidlaw10.AncestryNames'. -/
def ancestryNamesCard : Claim7 := { stood := { row := ancestryNamesRow, standIns := [], harness := (true, "92ec117d8b8bbaed6854e9d27e0b7194bbac24e9c66588e7c2660833496c1a5b"), looks := false }, kinds := [], alts := [], laidByText := true, laidKinds := [.data], laidTests := true, laidLooks := .later }
def AncestryNamesCardSaid : Prop := Claim7.holds Tryz.pinned (.plain (OpenSpec.ofChange ancestryNamesSpec)) ancestryNamesCard

/-- THE SECOND FORM's CARD OF 'braidlaw10.AncestryOrder'. -/
def ancestryOrderUptoCard : Claim7 := { stood := { row := ancestryOrderUptoRow, standIns := [], harness := (true, "92ec117d8b8bbaed6854e9d27e0b7194bbac24e9c66588e7c2660833496c1a5b"), looks := false }, kinds := [], alts := [], laidByText := true, laidKinds := [.data], laidTests := true, laidLooks := .later }
def AncestryOrderUptoCardSaid : Prop := Claim7.holds Tryz.pinned (.plain (OpenSpec.upto ancestryOrderSpec)) ancestryOrderUptoCard

/-- THE SECOND FORM's CARD OF 'braidlaw10.AncestryHeads'. -/
def ancestryHeadsUptoCard : Claim7 := { stood := { row := ancestryHeadsUptoRow, standIns := [], harness := (true, "92ec117d8b8bbaed6854e9d27e0b7194bbac24e9c66588e7c2660833496c1a5b"), looks := false }, kinds := [], alts := [], laidByText := true, laidKinds := [.data], laidTests := true, laidLooks := .later }
def AncestryHeadsUptoCardSaid : Prop := Claim7.holds Tryz.pinned (.plain (OpenSpec.upto ancestryHeadsSpec)) ancestryHeadsUptoCard

/-- THE SECOND FORM's CARD OF 'braidlaw10.AncestryLeast'. -/
def ancestryLeastUptoCard : Claim7 := { stood := { row := ancestryLeastUptoRow, standIns := [], harness := (true, "92ec117d8b8bbaed6854e9d27e0b7194bbac24e9c66588e7c2660833496c1a5b"), looks := false }, kinds := [], alts := [], laidByText := true, laidKinds := [.data], laidTests := true, laidLooks := .later }
def AncestryLeastUptoCardSaid : Prop := Claim7.holds Tryz.pinned (.plain (OpenSpec.upto ancestryLeastSpec)) ancestryLeastUptoCard

/-- THE SECOND FORM's CARD OF 'braidlaw10.AncestryDeep'. -/
def ancestryDeepUptoCard : Claim7 := { stood := { row := ancestryDeepUptoRow, standIns := [], harness := (true, "92ec117d8b8bbaed6854e9d27e0b7194bbac24e9c66588e7c2660833496c1a5b"), looks := false }, kinds := [], alts := [], laidByText := true, laidKinds := [.data], laidTests := true, laidLooks := .later }
def AncestryDeepUptoCardSaid : Prop := Claim7.holds Tryz.pinned (.plain (OpenSpec.upto ancestryDeepSpec)) ancestryDeepUptoCard

/-- THE SECOND FORM's CARD OF 'braidlaw10.AncestryNames'. -/
def ancestryNamesUptoCard : Claim7 := { stood := { row := ancestryNamesUptoRow, standIns := [], harness := (true, "92ec117d8b8bbaed6854e9d27e0b7194bbac24e9c66588e7c2660833496c1a5b"), looks := false }, kinds := [], alts := [], laidByText := true, laidKinds := [.data], laidTests := true, laidLooks := .later }
def AncestryNamesUptoCardSaid : Prop := Claim7.holds Tryz.pinned (.plain (OpenSpec.upto ancestryNamesSpec)) ancestryNamesUptoCard
end Rows
end Go.Proofs.YtfncjjgmldogiaaGreatDoor
