/-
  DERIVED. GIVEN WITH THE SEED: THE CARDS: each row of YtjnheeekdadcpaaGreatDoorRows.lean that lists a variable, with what it lists TIED to the program's text (the seventh form; the later family's looks); each row that meets fmt, with fmt's text TOLD by the authors' own Lean function (tested against real Go, not proved from fmt's source: count such statements apart). THE CARD IS WHAT COUNTS. Prove the row's statement (the work); the ties are given (YtjnheeekdadcpaaGreatDoorTie.lean); close each card by the builder's one call (the guide's Derived/Test/ToyasCard.lean, 'card_holds'). Laid BY PROGRAM, IN A SANDBOX (cutbox-door.mjs). By AI agents, Wed Nov 11 2026. No macro, syntax, notation, axiom, sorry.
-/
import Derived.Test.YtjnheeekdadcpaaGreatDoorRows
import GoSem.ClaimSeven
namespace Go.Proofs.YtjnheeekdadcpaaGreatDoor
namespace Rows

/-- THE TIED CARD OF 'braidlaw10.AncestryFinds'. -/
def ancestryFindsCard : Claim7 := { stood := { row := ancestryFindsRow, standIns := [], harness := (true, "0bd1ee6423b342588ec3edd274869445ff880561af1d52afba2252081845aba3"), looks := false }, kinds := [], alts := [], laidByText := true, laidKinds := [.data], laidTests := true, laidLooks := .later }
def AncestryFindsCardSaid : Prop := Claim7.holds Tryz.pinned (.plain (OpenSpec.ofChange ancestryFindsSpec)) ancestryFindsCard

/-- THE TIED CARD OF 'braidlaw10.AncestryLists'. -/
def ancestryListsCard : Claim7 := { stood := { row := ancestryListsRow, standIns := [], harness := (true, "0bd1ee6423b342588ec3edd274869445ff880561af1d52afba2252081845aba3"), looks := false }, kinds := [], alts := [], laidByText := true, laidKinds := [.data], laidTests := true, laidLooks := .later }
def AncestryListsCardSaid : Prop := Claim7.holds Tryz.pinned (.plain (OpenSpec.ofChange ancestryListsSpec)) ancestryListsCard

/-- THE SECOND FORM's CARD OF 'braidlaw10.AncestryFinds'. -/
def ancestryFindsUptoCard : Claim7 := { stood := { row := ancestryFindsUptoRow, standIns := [], harness := (true, "0bd1ee6423b342588ec3edd274869445ff880561af1d52afba2252081845aba3"), looks := false }, kinds := [], alts := [], laidByText := true, laidKinds := [.data], laidTests := true, laidLooks := .later }
def AncestryFindsUptoCardSaid : Prop := Claim7.holds Tryz.pinned (.plain (OpenSpec.upto ancestryFindsSpec)) ancestryFindsUptoCard

/-- THE SECOND FORM's CARD OF 'braidlaw10.AncestryLists'. -/
def ancestryListsUptoCard : Claim7 := { stood := { row := ancestryListsUptoRow, standIns := [], harness := (true, "0bd1ee6423b342588ec3edd274869445ff880561af1d52afba2252081845aba3"), looks := false }, kinds := [], alts := [], laidByText := true, laidKinds := [.data], laidTests := true, laidLooks := .later }
def AncestryListsUptoCardSaid : Prop := Claim7.holds Tryz.pinned (.plain (OpenSpec.upto ancestryListsSpec)) ancestryListsUptoCard
end Rows
end Go.Proofs.YtjnheeekdadcpaaGreatDoor
