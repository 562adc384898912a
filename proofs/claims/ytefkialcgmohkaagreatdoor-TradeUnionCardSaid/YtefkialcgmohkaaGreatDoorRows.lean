/-
  NARROWER THAN 'FOR EVERY INPUT', by the rows' own cells (each row's printed sentence says how): TradeFinds: laid · TradeGives: laid · TradeKnown: laid · TradeOrder: laid · TradeFrames: laid · TradeUnion: laid · TradeNames: laid.
  DERIVED. THE GIVEN ROWS OF THIS SEAT. 7 by the template 'for every input the law returns true; each argument reads behind the call as it read before'; 0 by the template 'total and deterministic' (their statements: YtefkialcgmohkaaGreatDoorTotals.lean).
  GIVEN WITH THE SEED: the statements are not yours to turn. If you find one false, say at which input.
  Laid BY PROGRAM, IN A SANDBOX (cutbox-rows.mjs): the forced cells as the released guide's own fill.sh prints them over the translation f88d90e5d3e190b1… (all of the seat's roots in one cut). By AI agents, Wed Nov 11 2026. No macro, syntax, notation, axiom, sorry.
-/
import Derived.Test.YtefkialcgmohkaaGreatDoorChecked
import GoSem.Claim
import GoSem.ClaimJoined
import GoSem.ClaimMapViews
import Derived.JoinedTies
import Derived.KernelRfl
namespace Go.Proofs.YtefkialcgmohkaaGreatDoor
/- THE CELL 'sum', in the pinned program and in every row, IS THE sha256 OF THE DUMP (.gsa) THAT YtefkialcgmohkaaGreatDoorProg.lean LOADS. Nothing in Lean hashes anything: it is a label: what it is worth is what the hold of that sum in a sandbox is worth. -/
noncomputable def Tryz.pinned : Pinned := { name := "ytefkialcgmohkaagreatdoor", sum := "f88d90e5d3e190b1f100c5e666fcf40961da19cc662b3c589a56f037780004ac", checked := Tryz.checked }
namespace Rows
def none {H : Type} : Left H := { results := [], args := [] }

/- WHAT THE LISTED PACKAGE-LEVEL VARIABLES READ AS WHEN THE CALL BEGINS. Each datum BY PROGRAM (the guide's laid-datum.mjs) off the statement by which the dump's own 'gosem.cut.vars' lays the variable. In a bare row this is a premise. The card (YtefkialcgmohkaaGreatDoorCards.lean) ties it to the program's text. -/
def laid_braid_digest_constants {H : Type} : DataW H := .agg [.lit (.int .u32 1116352408), .lit (.int .u32 1899447441), .lit (.int .u32 3049323471), .lit (.int .u32 3921009573), .lit (.int .u32 961987163), .lit (.int .u32 1508970993), .lit (.int .u32 2453635748), .lit (.int .u32 2870763221), .lit (.int .u32 3624381080), .lit (.int .u32 310598401), .lit (.int .u32 607225278), .lit (.int .u32 1426881987), .lit (.int .u32 1925078388), .lit (.int .u32 2162078206), .lit (.int .u32 2614888103), .lit (.int .u32 3248222580), .lit (.int .u32 3835390401), .lit (.int .u32 4022224774), .lit (.int .u32 264347078), .lit (.int .u32 604807628), .lit (.int .u32 770255983), .lit (.int .u32 1249150122), .lit (.int .u32 1555081692), .lit (.int .u32 1996064986), .lit (.int .u32 2554220882), .lit (.int .u32 2821834349), .lit (.int .u32 2952996808), .lit (.int .u32 3210313671), .lit (.int .u32 3336571891), .lit (.int .u32 3584528711), .lit (.int .u32 113926993), .lit (.int .u32 338241895), .lit (.int .u32 666307205), .lit (.int .u32 773529912), .lit (.int .u32 1294757372), .lit (.int .u32 1396182291), .lit (.int .u32 1695183700), .lit (.int .u32 1986661051), .lit (.int .u32 2177026350), .lit (.int .u32 2456956037), .lit (.int .u32 2730485921), .lit (.int .u32 2820302411), .lit (.int .u32 3259730800), .lit (.int .u32 3345764771), .lit (.int .u32 3516065817), .lit (.int .u32 3600352804), .lit (.int .u32 4094571909), .lit (.int .u32 275423344), .lit (.int .u32 430227734), .lit (.int .u32 506948616), .lit (.int .u32 659060556), .lit (.int .u32 883997877), .lit (.int .u32 958139571), .lit (.int .u32 1322822218), .lit (.int .u32 1537002063), .lit (.int .u32 1747873779), .lit (.int .u32 1955562222), .lit (.int .u32 2024104815), .lit (.int .u32 2227730452), .lit (.int .u32 2361852424), .lit (.int .u32 2428436474), .lit (.int .u32 2756734187), .lit (.int .u32 3204031479), .lit (.int .u32 3329325298)]

/-- 'braidlaw27.TradeFinds': WHATEVER THE INPUT: true; the input reads as it did. -/
def tradeFindsSpec : ChangeSpec := { name := "tradeFinds", fn := fun _ => fun
  | [d1, d2, d3] => { results := [.lit (.bool true)], args := [d1, d2, d3] }
  | _ => none }
def tradeFindsRow : OpenClaim := { program := "ytefkialcgmohkaagreatdoor", sum := "f88d90e5d3e190b1f100c5e666fcf40961da19cc662b3c589a56f037780004ac", func := "braid/braidlaw27.TradeFinds", spec := "tradeFinds", inPlace := ["internal/bytealg.Compare"], unfollowed := true, recurses := true, named := ["braid/digest.constants"], plainKeys := false, apart := false, laid := [("braid/digest.constants", laid_braid_digest_constants)] }
def TradeFindsSaid : Prop := tradeFindsRow.holds Tryz.pinned (OpenSpec.ofChange tradeFindsSpec)

/-- ITS FALSE NEIGHBOUR: 'it returns false'. Refute it at one input. -/
def tradeFindsWrong : ChangeSpec := { name := "tradeFinds", fn := fun _ => fun
  | [d1, d2, d3] => { results := [.lit (.bool false)], args := [d1, d2, d3] }
  | _ => none }
def TradeFindsWrongFalsely : Prop := tradeFindsRow.holds Tryz.pinned (OpenSpec.ofChange tradeFindsWrong)

/-- 'braidlaw27.TradeGives': WHATEVER THE INPUT: true; the input reads as it did. -/
def tradeGivesSpec : ChangeSpec := { name := "tradeGives", fn := fun _ => fun
  | [d1, d2] => { results := [.lit (.bool true)], args := [d1, d2] }
  | _ => none }
def tradeGivesRow : OpenClaim := { program := "ytefkialcgmohkaagreatdoor", sum := "f88d90e5d3e190b1f100c5e666fcf40961da19cc662b3c589a56f037780004ac", func := "braid/braidlaw27.TradeGives", spec := "tradeGives", inPlace := ["internal/bytealg.Compare", "slices.overlaps[braid/api.ID]"], unfollowed := true, recurses := true, named := ["braid/digest.constants"], plainKeys := false, apart := false, laid := [("braid/digest.constants", laid_braid_digest_constants)] }
def TradeGivesSaid : Prop := tradeGivesRow.holds Tryz.pinned (OpenSpec.ofChange tradeGivesSpec)

/-- ITS FALSE NEIGHBOUR: 'it returns false'. Refute it at one input. -/
def tradeGivesWrong : ChangeSpec := { name := "tradeGives", fn := fun _ => fun
  | [d1, d2] => { results := [.lit (.bool false)], args := [d1, d2] }
  | _ => none }
def TradeGivesWrongFalsely : Prop := tradeGivesRow.holds Tryz.pinned (OpenSpec.ofChange tradeGivesWrong)

/-- 'braidlaw27.TradeKnown': WHATEVER THE INPUT: true; the input reads as it did. -/
def tradeKnownSpec : ChangeSpec := { name := "tradeKnown", fn := fun _ => fun
  | [d1, d2] => { results := [.lit (.bool true)], args := [d1, d2] }
  | _ => none }
def tradeKnownRow : OpenClaim := { program := "ytefkialcgmohkaagreatdoor", sum := "f88d90e5d3e190b1f100c5e666fcf40961da19cc662b3c589a56f037780004ac", func := "braid/braidlaw27.TradeKnown", spec := "tradeKnown", inPlace := ["internal/bytealg.Compare", "slices.overlaps[braid/api.ID]"], unfollowed := true, recurses := true, named := ["braid/digest.constants"], plainKeys := false, apart := false, laid := [("braid/digest.constants", laid_braid_digest_constants)] }
def TradeKnownSaid : Prop := tradeKnownRow.holds Tryz.pinned (OpenSpec.ofChange tradeKnownSpec)

/-- ITS FALSE NEIGHBOUR: 'it returns false'. Refute it at one input. -/
def tradeKnownWrong : ChangeSpec := { name := "tradeKnown", fn := fun _ => fun
  | [d1, d2] => { results := [.lit (.bool false)], args := [d1, d2] }
  | _ => none }
def TradeKnownWrongFalsely : Prop := tradeKnownRow.holds Tryz.pinned (OpenSpec.ofChange tradeKnownWrong)

/-- 'braidlaw27.TradeOrder': WHATEVER THE INPUT: true; the input reads as it did. -/
def tradeOrderSpec : ChangeSpec := { name := "tradeOrder", fn := fun _ => fun
  | [d1, d2, d3] => { results := [.lit (.bool true)], args := [d1, d2, d3] }
  | _ => none }
def tradeOrderRow : OpenClaim := { program := "ytefkialcgmohkaagreatdoor", sum := "f88d90e5d3e190b1f100c5e666fcf40961da19cc662b3c589a56f037780004ac", func := "braid/braidlaw27.TradeOrder", spec := "tradeOrder", inPlace := ["internal/bytealg.Compare", "slices.overlaps[braid/api.ID]"], unfollowed := true, recurses := true, named := ["braid/digest.constants"], plainKeys := false, apart := false, laid := [("braid/digest.constants", laid_braid_digest_constants)] }
def TradeOrderSaid : Prop := tradeOrderRow.holds Tryz.pinned (OpenSpec.ofChange tradeOrderSpec)

/-- ITS FALSE NEIGHBOUR: 'it returns false'. Refute it at one input. -/
def tradeOrderWrong : ChangeSpec := { name := "tradeOrder", fn := fun _ => fun
  | [d1, d2, d3] => { results := [.lit (.bool false)], args := [d1, d2, d3] }
  | _ => none }
def TradeOrderWrongFalsely : Prop := tradeOrderRow.holds Tryz.pinned (OpenSpec.ofChange tradeOrderWrong)

/-- 'braidlaw27.TradeFrames': WHATEVER THE INPUT: true; the input reads as it did. -/
def tradeFramesSpec : ChangeSpec := { name := "tradeFrames", fn := fun _ => fun
  | [d1, d2, d3] => { results := [.lit (.bool true)], args := [d1, d2, d3] }
  | _ => none }
def tradeFramesRow : OpenClaim := { program := "ytefkialcgmohkaagreatdoor", sum := "f88d90e5d3e190b1f100c5e666fcf40961da19cc662b3c589a56f037780004ac", func := "braid/braidlaw27.TradeFrames", spec := "tradeFrames", inPlace := ["internal/bytealg.Compare", "slices.overlaps[braid/api.ID]"], unfollowed := true, recurses := true, named := ["braid/digest.constants"], plainKeys := false, apart := false, laid := [("braid/digest.constants", laid_braid_digest_constants)] }
def TradeFramesSaid : Prop := tradeFramesRow.holds Tryz.pinned (OpenSpec.ofChange tradeFramesSpec)

/-- ITS FALSE NEIGHBOUR: 'it returns false'. Refute it at one input. -/
def tradeFramesWrong : ChangeSpec := { name := "tradeFrames", fn := fun _ => fun
  | [d1, d2, d3] => { results := [.lit (.bool false)], args := [d1, d2, d3] }
  | _ => none }
def TradeFramesWrongFalsely : Prop := tradeFramesRow.holds Tryz.pinned (OpenSpec.ofChange tradeFramesWrong)

/-- 'braidlaw27.TradeUnion': WHATEVER THE INPUT: true; the input reads as it did. -/
def tradeUnionSpec : ChangeSpec := { name := "tradeUnion", fn := fun _ => fun
  | [d1, d2] => { results := [.lit (.bool true)], args := [d1, d2] }
  | _ => none }
def tradeUnionRow : OpenClaim := { program := "ytefkialcgmohkaagreatdoor", sum := "f88d90e5d3e190b1f100c5e666fcf40961da19cc662b3c589a56f037780004ac", func := "braid/braidlaw27.TradeUnion", spec := "tradeUnion", inPlace := ["internal/bytealg.Compare", "slices.overlaps[braid/api.ID]"], unfollowed := true, recurses := true, named := ["braid/digest.constants"], plainKeys := false, apart := false, laid := [("braid/digest.constants", laid_braid_digest_constants)] }
def TradeUnionSaid : Prop := tradeUnionRow.holds Tryz.pinned (OpenSpec.ofChange tradeUnionSpec)

/-- ITS FALSE NEIGHBOUR: 'it returns false'. Refute it at one input. -/
def tradeUnionWrong : ChangeSpec := { name := "tradeUnion", fn := fun _ => fun
  | [d1, d2] => { results := [.lit (.bool false)], args := [d1, d2] }
  | _ => none }
def TradeUnionWrongFalsely : Prop := tradeUnionRow.holds Tryz.pinned (OpenSpec.ofChange tradeUnionWrong)

/-- 'braidlaw27.TradeNames': WHATEVER THE INPUT: true; the input reads as it did. -/
def tradeNamesSpec : ChangeSpec := { name := "tradeNames", fn := fun _ => fun
  | [] => { results := [.lit (.bool true)], args := [] }
  | _ => none }
def tradeNamesRow : OpenClaim := { program := "ytefkialcgmohkaagreatdoor", sum := "f88d90e5d3e190b1f100c5e666fcf40961da19cc662b3c589a56f037780004ac", func := "braid/braidlaw27.TradeNames", spec := "tradeNames", inPlace := ["internal/bytealg.Compare", "slices.overlaps[braid/api.ID]"], unfollowed := true, recurses := true, named := ["braid/digest.constants"], plainKeys := false, apart := false, laid := [("braid/digest.constants", laid_braid_digest_constants)] }
def TradeNamesSaid : Prop := tradeNamesRow.holds Tryz.pinned (OpenSpec.ofChange tradeNamesSpec)

/-- ITS FALSE NEIGHBOUR: 'it returns false'. Refute it at one input. -/
def tradeNamesWrong : ChangeSpec := { name := "tradeNames", fn := fun _ => fun
  | [] => { results := [.lit (.bool false)], args := [] }
  | _ => none }
def TradeNamesWrongFalsely : Prop := tradeNamesRow.holds Tryz.pinned (OpenSpec.ofChange tradeNamesWrong)

/- THE SECOND FORM. 'bulk': how many values and letters a reading holds, each counted each time it is reached (what is shared counts as often as it is met; a slice's spare places count too). A statement '..UptoSaid' is the law's where the arguments, and the package variables that the reading takes, are together of bulk at most 1048576: NARROWER than '..Said'. Prove '..Said' where nothing that the law and all that it calls make is longer than what came in: it says more and counts as full. Else prove '..UptoSaid'. A law counts once. -/
mutual
def uptoBulk {H : Type} : DataW H → Nat
  | .lit (.string bytes) => bytes.length + 1
  | .lit _ => 1
  | .nil => 1
  | .ptr d => uptoBulk d + 1
  | .slice elems spare => uptoBulkAll elems + uptoBulkAll spare + 1
  | .agg parts => uptoBulkAll parts + 1
  | .iface _ d => uptoBulk d + 1
  | .map entries => uptoBulkEntries entries + 1
  | .held _ => 1
def uptoBulkAll {H : Type} : List (DataW H) → Nat
  | [] => 0
  | d :: r => uptoBulk d + uptoBulkAll r
def uptoBulkEntries {H : Type} : List (Lit × DataW H) → Nat
  | [] => 0
  | x :: r => uptoBulkEntry x + uptoBulkEntries r
def uptoBulkEntry {H : Type} : Lit × DataW H → Nat
  | (.string bytes, d) => bytes.length + uptoBulk d + 1
  | (_, d) => uptoBulk d + 1
 end
def uptoSmall : (H : Type) → List (DataW H) → Bool := fun _ ds => decide (uptoBulkAll ds ≤ 1048576)
def OpenSpec.upto (s : _root_.Go.ChangeSpec) : _root_.Go.OpenSpec := { _root_.Go.OpenSpec.ofChange s with cond := some uptoSmall }

/-- 'braidlaw27.TradeFinds', WHERE WHAT IT READS IS OF BULK AT MOST 1048576: true; the input reads as it did. -/
def tradeFindsUptoRow : OpenClaim := { program := "ytefkialcgmohkaagreatdoor", sum := "f88d90e5d3e190b1f100c5e666fcf40961da19cc662b3c589a56f037780004ac", func := "braid/braidlaw27.TradeFinds", spec := "tradeFinds", inPlace := ["internal/bytealg.Compare"], unfollowed := true, recurses := true, named := ["braid/digest.constants"], plainKeys := false, apart := false, laid := [("braid/digest.constants", laid_braid_digest_constants)], narrowed := true }
def TradeFindsUptoSaid : Prop := tradeFindsUptoRow.holds Tryz.pinned (OpenSpec.upto tradeFindsSpec)

/-- 'braidlaw27.TradeGives', WHERE WHAT IT READS IS OF BULK AT MOST 1048576: true; the input reads as it did. -/
def tradeGivesUptoRow : OpenClaim := { program := "ytefkialcgmohkaagreatdoor", sum := "f88d90e5d3e190b1f100c5e666fcf40961da19cc662b3c589a56f037780004ac", func := "braid/braidlaw27.TradeGives", spec := "tradeGives", inPlace := ["internal/bytealg.Compare", "slices.overlaps[braid/api.ID]"], unfollowed := true, recurses := true, named := ["braid/digest.constants"], plainKeys := false, apart := false, laid := [("braid/digest.constants", laid_braid_digest_constants)], narrowed := true }
def TradeGivesUptoSaid : Prop := tradeGivesUptoRow.holds Tryz.pinned (OpenSpec.upto tradeGivesSpec)

/-- 'braidlaw27.TradeKnown', WHERE WHAT IT READS IS OF BULK AT MOST 1048576: true; the input reads as it did. -/
def tradeKnownUptoRow : OpenClaim := { program := "ytefkialcgmohkaagreatdoor", sum := "f88d90e5d3e190b1f100c5e666fcf40961da19cc662b3c589a56f037780004ac", func := "braid/braidlaw27.TradeKnown", spec := "tradeKnown", inPlace := ["internal/bytealg.Compare", "slices.overlaps[braid/api.ID]"], unfollowed := true, recurses := true, named := ["braid/digest.constants"], plainKeys := false, apart := false, laid := [("braid/digest.constants", laid_braid_digest_constants)], narrowed := true }
def TradeKnownUptoSaid : Prop := tradeKnownUptoRow.holds Tryz.pinned (OpenSpec.upto tradeKnownSpec)

/-- 'braidlaw27.TradeOrder', WHERE WHAT IT READS IS OF BULK AT MOST 1048576: true; the input reads as it did. -/
def tradeOrderUptoRow : OpenClaim := { program := "ytefkialcgmohkaagreatdoor", sum := "f88d90e5d3e190b1f100c5e666fcf40961da19cc662b3c589a56f037780004ac", func := "braid/braidlaw27.TradeOrder", spec := "tradeOrder", inPlace := ["internal/bytealg.Compare", "slices.overlaps[braid/api.ID]"], unfollowed := true, recurses := true, named := ["braid/digest.constants"], plainKeys := false, apart := false, laid := [("braid/digest.constants", laid_braid_digest_constants)], narrowed := true }
def TradeOrderUptoSaid : Prop := tradeOrderUptoRow.holds Tryz.pinned (OpenSpec.upto tradeOrderSpec)

/-- 'braidlaw27.TradeFrames', WHERE WHAT IT READS IS OF BULK AT MOST 1048576: true; the input reads as it did. -/
def tradeFramesUptoRow : OpenClaim := { program := "ytefkialcgmohkaagreatdoor", sum := "f88d90e5d3e190b1f100c5e666fcf40961da19cc662b3c589a56f037780004ac", func := "braid/braidlaw27.TradeFrames", spec := "tradeFrames", inPlace := ["internal/bytealg.Compare", "slices.overlaps[braid/api.ID]"], unfollowed := true, recurses := true, named := ["braid/digest.constants"], plainKeys := false, apart := false, laid := [("braid/digest.constants", laid_braid_digest_constants)], narrowed := true }
def TradeFramesUptoSaid : Prop := tradeFramesUptoRow.holds Tryz.pinned (OpenSpec.upto tradeFramesSpec)

/-- 'braidlaw27.TradeUnion', WHERE WHAT IT READS IS OF BULK AT MOST 1048576: true; the input reads as it did. -/
def tradeUnionUptoRow : OpenClaim := { program := "ytefkialcgmohkaagreatdoor", sum := "f88d90e5d3e190b1f100c5e666fcf40961da19cc662b3c589a56f037780004ac", func := "braid/braidlaw27.TradeUnion", spec := "tradeUnion", inPlace := ["internal/bytealg.Compare", "slices.overlaps[braid/api.ID]"], unfollowed := true, recurses := true, named := ["braid/digest.constants"], plainKeys := false, apart := false, laid := [("braid/digest.constants", laid_braid_digest_constants)], narrowed := true }
def TradeUnionUptoSaid : Prop := tradeUnionUptoRow.holds Tryz.pinned (OpenSpec.upto tradeUnionSpec)

/-- 'braidlaw27.TradeNames', WHERE WHAT IT READS IS OF BULK AT MOST 1048576: true; the input reads as it did. -/
def tradeNamesUptoRow : OpenClaim := { program := "ytefkialcgmohkaagreatdoor", sum := "f88d90e5d3e190b1f100c5e666fcf40961da19cc662b3c589a56f037780004ac", func := "braid/braidlaw27.TradeNames", spec := "tradeNames", inPlace := ["internal/bytealg.Compare", "slices.overlaps[braid/api.ID]"], unfollowed := true, recurses := true, named := ["braid/digest.constants"], plainKeys := false, apart := false, laid := [("braid/digest.constants", laid_braid_digest_constants)], narrowed := true }
def TradeNamesUptoSaid : Prop := tradeNamesUptoRow.holds Tryz.pinned (OpenSpec.upto tradeNamesSpec)

end Rows
end Go.Proofs.YtefkialcgmohkaaGreatDoor
