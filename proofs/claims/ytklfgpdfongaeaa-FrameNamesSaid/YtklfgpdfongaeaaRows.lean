/-
  No cell of these rows narrows 'for every input' (looked for: loops, veiled, ifaces, maps, wideKeys, modest, calm, conditions, laid).
  DERIVED. THE GIVEN ROWS OF THIS SEAT. 20 by the template 'for every input the law returns true; each argument reads behind the call as it read before'; 0 by the template 'total and deterministic' (their statements: YtklfgpdfongaeaaTotals.lean).
  GIVEN WITH THE SEED: the statements are not yours to turn. If you find one false, say at which input.
  Laid BY PROGRAM, IN A SANDBOX (cutbox-rows.mjs): the forced cells as the released guide's own fill.sh prints them over the translation a0022c6119be70de… (all of the seat's roots in one cut). By AI agents, Wed Nov 11 2026. No macro, syntax, notation, axiom, sorry.
-/
import Derived.Test.YtklfgpdfongaeaaChecked
import GoSem.Claim
import GoSem.ClaimJoined
import GoSem.ClaimMapViews
import Derived.JoinedTies
import Derived.KernelRfl
namespace Go.Proofs.Ytklfgpdfongaeaa
/- THE CELL 'sum', in the pinned program and in every row, IS THE sha256 OF THE DUMP (.gsa) THAT YtklfgpdfongaeaaProg.lean LOADS. Nothing in Lean hashes anything: it is a label: what it is worth is what the hold of that sum in a sandbox is worth. -/
noncomputable def Try.pinned : Pinned := { name := "ytklfgpdfongaeaa", sum := "a0022c6119be70de4c885de17d2efe29279f2ae38a50d26cfa0c4501ff58f676", checked := Try.checked }
namespace Rows
def none {H : Type} : Left H := { results := [], args := [] }

/-- 'braidlaw38.GossipHears': WHATEVER THE INPUT: true; the input reads as it did. -/
def gossipHearsSpec : ChangeSpec := { name := "gossipHears", fn := fun _ => fun
  | [d1, d2] => { results := [.lit (.bool true)], args := [d1, d2] }
  | _ => none }
def gossipHearsRow : OpenClaim := { program := "ytklfgpdfongaeaa", sum := "a0022c6119be70de4c885de17d2efe29279f2ae38a50d26cfa0c4501ff58f676", func := "braid/braidlaw38.GossipHears", spec := "gossipHears", apart := false }
def GossipHearsSaid : Prop := gossipHearsRow.holds Try.pinned (OpenSpec.ofChange gossipHearsSpec)

/-- ITS FALSE NEIGHBOUR: 'it returns false'. Refute it at one input. -/
def gossipHearsWrong : ChangeSpec := { name := "gossipHears", fn := fun _ => fun
  | [d1, d2] => { results := [.lit (.bool false)], args := [d1, d2] }
  | _ => none }
def GossipHearsWrongFalsely : Prop := gossipHearsRow.holds Try.pinned (OpenSpec.ofChange gossipHearsWrong)

/-- 'braidlaw04.WireNumbers': WHATEVER THE INPUT: true; the input reads as it did. -/
def wireNumbersSpec : ChangeSpec := { name := "wireNumbers", fn := fun _ => fun
  | [d1, d2, d3] => { results := [.lit (.bool true)], args := [d1, d2, d3] }
  | _ => none }
def wireNumbersRow : OpenClaim := { program := "ytklfgpdfongaeaa", sum := "a0022c6119be70de4c885de17d2efe29279f2ae38a50d26cfa0c4501ff58f676", func := "braid/braidlaw04.WireNumbers", spec := "wireNumbers", apart := false }
def WireNumbersSaid : Prop := wireNumbersRow.holds Try.pinned (OpenSpec.ofChange wireNumbersSpec)

/-- ITS FALSE NEIGHBOUR: 'it returns false'. Refute it at one input. -/
def wireNumbersWrong : ChangeSpec := { name := "wireNumbers", fn := fun _ => fun
  | [d1, d2, d3] => { results := [.lit (.bool false)], args := [d1, d2, d3] }
  | _ => none }
def WireNumbersWrongFalsely : Prop := wireNumbersRow.holds Try.pinned (OpenSpec.ofChange wireNumbersWrong)

/-- 'braidlaw04.WireOrder': WHATEVER THE INPUT: true; the input reads as it did. -/
def wireOrderSpec : ChangeSpec := { name := "wireOrder", fn := fun _ => fun
  | [d1, d2] => { results := [.lit (.bool true)], args := [d1, d2] }
  | _ => none }
def wireOrderRow : OpenClaim := { program := "ytklfgpdfongaeaa", sum := "a0022c6119be70de4c885de17d2efe29279f2ae38a50d26cfa0c4501ff58f676", func := "braid/braidlaw04.WireOrder", spec := "wireOrder", apart := false }
def WireOrderSaid : Prop := wireOrderRow.holds Try.pinned (OpenSpec.ofChange wireOrderSpec)

/-- ITS FALSE NEIGHBOUR: 'it returns false'. Refute it at one input. -/
def wireOrderWrong : ChangeSpec := { name := "wireOrder", fn := fun _ => fun
  | [d1, d2] => { results := [.lit (.bool false)], args := [d1, d2] }
  | _ => none }
def WireOrderWrongFalsely : Prop := wireOrderRow.holds Try.pinned (OpenSpec.ofChange wireOrderWrong)

/-- 'braidlaw05.ValueMakes': WHATEVER THE INPUT: true; the input reads as it did. -/
def valueMakesSpec : ChangeSpec := { name := "valueMakes", fn := fun _ => fun
  | [d1, d2, d3, d4] => { results := [.lit (.bool true)], args := [d1, d2, d3, d4] }
  | _ => none }
def valueMakesRow : OpenClaim := { program := "ytklfgpdfongaeaa", sum := "a0022c6119be70de4c885de17d2efe29279f2ae38a50d26cfa0c4501ff58f676", func := "braid/braidlaw05.ValueMakes", spec := "valueMakes", unfollowed := true, recurses := true, apart := false }
def ValueMakesSaid : Prop := valueMakesRow.holds Try.pinned (OpenSpec.ofChange valueMakesSpec)

/-- ITS FALSE NEIGHBOUR: 'it returns false'. Refute it at one input. -/
def valueMakesWrong : ChangeSpec := { name := "valueMakes", fn := fun _ => fun
  | [d1, d2, d3, d4] => { results := [.lit (.bool false)], args := [d1, d2, d3, d4] }
  | _ => none }
def ValueMakesWrongFalsely : Prop := valueMakesRow.holds Try.pinned (OpenSpec.ofChange valueMakesWrong)

/-- 'braidlaw04.WireOne': WHATEVER THE INPUT: true; the input reads as it did. -/
def wireOneSpec : ChangeSpec := { name := "wireOne", fn := fun _ => fun
  | [d1, d2, d3, d4] => { results := [.lit (.bool true)], args := [d1, d2, d3, d4] }
  | _ => none }
def wireOneRow : OpenClaim := { program := "ytklfgpdfongaeaa", sum := "a0022c6119be70de4c885de17d2efe29279f2ae38a50d26cfa0c4501ff58f676", func := "braid/braidlaw04.WireOne", spec := "wireOne", apart := false }
def WireOneSaid : Prop := wireOneRow.holds Try.pinned (OpenSpec.ofChange wireOneSpec)

/-- ITS FALSE NEIGHBOUR: 'it returns false'. Refute it at one input. -/
def wireOneWrong : ChangeSpec := { name := "wireOne", fn := fun _ => fun
  | [d1, d2, d3, d4] => { results := [.lit (.bool false)], args := [d1, d2, d3, d4] }
  | _ => none }
def WireOneWrongFalsely : Prop := wireOneRow.holds Try.pinned (OpenSpec.ofChange wireOneWrong)

/-- 'braidlaw25.SessionEnds': WHATEVER THE INPUT: true; the input reads as it did. -/
def sessionEndsSpec : ChangeSpec := { name := "sessionEnds", fn := fun _ => fun
  | [d1, d2, d3, d4, d5] => { results := [.lit (.bool true)], args := [d1, d2, d3, d4, d5] }
  | _ => none }
def sessionEndsRow : OpenClaim := { program := "ytklfgpdfongaeaa", sum := "a0022c6119be70de4c885de17d2efe29279f2ae38a50d26cfa0c4501ff58f676", func := "braid/braidlaw25.SessionEnds", spec := "sessionEnds", unfollowed := true, recurses := true, apart := false }
def SessionEndsSaid : Prop := sessionEndsRow.holds Try.pinned (OpenSpec.ofChange sessionEndsSpec)

/-- ITS FALSE NEIGHBOUR: 'it returns false'. Refute it at one input. -/
def sessionEndsWrong : ChangeSpec := { name := "sessionEnds", fn := fun _ => fun
  | [d1, d2, d3, d4, d5] => { results := [.lit (.bool false)], args := [d1, d2, d3, d4, d5] }
  | _ => none }
def SessionEndsWrongFalsely : Prop := sessionEndsRow.holds Try.pinned (OpenSpec.ofChange sessionEndsWrong)

/-- 'braidlaw04.WireIDs': WHATEVER THE INPUT: true; the input reads as it did. -/
def wireIDsSpec : ChangeSpec := { name := "wireIDs", fn := fun _ => fun
  | [d1, d2] => { results := [.lit (.bool true)], args := [d1, d2] }
  | _ => none }
def wireIDsRow : OpenClaim := { program := "ytklfgpdfongaeaa", sum := "a0022c6119be70de4c885de17d2efe29279f2ae38a50d26cfa0c4501ff58f676", func := "braid/braidlaw04.WireIDs", spec := "wireIDs", inPlace := ["internal/bytealg.Compare"], unfollowed := true, recurses := true, apart := false }
def WireIDsSaid : Prop := wireIDsRow.holds Try.pinned (OpenSpec.ofChange wireIDsSpec)

/-- ITS FALSE NEIGHBOUR: 'it returns false'. Refute it at one input. -/
def wireIDsWrong : ChangeSpec := { name := "wireIDs", fn := fun _ => fun
  | [d1, d2] => { results := [.lit (.bool false)], args := [d1, d2] }
  | _ => none }
def WireIDsWrongFalsely : Prop := wireIDsRow.holds Try.pinned (OpenSpec.ofChange wireIDsWrong)

/-- 'braidlaw04.WireLists': WHATEVER THE INPUT: true; the input reads as it did. -/
def wireListsSpec : ChangeSpec := { name := "wireLists", fn := fun _ => fun
  | [d1, d2, d3] => { results := [.lit (.bool true)], args := [d1, d2, d3] }
  | _ => none }
def wireListsRow : OpenClaim := { program := "ytklfgpdfongaeaa", sum := "a0022c6119be70de4c885de17d2efe29279f2ae38a50d26cfa0c4501ff58f676", func := "braid/braidlaw04.WireLists", spec := "wireLists", inPlace := ["internal/bytealg.Compare"], unfollowed := true, recurses := true, apart := false }
def WireListsSaid : Prop := wireListsRow.holds Try.pinned (OpenSpec.ofChange wireListsSpec)

/-- ITS FALSE NEIGHBOUR: 'it returns false'. Refute it at one input. -/
def wireListsWrong : ChangeSpec := { name := "wireLists", fn := fun _ => fun
  | [d1, d2, d3] => { results := [.lit (.bool false)], args := [d1, d2, d3] }
  | _ => none }
def WireListsWrongFalsely : Prop := wireListsRow.holds Try.pinned (OpenSpec.ofChange wireListsWrong)

/-- 'braidlaw04.WireNames': WHATEVER THE INPUT: true; the input reads as it did. -/
def wireNamesSpec : ChangeSpec := { name := "wireNames", fn := fun _ => fun
  | [] => { results := [.lit (.bool true)], args := [] }
  | _ => none }
def wireNamesRow : OpenClaim := { program := "ytklfgpdfongaeaa", sum := "a0022c6119be70de4c885de17d2efe29279f2ae38a50d26cfa0c4501ff58f676", func := "braid/braidlaw04.WireNames", spec := "wireNames", inPlace := ["internal/bytealg.Compare"], unfollowed := true, recurses := true, apart := false }
def WireNamesSaid : Prop := wireNamesRow.holds Try.pinned (OpenSpec.ofChange wireNamesSpec)

/-- ITS FALSE NEIGHBOUR: 'it returns false'. Refute it at one input. -/
def wireNamesWrong : ChangeSpec := { name := "wireNames", fn := fun _ => fun
  | [] => { results := [.lit (.bool false)], args := [] }
  | _ => none }
def WireNamesWrongFalsely : Prop := wireNamesRow.holds Try.pinned (OpenSpec.ofChange wireNamesWrong)

/-- 'braidlaw07.FrameWrites': WHATEVER THE INPUT: true; the input reads as it did. -/
def frameWritesSpec : ChangeSpec := { name := "frameWrites", fn := fun _ => fun
  | [d1, d2, d3] => { results := [.lit (.bool true)], args := [d1, d2, d3] }
  | _ => none }
def frameWritesRow : OpenClaim := { program := "ytklfgpdfongaeaa", sum := "a0022c6119be70de4c885de17d2efe29279f2ae38a50d26cfa0c4501ff58f676", func := "braid/braidlaw07.FrameWrites", spec := "frameWrites", inPlace := ["internal/bytealg.Compare"], unfollowed := true, recurses := true, apart := false }
def FrameWritesSaid : Prop := frameWritesRow.holds Try.pinned (OpenSpec.ofChange frameWritesSpec)

/-- ITS FALSE NEIGHBOUR: 'it returns false'. Refute it at one input. -/
def frameWritesWrong : ChangeSpec := { name := "frameWrites", fn := fun _ => fun
  | [d1, d2, d3] => { results := [.lit (.bool false)], args := [d1, d2, d3] }
  | _ => none }
def FrameWritesWrongFalsely : Prop := frameWritesRow.holds Try.pinned (OpenSpec.ofChange frameWritesWrong)

/-- 'braidlaw07.FrameReads': WHATEVER THE INPUT: true; the input reads as it did. -/
def frameReadsSpec : ChangeSpec := { name := "frameReads", fn := fun _ => fun
  | [d] => { results := [.lit (.bool true)], args := [d] }
  | _ => none }
def frameReadsRow : OpenClaim := { program := "ytklfgpdfongaeaa", sum := "a0022c6119be70de4c885de17d2efe29279f2ae38a50d26cfa0c4501ff58f676", func := "braid/braidlaw07.FrameReads", spec := "frameReads", inPlace := ["internal/bytealg.Compare"], unfollowed := true, recurses := true, apart := false }
def FrameReadsSaid : Prop := frameReadsRow.holds Try.pinned (OpenSpec.ofChange frameReadsSpec)

/-- ITS FALSE NEIGHBOUR: 'it returns false'. Refute it at one input. -/
def frameReadsWrong : ChangeSpec := { name := "frameReads", fn := fun _ => fun
  | [d] => { results := [.lit (.bool false)], args := [d] }
  | _ => none }
def FrameReadsWrongFalsely : Prop := frameReadsRow.holds Try.pinned (OpenSpec.ofChange frameReadsWrong)

/-- 'braidlaw25.SessionTakes': WHATEVER THE INPUT: true; the input reads as it did. -/
def sessionTakesSpec : ChangeSpec := { name := "sessionTakes", fn := fun _ => fun
  | [d1, d2] => { results := [.lit (.bool true)], args := [d1, d2] }
  | _ => none }
def sessionTakesRow : OpenClaim := { program := "ytklfgpdfongaeaa", sum := "a0022c6119be70de4c885de17d2efe29279f2ae38a50d26cfa0c4501ff58f676", func := "braid/braidlaw25.SessionTakes", spec := "sessionTakes", inPlace := ["internal/bytealg.Compare"], unfollowed := true, recurses := true, apart := false }
def SessionTakesSaid : Prop := sessionTakesRow.holds Try.pinned (OpenSpec.ofChange sessionTakesSpec)

/-- ITS FALSE NEIGHBOUR: 'it returns false'. Refute it at one input. -/
def sessionTakesWrong : ChangeSpec := { name := "sessionTakes", fn := fun _ => fun
  | [d1, d2] => { results := [.lit (.bool false)], args := [d1, d2] }
  | _ => none }
def SessionTakesWrongFalsely : Prop := sessionTakesRow.holds Try.pinned (OpenSpec.ofChange sessionTakesWrong)

/-- 'braidlaw25.SessionFaults': WHATEVER THE INPUT: true; the input reads as it did. -/
def sessionFaultsSpec : ChangeSpec := { name := "sessionFaults", fn := fun _ => fun
  | [d1, d2] => { results := [.lit (.bool true)], args := [d1, d2] }
  | _ => none }
def sessionFaultsRow : OpenClaim := { program := "ytklfgpdfongaeaa", sum := "a0022c6119be70de4c885de17d2efe29279f2ae38a50d26cfa0c4501ff58f676", func := "braid/braidlaw25.SessionFaults", spec := "sessionFaults", inPlace := ["internal/bytealg.Compare"], unfollowed := true, recurses := true, apart := false }
def SessionFaultsSaid : Prop := sessionFaultsRow.holds Try.pinned (OpenSpec.ofChange sessionFaultsSpec)

/-- ITS FALSE NEIGHBOUR: 'it returns false'. Refute it at one input. -/
def sessionFaultsWrong : ChangeSpec := { name := "sessionFaults", fn := fun _ => fun
  | [d1, d2] => { results := [.lit (.bool false)], args := [d1, d2] }
  | _ => none }
def SessionFaultsWrongFalsely : Prop := sessionFaultsRow.holds Try.pinned (OpenSpec.ofChange sessionFaultsWrong)

/-- 'braidlaw25.SessionNext': WHATEVER THE INPUT: true; the input reads as it did. -/
def sessionNextSpec : ChangeSpec := { name := "sessionNext", fn := fun _ => fun
  | [d1, d2] => { results := [.lit (.bool true)], args := [d1, d2] }
  | _ => none }
def sessionNextRow : OpenClaim := { program := "ytklfgpdfongaeaa", sum := "a0022c6119be70de4c885de17d2efe29279f2ae38a50d26cfa0c4501ff58f676", func := "braid/braidlaw25.SessionNext", spec := "sessionNext", inPlace := ["internal/bytealg.Compare"], unfollowed := true, recurses := true, apart := false }
def SessionNextSaid : Prop := sessionNextRow.holds Try.pinned (OpenSpec.ofChange sessionNextSpec)

/-- ITS FALSE NEIGHBOUR: 'it returns false'. Refute it at one input. -/
def sessionNextWrong : ChangeSpec := { name := "sessionNext", fn := fun _ => fun
  | [d1, d2] => { results := [.lit (.bool false)], args := [d1, d2] }
  | _ => none }
def SessionNextWrongFalsely : Prop := sessionNextRow.holds Try.pinned (OpenSpec.ofChange sessionNextWrong)

/-- 'braidlaw25.SessionOver': WHATEVER THE INPUT: true; the input reads as it did. -/
def sessionOverSpec : ChangeSpec := { name := "sessionOver", fn := fun _ => fun
  | [d1, d2, d3, d4] => { results := [.lit (.bool true)], args := [d1, d2, d3, d4] }
  | _ => none }
def sessionOverRow : OpenClaim := { program := "ytklfgpdfongaeaa", sum := "a0022c6119be70de4c885de17d2efe29279f2ae38a50d26cfa0c4501ff58f676", func := "braid/braidlaw25.SessionOver", spec := "sessionOver", inPlace := ["internal/bytealg.Compare"], unfollowed := true, recurses := true, apart := false }
def SessionOverSaid : Prop := sessionOverRow.holds Try.pinned (OpenSpec.ofChange sessionOverSpec)

/-- ITS FALSE NEIGHBOUR: 'it returns false'. Refute it at one input. -/
def sessionOverWrong : ChangeSpec := { name := "sessionOver", fn := fun _ => fun
  | [d1, d2, d3, d4] => { results := [.lit (.bool false)], args := [d1, d2, d3, d4] }
  | _ => none }
def SessionOverWrongFalsely : Prop := sessionOverRow.holds Try.pinned (OpenSpec.ofChange sessionOverWrong)

/-- 'braidlaw25.SessionNames': WHATEVER THE INPUT: true; the input reads as it did. -/
def sessionNamesSpec : ChangeSpec := { name := "sessionNames", fn := fun _ => fun
  | [] => { results := [.lit (.bool true)], args := [] }
  | _ => none }
def sessionNamesRow : OpenClaim := { program := "ytklfgpdfongaeaa", sum := "a0022c6119be70de4c885de17d2efe29279f2ae38a50d26cfa0c4501ff58f676", func := "braid/braidlaw25.SessionNames", spec := "sessionNames", inPlace := ["internal/bytealg.Compare"], unfollowed := true, recurses := true, apart := false }
def SessionNamesSaid : Prop := sessionNamesRow.holds Try.pinned (OpenSpec.ofChange sessionNamesSpec)

/-- ITS FALSE NEIGHBOUR: 'it returns false'. Refute it at one input. -/
def sessionNamesWrong : ChangeSpec := { name := "sessionNames", fn := fun _ => fun
  | [] => { results := [.lit (.bool false)], args := [] }
  | _ => none }
def SessionNamesWrongFalsely : Prop := sessionNamesRow.holds Try.pinned (OpenSpec.ofChange sessionNamesWrong)

/-- 'braidlaw07.FrameOne': WHATEVER THE INPUT: true; the input reads as it did. -/
def frameOneSpec : ChangeSpec := { name := "frameOne", fn := fun _ => fun
  | [d1, d2] => { results := [.lit (.bool true)], args := [d1, d2] }
  | _ => none }
def frameOneRow : OpenClaim := { program := "ytklfgpdfongaeaa", sum := "a0022c6119be70de4c885de17d2efe29279f2ae38a50d26cfa0c4501ff58f676", func := "braid/braidlaw07.FrameOne", spec := "frameOne", inPlace := ["internal/bytealg.Compare"], unfollowed := true, recurses := true, apart := false }
def FrameOneSaid : Prop := frameOneRow.holds Try.pinned (OpenSpec.ofChange frameOneSpec)

/-- ITS FALSE NEIGHBOUR: 'it returns false'. Refute it at one input. -/
def frameOneWrong : ChangeSpec := { name := "frameOne", fn := fun _ => fun
  | [d1, d2] => { results := [.lit (.bool false)], args := [d1, d2] }
  | _ => none }
def FrameOneWrongFalsely : Prop := frameOneRow.holds Try.pinned (OpenSpec.ofChange frameOneWrong)

/-- 'braidlaw07.FrameSplits': WHATEVER THE INPUT: true; the input reads as it did. -/
def frameSplitsSpec : ChangeSpec := { name := "frameSplits", fn := fun _ => fun
  | [d1, d2] => { results := [.lit (.bool true)], args := [d1, d2] }
  | _ => none }
def frameSplitsRow : OpenClaim := { program := "ytklfgpdfongaeaa", sum := "a0022c6119be70de4c885de17d2efe29279f2ae38a50d26cfa0c4501ff58f676", func := "braid/braidlaw07.FrameSplits", spec := "frameSplits", inPlace := ["internal/bytealg.Compare"], unfollowed := true, recurses := true, apart := false }
def FrameSplitsSaid : Prop := frameSplitsRow.holds Try.pinned (OpenSpec.ofChange frameSplitsSpec)

/-- ITS FALSE NEIGHBOUR: 'it returns false'. Refute it at one input. -/
def frameSplitsWrong : ChangeSpec := { name := "frameSplits", fn := fun _ => fun
  | [d1, d2] => { results := [.lit (.bool false)], args := [d1, d2] }
  | _ => none }
def FrameSplitsWrongFalsely : Prop := frameSplitsRow.holds Try.pinned (OpenSpec.ofChange frameSplitsWrong)

/-- 'braidlaw07.FrameDiffer': WHATEVER THE INPUT: true; the input reads as it did. -/
def frameDifferSpec : ChangeSpec := { name := "frameDiffer", fn := fun _ => fun
  | [d1, d2] => { results := [.lit (.bool true)], args := [d1, d2] }
  | _ => none }
def frameDifferRow : OpenClaim := { program := "ytklfgpdfongaeaa", sum := "a0022c6119be70de4c885de17d2efe29279f2ae38a50d26cfa0c4501ff58f676", func := "braid/braidlaw07.FrameDiffer", spec := "frameDiffer", inPlace := ["internal/bytealg.Compare"], unfollowed := true, recurses := true, apart := false }
def FrameDifferSaid : Prop := frameDifferRow.holds Try.pinned (OpenSpec.ofChange frameDifferSpec)

/-- ITS FALSE NEIGHBOUR: 'it returns false'. Refute it at one input. -/
def frameDifferWrong : ChangeSpec := { name := "frameDiffer", fn := fun _ => fun
  | [d1, d2] => { results := [.lit (.bool false)], args := [d1, d2] }
  | _ => none }
def FrameDifferWrongFalsely : Prop := frameDifferRow.holds Try.pinned (OpenSpec.ofChange frameDifferWrong)

/-- 'braidlaw07.FrameNames': WHATEVER THE INPUT: true; the input reads as it did. -/
def frameNamesSpec : ChangeSpec := { name := "frameNames", fn := fun _ => fun
  | [] => { results := [.lit (.bool true)], args := [] }
  | _ => none }
def frameNamesRow : OpenClaim := { program := "ytklfgpdfongaeaa", sum := "a0022c6119be70de4c885de17d2efe29279f2ae38a50d26cfa0c4501ff58f676", func := "braid/braidlaw07.FrameNames", spec := "frameNames", inPlace := ["internal/bytealg.Compare"], unfollowed := true, recurses := true, apart := false }
def FrameNamesSaid : Prop := frameNamesRow.holds Try.pinned (OpenSpec.ofChange frameNamesSpec)

/-- ITS FALSE NEIGHBOUR: 'it returns false'. Refute it at one input. -/
def frameNamesWrong : ChangeSpec := { name := "frameNames", fn := fun _ => fun
  | [] => { results := [.lit (.bool false)], args := [] }
  | _ => none }
def FrameNamesWrongFalsely : Prop := frameNamesRow.holds Try.pinned (OpenSpec.ofChange frameNamesWrong)

/- THE SECOND FORM. 'bulk': how many values and letters a reading holds, each counted each time it is reached (what is shared counts as often as it is met; a slice's spare places count too). A statement '..UptoSaid' is the law's where the arguments, and the package variables that the reading takes, are together of bulk at most 1048576: NARROWER than '..Said'. Prove '..Said' where nothing that the law and all that it calls make is longer than what came in: it says more and counts as full. Else prove '..UptoSaid'. A law counts once. -/
mutual
def uptoBulk {H : Type} : DataW H → Nat
  | .lit (.string bytes) => bytes.length + 1
  | .lit _ => 1
  | .nil => 1
  | .ptr d => uptoBulk d + 1
  | .slice elems spare => uptoBulkAll elems + uptoBulkAll spare + 1
  | .agg parts => uptoBulkAll parts + 1
  | .iface _ d => uptoBulk d + 1
  | .map entries => uptoBulkEntries entries + 1
  | .held _ => 1
def uptoBulkAll {H : Type} : List (DataW H) → Nat
  | [] => 0
  | d :: r => uptoBulk d + uptoBulkAll r
def uptoBulkEntries {H : Type} : List (Lit × DataW H) → Nat
  | [] => 0
  | x :: r => uptoBulkEntry x + uptoBulkEntries r
def uptoBulkEntry {H : Type} : Lit × DataW H → Nat
  | (.string bytes, d) => bytes.length + uptoBulk d + 1
  | (_, d) => uptoBulk d + 1
 end
def uptoSmall : (H : Type) → List (DataW H) → Bool := fun _ ds => decide (uptoBulkAll ds ≤ 1048576)
def OpenSpec.upto (s : _root_.Go.ChangeSpec) : _root_.Go.OpenSpec := { _root_.Go.OpenSpec.ofChange s with cond := some uptoSmall }

/-- 'braidlaw38.GossipHears', WHERE WHAT IT READS IS OF BULK AT MOST 1048576: true; the input reads as it did. -/
def gossipHearsUptoRow : OpenClaim := { program := "ytklfgpdfongaeaa", sum := "a0022c6119be70de4c885de17d2efe29279f2ae38a50d26cfa0c4501ff58f676", func := "braid/braidlaw38.GossipHears", spec := "gossipHears", apart := false, narrowed := true }
def GossipHearsUptoSaid : Prop := gossipHearsUptoRow.holds Try.pinned (OpenSpec.upto gossipHearsSpec)

/-- 'braidlaw04.WireNumbers', WHERE WHAT IT READS IS OF BULK AT MOST 1048576: true; the input reads as it did. -/
def wireNumbersUptoRow : OpenClaim := { program := "ytklfgpdfongaeaa", sum := "a0022c6119be70de4c885de17d2efe29279f2ae38a50d26cfa0c4501ff58f676", func := "braid/braidlaw04.WireNumbers", spec := "wireNumbers", apart := false, narrowed := true }
def WireNumbersUptoSaid : Prop := wireNumbersUptoRow.holds Try.pinned (OpenSpec.upto wireNumbersSpec)

/-- 'braidlaw04.WireOrder', WHERE WHAT IT READS IS OF BULK AT MOST 1048576: true; the input reads as it did. -/
def wireOrderUptoRow : OpenClaim := { program := "ytklfgpdfongaeaa", sum := "a0022c6119be70de4c885de17d2efe29279f2ae38a50d26cfa0c4501ff58f676", func := "braid/braidlaw04.WireOrder", spec := "wireOrder", apart := false, narrowed := true }
def WireOrderUptoSaid : Prop := wireOrderUptoRow.holds Try.pinned (OpenSpec.upto wireOrderSpec)

/-- 'braidlaw05.ValueMakes', WHERE WHAT IT READS IS OF BULK AT MOST 1048576: true; the input reads as it did. -/
def valueMakesUptoRow : OpenClaim := { program := "ytklfgpdfongaeaa", sum := "a0022c6119be70de4c885de17d2efe29279f2ae38a50d26cfa0c4501ff58f676", func := "braid/braidlaw05.ValueMakes", spec := "valueMakes", unfollowed := true, recurses := true, apart := false, narrowed := true }
def ValueMakesUptoSaid : Prop := valueMakesUptoRow.holds Try.pinned (OpenSpec.upto valueMakesSpec)

/-- 'braidlaw04.WireOne', WHERE WHAT IT READS IS OF BULK AT MOST 1048576: true; the input reads as it did. -/
def wireOneUptoRow : OpenClaim := { program := "ytklfgpdfongaeaa", sum := "a0022c6119be70de4c885de17d2efe29279f2ae38a50d26cfa0c4501ff58f676", func := "braid/braidlaw04.WireOne", spec := "wireOne", apart := false, narrowed := true }
def WireOneUptoSaid : Prop := wireOneUptoRow.holds Try.pinned (OpenSpec.upto wireOneSpec)

/-- 'braidlaw25.SessionEnds', WHERE WHAT IT READS IS OF BULK AT MOST 1048576: true; the input reads as it did. -/
def sessionEndsUptoRow : OpenClaim := { program := "ytklfgpdfongaeaa", sum := "a0022c6119be70de4c885de17d2efe29279f2ae38a50d26cfa0c4501ff58f676", func := "braid/braidlaw25.SessionEnds", spec := "sessionEnds", unfollowed := true, recurses := true, apart := false, narrowed := true }
def SessionEndsUptoSaid : Prop := sessionEndsUptoRow.holds Try.pinned (OpenSpec.upto sessionEndsSpec)

/-- 'braidlaw04.WireIDs', WHERE WHAT IT READS IS OF BULK AT MOST 1048576: true; the input reads as it did. -/
def wireIDsUptoRow : OpenClaim := { program := "ytklfgpdfongaeaa", sum := "a0022c6119be70de4c885de17d2efe29279f2ae38a50d26cfa0c4501ff58f676", func := "braid/braidlaw04.WireIDs", spec := "wireIDs", inPlace := ["internal/bytealg.Compare"], unfollowed := true, recurses := true, apart := false, narrowed := true }
def WireIDsUptoSaid : Prop := wireIDsUptoRow.holds Try.pinned (OpenSpec.upto wireIDsSpec)

/-- 'braidlaw04.WireLists', WHERE WHAT IT READS IS OF BULK AT MOST 1048576: true; the input reads as it did. -/
def wireListsUptoRow : OpenClaim := { program := "ytklfgpdfongaeaa", sum := "a0022c6119be70de4c885de17d2efe29279f2ae38a50d26cfa0c4501ff58f676", func := "braid/braidlaw04.WireLists", spec := "wireLists", inPlace := ["internal/bytealg.Compare"], unfollowed := true, recurses := true, apart := false, narrowed := true }
def WireListsUptoSaid : Prop := wireListsUptoRow.holds Try.pinned (OpenSpec.upto wireListsSpec)

/-- 'braidlaw04.WireNames', WHERE WHAT IT READS IS OF BULK AT MOST 1048576: true; the input reads as it did. -/
def wireNamesUptoRow : OpenClaim := { program := "ytklfgpdfongaeaa", sum := "a0022c6119be70de4c885de17d2efe29279f2ae38a50d26cfa0c4501ff58f676", func := "braid/braidlaw04.WireNames", spec := "wireNames", inPlace := ["internal/bytealg.Compare"], unfollowed := true, recurses := true, apart := false, narrowed := true }
def WireNamesUptoSaid : Prop := wireNamesUptoRow.holds Try.pinned (OpenSpec.upto wireNamesSpec)

/-- 'braidlaw07.FrameWrites', WHERE WHAT IT READS IS OF BULK AT MOST 1048576: true; the input reads as it did. -/
def frameWritesUptoRow : OpenClaim := { program := "ytklfgpdfongaeaa", sum := "a0022c6119be70de4c885de17d2efe29279f2ae38a50d26cfa0c4501ff58f676", func := "braid/braidlaw07.FrameWrites", spec := "frameWrites", inPlace := ["internal/bytealg.Compare"], unfollowed := true, recurses := true, apart := false, narrowed := true }
def FrameWritesUptoSaid : Prop := frameWritesUptoRow.holds Try.pinned (OpenSpec.upto frameWritesSpec)

/-- 'braidlaw07.FrameReads', WHERE WHAT IT READS IS OF BULK AT MOST 1048576: true; the input reads as it did. -/
def frameReadsUptoRow : OpenClaim := { program := "ytklfgpdfongaeaa", sum := "a0022c6119be70de4c885de17d2efe29279f2ae38a50d26cfa0c4501ff58f676", func := "braid/braidlaw07.FrameReads", spec := "frameReads", inPlace := ["internal/bytealg.Compare"], unfollowed := true, recurses := true, apart := false, narrowed := true }
def FrameReadsUptoSaid : Prop := frameReadsUptoRow.holds Try.pinned (OpenSpec.upto frameReadsSpec)

/-- 'braidlaw25.SessionTakes', WHERE WHAT IT READS IS OF BULK AT MOST 1048576: true; the input reads as it did. -/
def sessionTakesUptoRow : OpenClaim := { program := "ytklfgpdfongaeaa", sum := "a0022c6119be70de4c885de17d2efe29279f2ae38a50d26cfa0c4501ff58f676", func := "braid/braidlaw25.SessionTakes", spec := "sessionTakes", inPlace := ["internal/bytealg.Compare"], unfollowed := true, recurses := true, apart := false, narrowed := true }
def SessionTakesUptoSaid : Prop := sessionTakesUptoRow.holds Try.pinned (OpenSpec.upto sessionTakesSpec)

/-- 'braidlaw25.SessionFaults', WHERE WHAT IT READS IS OF BULK AT MOST 1048576: true; the input reads as it did. -/
def sessionFaultsUptoRow : OpenClaim := { program := "ytklfgpdfongaeaa", sum := "a0022c6119be70de4c885de17d2efe29279f2ae38a50d26cfa0c4501ff58f676", func := "braid/braidlaw25.SessionFaults", spec := "sessionFaults", inPlace := ["internal/bytealg.Compare"], unfollowed := true, recurses := true, apart := false, narrowed := true }
def SessionFaultsUptoSaid : Prop := sessionFaultsUptoRow.holds Try.pinned (OpenSpec.upto sessionFaultsSpec)

/-- 'braidlaw25.SessionNext', WHERE WHAT IT READS IS OF BULK AT MOST 1048576: true; the input reads as it did. -/
def sessionNextUptoRow : OpenClaim := { program := "ytklfgpdfongaeaa", sum := "a0022c6119be70de4c885de17d2efe29279f2ae38a50d26cfa0c4501ff58f676", func := "braid/braidlaw25.SessionNext", spec := "sessionNext", inPlace := ["internal/bytealg.Compare"], unfollowed := true, recurses := true, apart := false, narrowed := true }
def SessionNextUptoSaid : Prop := sessionNextUptoRow.holds Try.pinned (OpenSpec.upto sessionNextSpec)

/-- 'braidlaw25.SessionOver', WHERE WHAT IT READS IS OF BULK AT MOST 1048576: true; the input reads as it did. -/
def sessionOverUptoRow : OpenClaim := { program := "ytklfgpdfongaeaa", sum := "a0022c6119be70de4c885de17d2efe29279f2ae38a50d26cfa0c4501ff58f676", func := "braid/braidlaw25.SessionOver", spec := "sessionOver", inPlace := ["internal/bytealg.Compare"], unfollowed := true, recurses := true, apart := false, narrowed := true }
def SessionOverUptoSaid : Prop := sessionOverUptoRow.holds Try.pinned (OpenSpec.upto sessionOverSpec)

/-- 'braidlaw25.SessionNames', WHERE WHAT IT READS IS OF BULK AT MOST 1048576: true; the input reads as it did. -/
def sessionNamesUptoRow : OpenClaim := { program := "ytklfgpdfongaeaa", sum := "a0022c6119be70de4c885de17d2efe29279f2ae38a50d26cfa0c4501ff58f676", func := "braid/braidlaw25.SessionNames", spec := "sessionNames", inPlace := ["internal/bytealg.Compare"], unfollowed := true, recurses := true, apart := false, narrowed := true }
def SessionNamesUptoSaid : Prop := sessionNamesUptoRow.holds Try.pinned (OpenSpec.upto sessionNamesSpec)

/-- 'braidlaw07.FrameOne', WHERE WHAT IT READS IS OF BULK AT MOST 1048576: true; the input reads as it did. -/
def frameOneUptoRow : OpenClaim := { program := "ytklfgpdfongaeaa", sum := "a0022c6119be70de4c885de17d2efe29279f2ae38a50d26cfa0c4501ff58f676", func := "braid/braidlaw07.FrameOne", spec := "frameOne", inPlace := ["internal/bytealg.Compare"], unfollowed := true, recurses := true, apart := false, narrowed := true }
def FrameOneUptoSaid : Prop := frameOneUptoRow.holds Try.pinned (OpenSpec.upto frameOneSpec)

/-- 'braidlaw07.FrameSplits', WHERE WHAT IT READS IS OF BULK AT MOST 1048576: true; the input reads as it did. -/
def frameSplitsUptoRow : OpenClaim := { program := "ytklfgpdfongaeaa", sum := "a0022c6119be70de4c885de17d2efe29279f2ae38a50d26cfa0c4501ff58f676", func := "braid/braidlaw07.FrameSplits", spec := "frameSplits", inPlace := ["internal/bytealg.Compare"], unfollowed := true, recurses := true, apart := false, narrowed := true }
def FrameSplitsUptoSaid : Prop := frameSplitsUptoRow.holds Try.pinned (OpenSpec.upto frameSplitsSpec)

/-- 'braidlaw07.FrameDiffer', WHERE WHAT IT READS IS OF BULK AT MOST 1048576: true; the input reads as it did. -/
def frameDifferUptoRow : OpenClaim := { program := "ytklfgpdfongaeaa", sum := "a0022c6119be70de4c885de17d2efe29279f2ae38a50d26cfa0c4501ff58f676", func := "braid/braidlaw07.FrameDiffer", spec := "frameDiffer", inPlace := ["internal/bytealg.Compare"], unfollowed := true, recurses := true, apart := false, narrowed := true }
def FrameDifferUptoSaid : Prop := frameDifferUptoRow.holds Try.pinned (OpenSpec.upto frameDifferSpec)

/-- 'braidlaw07.FrameNames', WHERE WHAT IT READS IS OF BULK AT MOST 1048576: true; the input reads as it did. -/
def frameNamesUptoRow : OpenClaim := { program := "ytklfgpdfongaeaa", sum := "a0022c6119be70de4c885de17d2efe29279f2ae38a50d26cfa0c4501ff58f676", func := "braid/braidlaw07.FrameNames", spec := "frameNames", inPlace := ["internal/bytealg.Compare"], unfollowed := true, recurses := true, apart := false, narrowed := true }
def FrameNamesUptoSaid : Prop := frameNamesUptoRow.holds Try.pinned (OpenSpec.upto frameNamesSpec)

end Rows
end Go.Proofs.Ytklfgpdfongaeaa
