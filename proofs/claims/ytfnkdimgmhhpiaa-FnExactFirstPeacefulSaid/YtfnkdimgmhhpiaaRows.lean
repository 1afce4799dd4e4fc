/-
  No cell of these rows narrows 'for every input' (looked for: loops, veiled, ifaces, maps, wideKeys, modest, calm, conditions, laid).
  DERIVED. THE GIVEN ROWS OF THIS SEAT. 12 by the template 'for every input the law returns true; each argument reads behind the call as it read before'; 0 by the template 'total and deterministic' (their statements: YtfnkdimgmhhpiaaTotals.lean).
  GIVEN WITH THE SEED: the statements are not yours to turn. If you find one false, say at which input.
  Laid BY PROGRAM, IN A SANDBOX (cutbox-rows.mjs): the forced cells as the released guide's own fill.sh prints them over the translation 9681a3cfb2331b21… (all of the seat's roots in one cut). By AI agents, Wed Nov 11 2026. No macro, syntax, notation, axiom, sorry.
-/
import Derived.Test.YtfnkdimgmhhpiaaChecked
import GoSem.Claim
import GoSem.ClaimJoined
import GoSem.ClaimMapViews
import Derived.JoinedTies
import Derived.KernelRfl
namespace Go.Proofs.Ytfnkdimgmhhpiaa
/- THE CELL 'sum', in the pinned program and in every row, IS THE sha256 OF THE DUMP (.gsa) THAT YtfnkdimgmhhpiaaProg.lean LOADS. Nothing in Lean hashes anything: it is a label: what it is worth is what the hold of that sum in a sandbox is worth. -/
noncomputable def Try.pinned : Pinned := { name := "ytfnkdimgmhhpiaa", sum := "9681a3cfb2331b21e11af47d4f17a4c0627b5e84f266ad4578bacec57c8a4dc5", checked := Try.checked }
namespace Rows
def none {H : Type} : Left H := { results := [], args := [] }

/-- 'laws.FnExactIsUncrossed': WHATEVER THE INPUT: true; the input reads as it did. -/
def fnExactIsUncrossedSpec : ChangeSpec := { name := "fnExactIsUncrossed", fn := fun _ => fun
  | [d1, d2, d3] => { results := [.lit (.bool true)], args := [d1, d2, d3] }
  | _ => none }
def fnExactIsUncrossedRow : OpenClaim := { program := "ytfnkdimgmhhpiaa", sum := "9681a3cfb2331b21e11af47d4f17a4c0627b5e84f266ad4578bacec57c8a4dc5", func := "loop.example/g01239/laws.FnExactIsUncrossed", spec := "fnExactIsUncrossed", unfollowed := true, recurses := true, apart := false }
def FnExactIsUncrossedSaid : Prop := fnExactIsUncrossedRow.holds Try.pinned (OpenSpec.ofChange fnExactIsUncrossedSpec)

/-- ITS FALSE NEIGHBOUR: 'it returns false'. Refute it at one input. -/
def fnExactIsUncrossedWrong : ChangeSpec := { name := "fnExactIsUncrossed", fn := fun _ => fun
  | [d1, d2, d3] => { results := [.lit (.bool false)], args := [d1, d2, d3] }
  | _ => none }
def FnExactIsUncrossedWrongFalsely : Prop := fnExactIsUncrossedRow.holds Try.pinned (OpenSpec.ofChange fnExactIsUncrossedWrong)

/-- 'laws.FnExactJoinClosed': WHATEVER THE INPUT: true; the input reads as it did. -/
def fnExactJoinClosedSpec : ChangeSpec := { name := "fnExactJoinClosed", fn := fun _ => fun
  | [d1, d2, d3, d4] => { results := [.lit (.bool true)], args := [d1, d2, d3, d4] }
  | _ => none }
def fnExactJoinClosedRow : OpenClaim := { program := "ytfnkdimgmhhpiaa", sum := "9681a3cfb2331b21e11af47d4f17a4c0627b5e84f266ad4578bacec57c8a4dc5", func := "loop.example/g01239/laws.FnExactJoinClosed", spec := "fnExactJoinClosed", recurses := true, apart := false }
def FnExactJoinClosedSaid : Prop := fnExactJoinClosedRow.holds Try.pinned (OpenSpec.ofChange fnExactJoinClosedSpec)

/-- ITS FALSE NEIGHBOUR: 'it returns false'. Refute it at one input. -/
def fnExactJoinClosedWrong : ChangeSpec := { name := "fnExactJoinClosed", fn := fun _ => fun
  | [d1, d2, d3, d4] => { results := [.lit (.bool false)], args := [d1, d2, d3, d4] }
  | _ => none }
def FnExactJoinClosedWrongFalsely : Prop := fnExactJoinClosedRow.holds Try.pinned (OpenSpec.ofChange fnExactJoinClosedWrong)

/-- 'laws.FnExactCloseByTurns': WHATEVER THE INPUT: true; the input reads as it did. -/
def fnExactCloseByTurnsSpec : ChangeSpec := { name := "fnExactCloseByTurns", fn := fun _ => fun
  | [d1, d2, d3, d4] => { results := [.lit (.bool true)], args := [d1, d2, d3, d4] }
  | _ => none }
def fnExactCloseByTurnsRow : OpenClaim := { program := "ytfnkdimgmhhpiaa", sum := "9681a3cfb2331b21e11af47d4f17a4c0627b5e84f266ad4578bacec57c8a4dc5", func := "loop.example/g01239/laws.FnExactCloseByTurns", spec := "fnExactCloseByTurns", recurses := true, apart := false }
def FnExactCloseByTurnsSaid : Prop := fnExactCloseByTurnsRow.holds Try.pinned (OpenSpec.ofChange fnExactCloseByTurnsSpec)

/-- ITS FALSE NEIGHBOUR: 'it returns false'. Refute it at one input. -/
def fnExactCloseByTurnsWrong : ChangeSpec := { name := "fnExactCloseByTurns", fn := fun _ => fun
  | [d1, d2, d3, d4] => { results := [.lit (.bool false)], args := [d1, d2, d3, d4] }
  | _ => none }
def FnExactCloseByTurnsWrongFalsely : Prop := fnExactCloseByTurnsRow.holds Try.pinned (OpenSpec.ofChange fnExactCloseByTurnsWrong)

/-- 'laws.FnExactIsRing': WHATEVER THE INPUT: true; the input reads as it did. -/
def fnExactIsRingSpec : ChangeSpec := { name := "fnExactIsRing", fn := fun _ => fun
  | [d1, d2, d3] => { results := [.lit (.bool true)], args := [d1, d2, d3] }
  | _ => none }
def fnExactIsRingRow : OpenClaim := { program := "ytfnkdimgmhhpiaa", sum := "9681a3cfb2331b21e11af47d4f17a4c0627b5e84f266ad4578bacec57c8a4dc5", func := "loop.example/g01239/laws.FnExactIsRing", spec := "fnExactIsRing", unfollowed := true, recurses := true, apart := false }
def FnExactIsRingSaid : Prop := fnExactIsRingRow.holds Try.pinned (OpenSpec.ofChange fnExactIsRingSpec)

/-- ITS FALSE NEIGHBOUR: 'it returns false'. Refute it at one input. -/
def fnExactIsRingWrong : ChangeSpec := { name := "fnExactIsRing", fn := fun _ => fun
  | [d1, d2, d3] => { results := [.lit (.bool false)], args := [d1, d2, d3] }
  | _ => none }
def FnExactIsRingWrongFalsely : Prop := fnExactIsRingRow.holds Try.pinned (OpenSpec.ofChange fnExactIsRingWrong)

/-- 'laws.FnExactCrossedLeaps': WHATEVER THE INPUT: true; the input reads as it did. -/
def fnExactCrossedLeapsSpec : ChangeSpec := { name := "fnExactCrossedLeaps", fn := fun _ => fun
  | [d1, d2, d3, d4] => { results := [.lit (.bool true)], args := [d1, d2, d3, d4] }
  | _ => none }
def fnExactCrossedLeapsRow : OpenClaim := { program := "ytfnkdimgmhhpiaa", sum := "9681a3cfb2331b21e11af47d4f17a4c0627b5e84f266ad4578bacec57c8a4dc5", func := "loop.example/g01239/laws.FnExactCrossedLeaps", spec := "fnExactCrossedLeaps", unfollowed := true, recurses := true, apart := false }
def FnExactCrossedLeapsSaid : Prop := fnExactCrossedLeapsRow.holds Try.pinned (OpenSpec.ofChange fnExactCrossedLeapsSpec)

/-- ITS FALSE NEIGHBOUR: 'it returns false'. Refute it at one input. -/
def fnExactCrossedLeapsWrong : ChangeSpec := { name := "fnExactCrossedLeaps", fn := fun _ => fun
  | [d1, d2, d3, d4] => { results := [.lit (.bool false)], args := [d1, d2, d3, d4] }
  | _ => none }
def FnExactCrossedLeapsWrongFalsely : Prop := fnExactCrossedLeapsRow.holds Try.pinned (OpenSpec.ofChange fnExactCrossedLeapsWrong)

/-- 'laws.FnExactPointsOnRing': WHATEVER THE INPUT: true; the input reads as it did. -/
def fnExactPointsOnRingSpec : ChangeSpec := { name := "fnExactPointsOnRing", fn := fun _ => fun
  | [d1, d2, d3] => { results := [.lit (.bool true)], args := [d1, d2, d3] }
  | _ => none }
def fnExactPointsOnRingRow : OpenClaim := { program := "ytfnkdimgmhhpiaa", sum := "9681a3cfb2331b21e11af47d4f17a4c0627b5e84f266ad4578bacec57c8a4dc5", func := "loop.example/g01239/laws.FnExactPointsOnRing", spec := "fnExactPointsOnRing", unfollowed := true, recurses := true, apart := false }
def FnExactPointsOnRingSaid : Prop := fnExactPointsOnRingRow.holds Try.pinned (OpenSpec.ofChange fnExactPointsOnRingSpec)

/-- ITS FALSE NEIGHBOUR: 'it returns false'. Refute it at one input. -/
def fnExactPointsOnRingWrong : ChangeSpec := { name := "fnExactPointsOnRing", fn := fun _ => fun
  | [d1, d2, d3] => { results := [.lit (.bool false)], args := [d1, d2, d3] }
  | _ => none }
def FnExactPointsOnRingWrongFalsely : Prop := fnExactPointsOnRingRow.holds Try.pinned (OpenSpec.ofChange fnExactPointsOnRingWrong)

/-- 'laws.FnExactTwiceArea': WHATEVER THE INPUT: true; the input reads as it did. -/
def fnExactTwiceAreaSpec : ChangeSpec := { name := "fnExactTwiceArea", fn := fun _ => fun
  | [d1, d2, d3] => { results := [.lit (.bool true)], args := [d1, d2, d3] }
  | _ => none }
def fnExactTwiceAreaRow : OpenClaim := { program := "ytfnkdimgmhhpiaa", sum := "9681a3cfb2331b21e11af47d4f17a4c0627b5e84f266ad4578bacec57c8a4dc5", func := "loop.example/g01239/laws.FnExactTwiceArea", spec := "fnExactTwiceArea", unfollowed := true, recurses := true, apart := false }
def FnExactTwiceAreaSaid : Prop := fnExactTwiceAreaRow.holds Try.pinned (OpenSpec.ofChange fnExactTwiceAreaSpec)

/-- ITS FALSE NEIGHBOUR: 'it returns false'. Refute it at one input. -/
def fnExactTwiceAreaWrong : ChangeSpec := { name := "fnExactTwiceArea", fn := fun _ => fun
  | [d1, d2, d3] => { results := [.lit (.bool false)], args := [d1, d2, d3] }
  | _ => none }
def FnExactTwiceAreaWrongFalsely : Prop := fnExactTwiceAreaRow.holds Try.pinned (OpenSpec.ofChange fnExactTwiceAreaWrong)

/-- 'laws.FnExactSidesOfParts': WHATEVER THE INPUT: true; the input reads as it did. -/
def fnExactSidesOfPartsSpec : ChangeSpec := { name := "fnExactSidesOfParts", fn := fun _ => fun
  | [d1, d2] => { results := [.lit (.bool true)], args := [d1, d2] }
  | _ => none }
def fnExactSidesOfPartsRow : OpenClaim := { program := "ytfnkdimgmhhpiaa", sum := "9681a3cfb2331b21e11af47d4f17a4c0627b5e84f266ad4578bacec57c8a4dc5", func := "loop.example/g01239/laws.FnExactSidesOfParts", spec := "fnExactSidesOfParts", recurses := true, apart := false }
def FnExactSidesOfPartsSaid : Prop := fnExactSidesOfPartsRow.holds Try.pinned (OpenSpec.ofChange fnExactSidesOfPartsSpec)

/-- ITS FALSE NEIGHBOUR: 'it returns false'. Refute it at one input. -/
def fnExactSidesOfPartsWrong : ChangeSpec := { name := "fnExactSidesOfParts", fn := fun _ => fun
  | [d1, d2] => { results := [.lit (.bool false)], args := [d1, d2] }
  | _ => none }
def FnExactSidesOfPartsWrongFalsely : Prop := fnExactSidesOfPartsRow.holds Try.pinned (OpenSpec.ofChange fnExactSidesOfPartsWrong)

/-- 'laws.FnExactPointsInside': WHATEVER THE INPUT: true; the input reads as it did. -/
def fnExactPointsInsideSpec : ChangeSpec := { name := "fnExactPointsInside", fn := fun _ => fun
  | [d1, d2, d3] => { results := [.lit (.bool true)], args := [d1, d2, d3] }
  | _ => none }
def fnExactPointsInsideRow : OpenClaim := { program := "ytfnkdimgmhhpiaa", sum := "9681a3cfb2331b21e11af47d4f17a4c0627b5e84f266ad4578bacec57c8a4dc5", func := "loop.example/g01239/laws.FnExactPointsInside", spec := "fnExactPointsInside", unfollowed := true, recurses := true, apart := false }
def FnExactPointsInsideSaid : Prop := fnExactPointsInsideRow.holds Try.pinned (OpenSpec.ofChange fnExactPointsInsideSpec)

/-- ITS FALSE NEIGHBOUR: 'it returns false'. Refute it at one input. -/
def fnExactPointsInsideWrong : ChangeSpec := { name := "fnExactPointsInside", fn := fun _ => fun
  | [d1, d2, d3] => { results := [.lit (.bool false)], args := [d1, d2, d3] }
  | _ => none }
def FnExactPointsInsideWrongFalsely : Prop := fnExactPointsInsideRow.holds Try.pinned (OpenSpec.ofChange fnExactPointsInsideWrong)

/-- 'laws.FnExactInsideRing': WHATEVER THE INPUT: true; the input reads as it did. -/
def fnExactInsideRingSpec : ChangeSpec := { name := "fnExactInsideRing", fn := fun _ => fun
  | [d1, d2, d3] => { results := [.lit (.bool true)], args := [d1, d2, d3] }
  | _ => none }
def fnExactInsideRingRow : OpenClaim := { program := "ytfnkdimgmhhpiaa", sum := "9681a3cfb2331b21e11af47d4f17a4c0627b5e84f266ad4578bacec57c8a4dc5", func := "loop.example/g01239/laws.FnExactInsideRing", spec := "fnExactInsideRing", unfollowed := true, recurses := true, apart := false }
def FnExactInsideRingSaid : Prop := fnExactInsideRingRow.holds Try.pinned (OpenSpec.ofChange fnExactInsideRingSpec)

/-- ITS FALSE NEIGHBOUR: 'it returns false'. Refute it at one input. -/
def fnExactInsideRingWrong : ChangeSpec := { name := "fnExactInsideRing", fn := fun _ => fun
  | [d1, d2, d3] => { results := [.lit (.bool false)], args := [d1, d2, d3] }
  | _ => none }
def FnExactInsideRingWrongFalsely : Prop := fnExactInsideRingRow.holds Try.pinned (OpenSpec.ofChange fnExactInsideRingWrong)

/-- 'laws.FnExactFirstPeaceful': WHATEVER THE INPUT: true; the input reads as it did. -/
def fnExactFirstPeacefulSpec : ChangeSpec := { name := "fnExactFirstPeaceful", fn := fun _ => fun
  | [d1, d2] => { results := [.lit (.bool true)], args := [d1, d2] }
  | _ => none }
def fnExactFirstPeacefulRow : OpenClaim := { program := "ytfnkdimgmhhpiaa", sum := "9681a3cfb2331b21e11af47d4f17a4c0627b5e84f266ad4578bacec57c8a4dc5", func := "loop.example/g01239/laws.FnExactFirstPeaceful", spec := "fnExactFirstPeaceful", recurses := true, apart := false }
def FnExactFirstPeacefulSaid : Prop := fnExactFirstPeacefulRow.holds Try.pinned (OpenSpec.ofChange fnExactFirstPeacefulSpec)

/-- ITS FALSE NEIGHBOUR: 'it returns false'. Refute it at one input. -/
def fnExactFirstPeacefulWrong : ChangeSpec := { name := "fnExactFirstPeaceful", fn := fun _ => fun
  | [d1, d2] => { results := [.lit (.bool false)], args := [d1, d2] }
  | _ => none }
def FnExactFirstPeacefulWrongFalsely : Prop := fnExactFirstPeacefulRow.holds Try.pinned (OpenSpec.ofChange fnExactFirstPeacefulWrong)

/-- 'laws.FnExactShortestRound': WHATEVER THE INPUT: true; the input reads as it did. -/
def fnExactShortestRoundSpec : ChangeSpec := { name := "fnExactShortestRound", fn := fun _ => fun
  | [d1, d2] => { results := [.lit (.bool true)], args := [d1, d2] }
  | _ => none }
def fnExactShortestRoundRow : OpenClaim := { program := "ytfnkdimgmhhpiaa", sum := "9681a3cfb2331b21e11af47d4f17a4c0627b5e84f266ad4578bacec57c8a4dc5", func := "loop.example/g01239/laws.FnExactShortestRound", spec := "fnExactShortestRound", recurses := true, apart := false }
def FnExactShortestRoundSaid : Prop := fnExactShortestRoundRow.holds Try.pinned (OpenSpec.ofChange fnExactShortestRoundSpec)

/-- ITS FALSE NEIGHBOUR: 'it returns false'. Refute it at one input. -/
def fnExactShortestRoundWrong : ChangeSpec := { name := "fnExactShortestRound", fn := fun _ => fun
  | [d1, d2] => { results := [.lit (.bool false)], args := [d1, d2] }
  | _ => none }
def FnExactShortestRoundWrongFalsely : Prop := fnExactShortestRoundRow.holds Try.pinned (OpenSpec.ofChange fnExactShortestRoundWrong)

/- THE SECOND FORM. 'bulk': how many values and letters a reading holds, each counted each time it is reached (what is shared counts as often as it is met; a slice's spare places count too). A statement '..UptoSaid' is the law's where the arguments, and the package variables that the reading takes, are together of bulk at most 1048576: NARROWER than '..Said'. Prove '..Said' where nothing that the law and all that it calls make is longer than what came in: it says more and counts as full. Else prove '..UptoSaid'. A law counts once. -/
mutual
def uptoBulk {H : Type} : DataW H → Nat
  | .lit (.string bytes) => bytes.length + 1
  | .lit _ => 1
  | .nil => 1
  | .ptr d => uptoBulk d + 1
  | .slice elems spare => uptoBulkAll elems + uptoBulkAll spare + 1
  | .agg parts => uptoBulkAll parts + 1
  | .iface _ d => uptoBulk d + 1
  | .map entries => uptoBulkEntries entries + 1
  | .held _ => 1
def uptoBulkAll {H : Type} : List (DataW H) → Nat
  | [] => 0
  | d :: r => uptoBulk d + uptoBulkAll r
def uptoBulkEntries {H : Type} : List (Lit × DataW H) → Nat
  | [] => 0
  | x :: r => uptoBulkEntry x + uptoBulkEntries r
def uptoBulkEntry {H : Type} : Lit × DataW H → Nat
  | (.string bytes, d) => bytes.length + uptoBulk d + 1
  | (_, d) => uptoBulk d + 1
 end
def uptoSmall : (H : Type) → List (DataW H) → Bool := fun _ ds => decide (uptoBulkAll ds ≤ 1048576)
def OpenSpec.upto (s : _root_.Go.ChangeSpec) : _root_.Go.OpenSpec := { _root_.Go.OpenSpec.ofChange s with cond := some uptoSmall }

/-- 'laws.FnExactIsUncrossed', WHERE WHAT IT READS IS OF BULK AT MOST 1048576: true; the input reads as it did. -/
def fnExactIsUncrossedUptoRow : OpenClaim := { program := "ytfnkdimgmhhpiaa", sum := "9681a3cfb2331b21e11af47d4f17a4c0627b5e84f266ad4578bacec57c8a4dc5", func := "loop.example/g01239/laws.FnExactIsUncrossed", spec := "fnExactIsUncrossed", unfollowed := true, recurses := true, apart := false, narrowed := true }
def FnExactIsUncrossedUptoSaid : Prop := fnExactIsUncrossedUptoRow.holds Try.pinned (OpenSpec.upto fnExactIsUncrossedSpec)

/-- 'laws.FnExactJoinClosed', WHERE WHAT IT READS IS OF BULK AT MOST 1048576: true; the input reads as it did. -/
def fnExactJoinClosedUptoRow : OpenClaim := { program := "ytfnkdimgmhhpiaa", sum := "9681a3cfb2331b21e11af47d4f17a4c0627b5e84f266ad4578bacec57c8a4dc5", func := "loop.example/g01239/laws.FnExactJoinClosed", spec := "fnExactJoinClosed", recurses := true, apart := false, narrowed := true }
def FnExactJoinClosedUptoSaid : Prop := fnExactJoinClosedUptoRow.holds Try.pinned (OpenSpec.upto fnExactJoinClosedSpec)

/-- 'laws.FnExactCloseByTurns', WHERE WHAT IT READS IS OF BULK AT MOST 1048576: true; the input reads as it did. -/
def fnExactCloseByTurnsUptoRow : OpenClaim := { program := "ytfnkdimgmhhpiaa", sum := "9681a3cfb2331b21e11af47d4f17a4c0627b5e84f266ad4578bacec57c8a4dc5", func := "loop.example/g01239/laws.FnExactCloseByTurns", spec := "fnExactCloseByTurns", recurses := true, apart := false, narrowed := true }
def FnExactCloseByTurnsUptoSaid : Prop := fnExactCloseByTurnsUptoRow.holds Try.pinned (OpenSpec.upto fnExactCloseByTurnsSpec)

/-- 'laws.FnExactIsRing', WHERE WHAT IT READS IS OF BULK AT MOST 1048576: true; the input reads as it did. -/
def fnExactIsRingUptoRow : OpenClaim := { program := "ytfnkdimgmhhpiaa", sum := "9681a3cfb2331b21e11af47d4f17a4c0627b5e84f266ad4578bacec57c8a4dc5", func := "loop.example/g01239/laws.FnExactIsRing", spec := "fnExactIsRing", unfollowed := true, recurses := true, apart := false, narrowed := true }
def FnExactIsRingUptoSaid : Prop := fnExactIsRingUptoRow.holds Try.pinned (OpenSpec.upto fnExactIsRingSpec)

/-- 'laws.FnExactCrossedLeaps', WHERE WHAT IT READS IS OF BULK AT MOST 1048576: true; the input reads as it did. -/
def fnExactCrossedLeapsUptoRow : OpenClaim := { program := "ytfnkdimgmhhpiaa", sum := "9681a3cfb2331b21e11af47d4f17a4c0627b5e84f266ad4578bacec57c8a4dc5", func := "loop.example/g01239/laws.FnExactCrossedLeaps", spec := "fnExactCrossedLeaps", unfollowed := true, recurses := true, apart := false, narrowed := true }
def FnExactCrossedLeapsUptoSaid : Prop := fnExactCrossedLeapsUptoRow.holds Try.pinned (OpenSpec.upto fnExactCrossedLeapsSpec)

/-- 'laws.FnExactPointsOnRing', WHERE WHAT IT READS IS OF BULK AT MOST 1048576: true; the input reads as it did. -/
def fnExactPointsOnRingUptoRow : OpenClaim := { program := "ytfnkdimgmhhpiaa", sum := "9681a3cfb2331b21e11af47d4f17a4c0627b5e84f266ad4578bacec57c8a4dc5", func := "loop.example/g01239/laws.FnExactPointsOnRing", spec := "fnExactPointsOnRing", unfollowed := true, recurses := true, apart := false, narrowed := true }
def FnExactPointsOnRingUptoSaid : Prop := fnExactPointsOnRingUptoRow.holds Try.pinned (OpenSpec.upto fnExactPointsOnRingSpec)

/-- 'laws.FnExactTwiceArea', WHERE WHAT IT READS IS OF BULK AT MOST 1048576: true; the input reads as it did. -/
def fnExactTwiceAreaUptoRow : OpenClaim := { program := "ytfnkdimgmhhpiaa", sum := "9681a3cfb2331b21e11af47d4f17a4c0627b5e84f266ad4578bacec57c8a4dc5", func := "loop.example/g01239/laws.FnExactTwiceArea", spec := "fnExactTwiceArea", unfollowed := true, recurses := true, apart := false, narrowed := true }
def FnExactTwiceAreaUptoSaid : Prop := fnExactTwiceAreaUptoRow.holds Try.pinned (OpenSpec.upto fnExactTwiceAreaSpec)

/-- 'laws.FnExactSidesOfParts', WHERE WHAT IT READS IS OF BULK AT MOST 1048576: true; the input reads as it did. -/
def fnExactSidesOfPartsUptoRow : OpenClaim := { program := "ytfnkdimgmhhpiaa", sum := "9681a3cfb2331b21e11af47d4f17a4c0627b5e84f266ad4578bacec57c8a4dc5", func := "loop.example/g01239/laws.FnExactSidesOfParts", spec := "fnExactSidesOfParts", recurses := true, apart := false, narrowed := true }
def FnExactSidesOfPartsUptoSaid : Prop := fnExactSidesOfPartsUptoRow.holds Try.pinned (OpenSpec.upto fnExactSidesOfPartsSpec)

/-- 'laws.FnExactPointsInside', WHERE WHAT IT READS IS OF BULK AT MOST 1048576: true; the input reads as it did. -/
def fnExactPointsInsideUptoRow : OpenClaim := { program := "ytfnkdimgmhhpiaa", sum := "9681a3cfb2331b21e11af47d4f17a4c0627b5e84f266ad4578bacec57c8a4dc5", func := "loop.example/g01239/laws.FnExactPointsInside", spec := "fnExactPointsInside", unfollowed := true, recurses := true, apart := false, narrowed := true }
def FnExactPointsInsideUptoSaid : Prop := fnExactPointsInsideUptoRow.holds Try.pinned (OpenSpec.upto fnExactPointsInsideSpec)

/-- 'laws.FnExactInsideRing', WHERE WHAT IT READS IS OF BULK AT MOST 1048576: true; the input reads as it did. -/
def fnExactInsideRingUptoRow : OpenClaim := { program := "ytfnkdimgmhhpiaa", sum := "9681a3cfb2331b21e11af47d4f17a4c0627b5e84f266ad4578bacec57c8a4dc5", func := "loop.example/g01239/laws.FnExactInsideRing", spec := "fnExactInsideRing", unfollowed := true, recurses := true, apart := false, narrowed := true }
def FnExactInsideRingUptoSaid : Prop := fnExactInsideRingUptoRow.holds Try.pinned (OpenSpec.upto fnExactInsideRingSpec)

/-- 'laws.FnExactFirstPeaceful', WHERE WHAT IT READS IS OF BULK AT MOST 1048576: true; the input reads as it did. -/
def fnExactFirstPeacefulUptoRow : OpenClaim := { program := "ytfnkdimgmhhpiaa", sum := "9681a3cfb2331b21e11af47d4f17a4c0627b5e84f266ad4578bacec57c8a4dc5", func := "loop.example/g01239/laws.FnExactFirstPeaceful", spec := "fnExactFirstPeaceful", recurses := true, apart := false, narrowed := true }
def FnExactFirstPeacefulUptoSaid : Prop := fnExactFirstPeacefulUptoRow.holds Try.pinned (OpenSpec.upto fnExactFirstPeacefulSpec)

/-- 'laws.FnExactShortestRound', WHERE WHAT IT READS IS OF BULK AT MOST 1048576: true; the input reads as it did. -/
def fnExactShortestRoundUptoRow : OpenClaim := { program := "ytfnkdimgmhhpiaa", sum := "9681a3cfb2331b21e11af47d4f17a4c0627b5e84f266ad4578bacec57c8a4dc5", func := "loop.example/g01239/laws.FnExactShortestRound", spec := "fnExactShortestRound", recurses := true, apart := false, narrowed := true }
def FnExactShortestRoundUptoSaid : Prop := fnExactShortestRoundUptoRow.holds Try.pinned (OpenSpec.upto fnExactShortestRoundSpec)

end Rows
end Go.Proofs.Ytfnkdimgmhhpiaa
