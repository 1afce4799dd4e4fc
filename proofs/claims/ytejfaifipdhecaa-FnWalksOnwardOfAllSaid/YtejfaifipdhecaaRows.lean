/-
  No cell of these rows narrows 'for every input' (looked for: loops, veiled, ifaces, maps, wideKeys, modest, calm, conditions, laid).
  DERIVED. THE GIVEN ROWS OF THIS SEAT. 12 by the template 'for every input the law returns true; each argument reads behind the call as it read before'; 0 by the template 'total and deterministic' (their statements: YtejfaifipdhecaaTotals.lean).
  GIVEN WITH THE SEED: the statements are not yours to turn. If you find one false, say at which input.
  Laid BY PROGRAM, IN A SANDBOX (cutbox-rows.mjs): the forced cells as the released guide's own fill.sh prints them over the translation ecb1c00af52b5733… (all of the seat's roots in one cut). By AI agents, Wed Nov 11 2026. No macro, syntax, notation, axiom, sorry.
-/
import Derived.Test.YtejfaifipdhecaaChecked
import GoSem.Claim
import GoSem.ClaimJoined
import GoSem.ClaimMapViews
import Derived.JoinedTies
import Derived.KernelRfl
namespace Go.Proofs.Ytejfaifipdhecaa
/- THE CELL 'sum', in the pinned program and in every row, IS THE sha256 OF THE DUMP (.gsa) THAT YtejfaifipdhecaaProg.lean LOADS. Nothing in Lean hashes anything: it is a label: what it is worth is what the hold of that sum in a sandbox is worth. -/
noncomputable def Try.pinned : Pinned := { name := "ytejfaifipdhecaa", sum := "ecb1c00af52b57338755ba3672164e1ef136a8f6464d4ec51f8b5a8bad96a538", checked := Try.checked }
namespace Rows
def none {H : Type} : Left H := { results := [], args := [] }

/-- 'laws.FnExactCountToursFrom': WHATEVER THE INPUT: true; the input reads as it did. -/
def fnExactCountToursFromSpec : ChangeSpec := { name := "fnExactCountToursFrom", fn := fun _ => fun
  | [d1, d2, d3] => { results := [.lit (.bool true)], args := [d1, d2, d3] }
  | _ => none }
def fnExactCountToursFromRow : OpenClaim := { program := "ytejfaifipdhecaa", sum := "ecb1c00af52b57338755ba3672164e1ef136a8f6464d4ec51f8b5a8bad96a538", func := "loop.example/g01239/laws.FnExactCountToursFrom", spec := "fnExactCountToursFrom", unfollowed := true, recurses := true, apart := false }
def FnExactCountToursFromSaid : Prop := fnExactCountToursFromRow.holds Try.pinned (OpenSpec.ofChange fnExactCountToursFromSpec)

/-- ITS FALSE NEIGHBOUR: 'it returns false'. Refute it at one input. -/
def fnExactCountToursFromWrong : ChangeSpec := { name := "fnExactCountToursFrom", fn := fun _ => fun
  | [d1, d2, d3] => { results := [.lit (.bool false)], args := [d1, d2, d3] }
  | _ => none }
def FnExactCountToursFromWrongFalsely : Prop := fnExactCountToursFromRow.holds Try.pinned (OpenSpec.ofChange fnExactCountToursFromWrong)

/-- 'laws.FnExactCountClosedTours': WHATEVER THE INPUT: true; the input reads as it did. -/
def fnExactCountClosedToursSpec : ChangeSpec := { name := "fnExactCountClosedTours", fn := fun _ => fun
  | [d1, d2] => { results := [.lit (.bool true)], args := [d1, d2] }
  | _ => none }
def fnExactCountClosedToursRow : OpenClaim := { program := "ytejfaifipdhecaa", sum := "ecb1c00af52b57338755ba3672164e1ef136a8f6464d4ec51f8b5a8bad96a538", func := "loop.example/g01239/laws.FnExactCountClosedTours", spec := "fnExactCountClosedTours", unfollowed := true, recurses := true, apart := false }
def FnExactCountClosedToursSaid : Prop := fnExactCountClosedToursRow.holds Try.pinned (OpenSpec.ofChange fnExactCountClosedToursSpec)

/-- ITS FALSE NEIGHBOUR: 'it returns false'. Refute it at one input. -/
def fnExactCountClosedToursWrong : ChangeSpec := { name := "fnExactCountClosedTours", fn := fun _ => fun
  | [d1, d2] => { results := [.lit (.bool false)], args := [d1, d2] }
  | _ => none }
def FnExactCountClosedToursWrongFalsely : Prop := fnExactCountClosedToursRow.holds Try.pinned (OpenSpec.ofChange fnExactCountClosedToursWrong)

/-- 'laws.FnExactCountTours': WHATEVER THE INPUT: true; the input reads as it did. -/
def fnExactCountToursSpec : ChangeSpec := { name := "fnExactCountTours", fn := fun _ => fun
  | [d1, d2] => { results := [.lit (.bool true)], args := [d1, d2] }
  | _ => none }
def fnExactCountToursRow : OpenClaim := { program := "ytejfaifipdhecaa", sum := "ecb1c00af52b57338755ba3672164e1ef136a8f6464d4ec51f8b5a8bad96a538", func := "loop.example/g01239/laws.FnExactCountTours", spec := "fnExactCountTours", unfollowed := true, recurses := true, apart := false }
def FnExactCountToursSaid : Prop := fnExactCountToursRow.holds Try.pinned (OpenSpec.ofChange fnExactCountToursSpec)

/-- ITS FALSE NEIGHBOUR: 'it returns false'. Refute it at one input. -/
def fnExactCountToursWrong : ChangeSpec := { name := "fnExactCountTours", fn := fun _ => fun
  | [d1, d2] => { results := [.lit (.bool false)], args := [d1, d2] }
  | _ => none }
def FnExactCountToursWrongFalsely : Prop := fnExactCountToursRow.holds Try.pinned (OpenSpec.ofChange fnExactCountToursWrong)

/-- 'laws.FnExactFirstTourFrom': WHATEVER THE INPUT: true; the input reads as it did. -/
def fnExactFirstTourFromSpec : ChangeSpec := { name := "fnExactFirstTourFrom", fn := fun _ => fun
  | [d1, d2, d3] => { results := [.lit (.bool true)], args := [d1, d2, d3] }
  | _ => none }
def fnExactFirstTourFromRow : OpenClaim := { program := "ytejfaifipdhecaa", sum := "ecb1c00af52b57338755ba3672164e1ef136a8f6464d4ec51f8b5a8bad96a538", func := "loop.example/g01239/laws.FnExactFirstTourFrom", spec := "fnExactFirstTourFrom", unfollowed := true, recurses := true, apart := false }
def FnExactFirstTourFromSaid : Prop := fnExactFirstTourFromRow.holds Try.pinned (OpenSpec.ofChange fnExactFirstTourFromSpec)

/-- ITS FALSE NEIGHBOUR: 'it returns false'. Refute it at one input. -/
def fnExactFirstTourFromWrong : ChangeSpec := { name := "fnExactFirstTourFrom", fn := fun _ => fun
  | [d1, d2, d3] => { results := [.lit (.bool false)], args := [d1, d2, d3] }
  | _ => none }
def FnExactFirstTourFromWrongFalsely : Prop := fnExactFirstTourFromRow.holds Try.pinned (OpenSpec.ofChange fnExactFirstTourFromWrong)

/-- 'laws.FnExactFirstClosedTour': WHATEVER THE INPUT: true; the input reads as it did. -/
def fnExactFirstClosedTourSpec : ChangeSpec := { name := "fnExactFirstClosedTour", fn := fun _ => fun
  | [d1, d2] => { results := [.lit (.bool true)], args := [d1, d2] }
  | _ => none }
def fnExactFirstClosedTourRow : OpenClaim := { program := "ytejfaifipdhecaa", sum := "ecb1c00af52b57338755ba3672164e1ef136a8f6464d4ec51f8b5a8bad96a538", func := "loop.example/g01239/laws.FnExactFirstClosedTour", spec := "fnExactFirstClosedTour", unfollowed := true, recurses := true, apart := false }
def FnExactFirstClosedTourSaid : Prop := fnExactFirstClosedTourRow.holds Try.pinned (OpenSpec.ofChange fnExactFirstClosedTourSpec)

/-- ITS FALSE NEIGHBOUR: 'it returns false'. Refute it at one input. -/
def fnExactFirstClosedTourWrong : ChangeSpec := { name := "fnExactFirstClosedTour", fn := fun _ => fun
  | [d1, d2] => { results := [.lit (.bool false)], args := [d1, d2] }
  | _ => none }
def FnExactFirstClosedTourWrongFalsely : Prop := fnExactFirstClosedTourRow.holds Try.pinned (OpenSpec.ofChange fnExactFirstClosedTourWrong)

/-- 'laws.FnExactFirstTour': WHATEVER THE INPUT: true; the input reads as it did. -/
def fnExactFirstTourSpec : ChangeSpec := { name := "fnExactFirstTour", fn := fun _ => fun
  | [d1, d2] => { results := [.lit (.bool true)], args := [d1, d2] }
  | _ => none }
def fnExactFirstTourRow : OpenClaim := { program := "ytejfaifipdhecaa", sum := "ecb1c00af52b57338755ba3672164e1ef136a8f6464d4ec51f8b5a8bad96a538", func := "loop.example/g01239/laws.FnExactFirstTour", spec := "fnExactFirstTour", unfollowed := true, recurses := true, apart := false }
def FnExactFirstTourSaid : Prop := fnExactFirstTourRow.holds Try.pinned (OpenSpec.ofChange fnExactFirstTourSpec)

/-- ITS FALSE NEIGHBOUR: 'it returns false'. Refute it at one input. -/
def fnExactFirstTourWrong : ChangeSpec := { name := "fnExactFirstTour", fn := fun _ => fun
  | [d1, d2] => { results := [.lit (.bool false)], args := [d1, d2] }
  | _ => none }
def FnExactFirstTourWrongFalsely : Prop := fnExactFirstTourRow.holds Try.pinned (OpenSpec.ofChange fnExactFirstTourWrong)

/-- 'laws.FnExactLongestUncrossed': WHATEVER THE INPUT: true; the input reads as it did. -/
def fnExactLongestUncrossedSpec : ChangeSpec := { name := "fnExactLongestUncrossed", fn := fun _ => fun
  | [d1, d2] => { results := [.lit (.bool true)], args := [d1, d2] }
  | _ => none }
def fnExactLongestUncrossedRow : OpenClaim := { program := "ytejfaifipdhecaa", sum := "ecb1c00af52b57338755ba3672164e1ef136a8f6464d4ec51f8b5a8bad96a538", func := "loop.example/g01239/laws.FnExactLongestUncrossed", spec := "fnExactLongestUncrossed", unfollowed := true, recurses := true, apart := false }
def FnExactLongestUncrossedSaid : Prop := fnExactLongestUncrossedRow.holds Try.pinned (OpenSpec.ofChange fnExactLongestUncrossedSpec)

/-- ITS FALSE NEIGHBOUR: 'it returns false'. Refute it at one input. -/
def fnExactLongestUncrossedWrong : ChangeSpec := { name := "fnExactLongestUncrossed", fn := fun _ => fun
  | [d1, d2] => { results := [.lit (.bool false)], args := [d1, d2] }
  | _ => none }
def FnExactLongestUncrossedWrongFalsely : Prop := fnExactLongestUncrossedRow.holds Try.pinned (OpenSpec.ofChange fnExactLongestUncrossedWrong)

/-- 'laws.FnExactLargestRing': WHATEVER THE INPUT: true; the input reads as it did. -/
def fnExactLargestRingSpec : ChangeSpec := { name := "fnExactLargestRing", fn := fun _ => fun
  | [d1, d2, d3] => { results := [.lit (.bool true)], args := [d1, d2, d3] }
  | _ => none }
def fnExactLargestRingRow : OpenClaim := { program := "ytejfaifipdhecaa", sum := "ecb1c00af52b57338755ba3672164e1ef136a8f6464d4ec51f8b5a8bad96a538", func := "loop.example/g01239/laws.FnExactLargestRing", spec := "fnExactLargestRing", unfollowed := true, recurses := true, apart := false }
def FnExactLargestRingSaid : Prop := fnExactLargestRingRow.holds Try.pinned (OpenSpec.ofChange fnExactLargestRingSpec)

/-- ITS FALSE NEIGHBOUR: 'it returns false'. Refute it at one input. -/
def fnExactLargestRingWrong : ChangeSpec := { name := "fnExactLargestRing", fn := fun _ => fun
  | [d1, d2, d3] => { results := [.lit (.bool false)], args := [d1, d2, d3] }
  | _ => none }
def FnExactLargestRingWrongFalsely : Prop := fnExactLargestRingRow.holds Try.pinned (OpenSpec.ofChange fnExactLargestRingWrong)

/-- 'laws.FnToursFoundOfAll': WHATEVER THE INPUT: true; the input reads as it did. -/
def fnToursFoundOfAllSpec : ChangeSpec := { name := "fnToursFoundOfAll", fn := fun _ => fun
  | [d1, d2, d3, d4, d5, d6, d7] => { results := [.lit (.bool true)], args := [d1, d2, d3, d4, d5, d6, d7] }
  | _ => none }
def fnToursFoundOfAllRow : OpenClaim := { program := "ytejfaifipdhecaa", sum := "ecb1c00af52b57338755ba3672164e1ef136a8f6464d4ec51f8b5a8bad96a538", func := "loop.example/g01239/laws.FnToursFoundOfAll", spec := "fnToursFoundOfAll", unfollowed := true, recurses := true, apart := false }
def FnToursFoundOfAllSaid : Prop := fnToursFoundOfAllRow.holds Try.pinned (OpenSpec.ofChange fnToursFoundOfAllSpec)

/-- ITS FALSE NEIGHBOUR: 'it returns false'. Refute it at one input. -/
def fnToursFoundOfAllWrong : ChangeSpec := { name := "fnToursFoundOfAll", fn := fun _ => fun
  | [d1, d2, d3, d4, d5, d6, d7] => { results := [.lit (.bool false)], args := [d1, d2, d3, d4, d5, d6, d7] }
  | _ => none }
def FnToursFoundOfAllWrongFalsely : Prop := fnToursFoundOfAllRow.holds Try.pinned (OpenSpec.ofChange fnToursFoundOfAllWrong)

/-- 'laws.FnToursClosedOfAll': WHATEVER THE INPUT: true; the input reads as it did. -/
def fnToursClosedOfAllSpec : ChangeSpec := { name := "fnToursClosedOfAll", fn := fun _ => fun
  | [d1, d2, d3, d4, d5, d6] => { results := [.lit (.bool true)], args := [d1, d2, d3, d4, d5, d6] }
  | _ => none }
def fnToursClosedOfAllRow : OpenClaim := { program := "ytejfaifipdhecaa", sum := "ecb1c00af52b57338755ba3672164e1ef136a8f6464d4ec51f8b5a8bad96a538", func := "loop.example/g01239/laws.FnToursClosedOfAll", spec := "fnToursClosedOfAll", unfollowed := true, recurses := true, apart := false }
def FnToursClosedOfAllSaid : Prop := fnToursClosedOfAllRow.holds Try.pinned (OpenSpec.ofChange fnToursClosedOfAllSpec)

/-- ITS FALSE NEIGHBOUR: 'it returns false'. Refute it at one input. -/
def fnToursClosedOfAllWrong : ChangeSpec := { name := "fnToursClosedOfAll", fn := fun _ => fun
  | [d1, d2, d3, d4, d5, d6] => { results := [.lit (.bool false)], args := [d1, d2, d3, d4, d5, d6] }
  | _ => none }
def FnToursClosedOfAllWrongFalsely : Prop := fnToursClosedOfAllRow.holds Try.pinned (OpenSpec.ofChange fnToursClosedOfAllWrong)

/-- 'laws.FnWalksOnwardOfAll': WHATEVER THE INPUT: true; the input reads as it did. -/
def fnWalksOnwardOfAllSpec : ChangeSpec := { name := "fnWalksOnwardOfAll", fn := fun _ => fun
  | [d1, d2, d3, d4, d5, d6, d7, d8, d9, d10, d11] => { results := [.lit (.bool true)], args := [d1, d2, d3, d4, d5, d6, d7, d8, d9, d10, d11] }
  | _ => none }
def fnWalksOnwardOfAllRow : OpenClaim := { program := "ytejfaifipdhecaa", sum := "ecb1c00af52b57338755ba3672164e1ef136a8f6464d4ec51f8b5a8bad96a538", func := "loop.example/g01239/laws.FnWalksOnwardOfAll", spec := "fnWalksOnwardOfAll", recurses := true, apart := false }
def FnWalksOnwardOfAllSaid : Prop := fnWalksOnwardOfAllRow.holds Try.pinned (OpenSpec.ofChange fnWalksOnwardOfAllSpec)

/-- ITS FALSE NEIGHBOUR: 'it returns false'. Refute it at one input. -/
def fnWalksOnwardOfAllWrong : ChangeSpec := { name := "fnWalksOnwardOfAll", fn := fun _ => fun
  | [d1, d2, d3, d4, d5, d6, d7, d8, d9, d10, d11] => { results := [.lit (.bool false)], args := [d1, d2, d3, d4, d5, d6, d7, d8, d9, d10, d11] }
  | _ => none }
def FnWalksOnwardOfAllWrongFalsely : Prop := fnWalksOnwardOfAllRow.holds Try.pinned (OpenSpec.ofChange fnWalksOnwardOfAllWrong)

/-- 'laws.FnRoutesShortestOfAll': WHATEVER THE INPUT: true; the input reads as it did. -/
def fnRoutesShortestOfAllSpec : ChangeSpec := { name := "fnRoutesShortestOfAll", fn := fun _ => fun
  | [d1, d2, d3, d4, d5, d6, d7, d8, d9, d10, d11, d12] => { results := [.lit (.bool true)], args := [d1, d2, d3, d4, d5, d6, d7, d8, d9, d10, d11, d12] }
  | _ => none }
def fnRoutesShortestOfAllRow : OpenClaim := { program := "ytejfaifipdhecaa", sum := "ecb1c00af52b57338755ba3672164e1ef136a8f6464d4ec51f8b5a8bad96a538", func := "loop.example/g01239/laws.FnRoutesShortestOfAll", spec := "fnRoutesShortestOfAll", recurses := true, apart := false }
def FnRoutesShortestOfAllSaid : Prop := fnRoutesShortestOfAllRow.holds Try.pinned (OpenSpec.ofChange fnRoutesShortestOfAllSpec)

/-- ITS FALSE NEIGHBOUR: 'it returns false'. Refute it at one input. -/
def fnRoutesShortestOfAllWrong : ChangeSpec := { name := "fnRoutesShortestOfAll", fn := fun _ => fun
  | [d1, d2, d3, d4, d5, d6, d7, d8, d9, d10, d11, d12] => { results := [.lit (.bool false)], args := [d1, d2, d3, d4, d5, d6, d7, d8, d9, d10, d11, d12] }
  | _ => none }
def FnRoutesShortestOfAllWrongFalsely : Prop := fnRoutesShortestOfAllRow.holds Try.pinned (OpenSpec.ofChange fnRoutesShortestOfAllWrong)

/- THE SECOND FORM. 'bulk': how many values and letters a reading holds, each counted each time it is reached (what is shared counts as often as it is met; a slice's spare places count too). A statement '..UptoSaid' is the law's where the arguments, and the package variables that the reading takes, are together of bulk at most 1048576: NARROWER than '..Said'. Prove '..Said' where nothing that the law and all that it calls make is longer than what came in: it says more and counts as full. Else prove '..UptoSaid'. A law counts once. -/
mutual
def uptoBulk {H : Type} : DataW H → Nat
  | .lit (.string bytes) => bytes.length + 1
  | .lit _ => 1
  | .nil => 1
  | .ptr d => uptoBulk d + 1
  | .slice elems spare => uptoBulkAll elems + uptoBulkAll spare + 1
  | .agg parts => uptoBulkAll parts + 1
  | .iface _ d => uptoBulk d + 1
  | .map entries => uptoBulkEntries entries + 1
  | .held _ => 1
def uptoBulkAll {H : Type} : List (DataW H) → Nat
  | [] => 0
  | d :: r => uptoBulk d + uptoBulkAll r
def uptoBulkEntries {H : Type} : List (Lit × DataW H) → Nat
  | [] => 0
  | x :: r => uptoBulkEntry x + uptoBulkEntries r
def uptoBulkEntry {H : Type} : Lit × DataW H → Nat
  | (.string bytes, d) => bytes.length + uptoBulk d + 1
  | (_, d) => uptoBulk d + 1
 end
def uptoSmall : (H : Type) → List (DataW H) → Bool := fun _ ds => decide (uptoBulkAll ds ≤ 1048576)
def OpenSpec.upto (s : _root_.Go.ChangeSpec) : _root_.Go.OpenSpec := { _root_.Go.OpenSpec.ofChange s with cond := some uptoSmall }

/-- 'laws.FnExactCountToursFrom', WHERE WHAT IT READS IS OF BULK AT MOST 1048576: true; the input reads as it did. -/
def fnExactCountToursFromUptoRow : OpenClaim := { program := "ytejfaifipdhecaa", sum := "ecb1c00af52b57338755ba3672164e1ef136a8f6464d4ec51f8b5a8bad96a538", func := "loop.example/g01239/laws.FnExactCountToursFrom", spec := "fnExactCountToursFrom", unfollowed := true, recurses := true, apart := false, narrowed := true }
def FnExactCountToursFromUptoSaid : Prop := fnExactCountToursFromUptoRow.holds Try.pinned (OpenSpec.upto fnExactCountToursFromSpec)

/-- 'laws.FnExactCountClosedTours', WHERE WHAT IT READS IS OF BULK AT MOST 1048576: true; the input reads as it did. -/
def fnExactCountClosedToursUptoRow : OpenClaim := { program := "ytejfaifipdhecaa", sum := "ecb1c00af52b57338755ba3672164e1ef136a8f6464d4ec51f8b5a8bad96a538", func := "loop.example/g01239/laws.FnExactCountClosedTours", spec := "fnExactCountClosedTours", unfollowed := true, recurses := true, apart := false, narrowed := true }
def FnExactCountClosedToursUptoSaid : Prop := fnExactCountClosedToursUptoRow.holds Try.pinned (OpenSpec.upto fnExactCountClosedToursSpec)

/-- 'laws.FnExactCountTours', WHERE WHAT IT READS IS OF BULK AT MOST 1048576: true; the input reads as it did. -/
def fnExactCountToursUptoRow : OpenClaim := { program := "ytejfaifipdhecaa", sum := "ecb1c00af52b57338755ba3672164e1ef136a8f6464d4ec51f8b5a8bad96a538", func := "loop.example/g01239/laws.FnExactCountTours", spec := "fnExactCountTours", unfollowed := true, recurses := true, apart := false, narrowed := true }
def FnExactCountToursUptoSaid : Prop := fnExactCountToursUptoRow.holds Try.pinned (OpenSpec.upto fnExactCountToursSpec)

/-- 'laws.FnExactFirstTourFrom', WHERE WHAT IT READS IS OF BULK AT MOST 1048576: true; the input reads as it did. -/
def fnExactFirstTourFromUptoRow : OpenClaim := { program := "ytejfaifipdhecaa", sum := "ecb1c00af52b57338755ba3672164e1ef136a8f6464d4ec51f8b5a8bad96a538", func := "loop.example/g01239/laws.FnExactFirstTourFrom", spec := "fnExactFirstTourFrom", unfollowed := true, recurses := true, apart := false, narrowed := true }
def FnExactFirstTourFromUptoSaid : Prop := fnExactFirstTourFromUptoRow.holds Try.pinned (OpenSpec.upto fnExactFirstTourFromSpec)

/-- 'laws.FnExactFirstClosedTour', WHERE WHAT IT READS IS OF BULK AT MOST 1048576: true; the input reads as it did. -/
def fnExactFirstClosedTourUptoRow : OpenClaim := { program := "ytejfaifipdhecaa", sum := "ecb1c00af52b57338755ba3672164e1ef136a8f6464d4ec51f8b5a8bad96a538", func := "loop.example/g01239/laws.FnExactFirstClosedTour", spec := "fnExactFirstClosedTour", unfollowed := true, recurses := true, apart := false, narrowed := true }
def FnExactFirstClosedTourUptoSaid : Prop := fnExactFirstClosedTourUptoRow.holds Try.pinned (OpenSpec.upto fnExactFirstClosedTourSpec)

/-- 'laws.FnExactFirstTour', WHERE WHAT IT READS IS OF BULK AT MOST 1048576: true; the input reads as it did. -/
def fnExactFirstTourUptoRow : OpenClaim := { program := "ytejfaifipdhecaa", sum := "ecb1c00af52b57338755ba3672164e1ef136a8f6464d4ec51f8b5a8bad96a538", func := "loop.example/g01239/laws.FnExactFirstTour", spec := "fnExactFirstTour", unfollowed := true, recurses := true, apart := false, narrowed := true }
def FnExactFirstTourUptoSaid : Prop := fnExactFirstTourUptoRow.holds Try.pinned (OpenSpec.upto fnExactFirstTourSpec)

/-- 'laws.FnExactLongestUncrossed', WHERE WHAT IT READS IS OF BULK AT MOST 1048576: true; the input reads as it did. -/
def fnExactLongestUncrossedUptoRow : OpenClaim := { program := "ytejfaifipdhecaa", sum := "ecb1c00af52b57338755ba3672164e1ef136a8f6464d4ec51f8b5a8bad96a538", func := "loop.example/g01239/laws.FnExactLongestUncrossed", spec := "fnExactLongestUncrossed", unfollowed := true, recurses := true, apart := false, narrowed := true }
def FnExactLongestUncrossedUptoSaid : Prop := fnExactLongestUncrossedUptoRow.holds Try.pinned (OpenSpec.upto fnExactLongestUncrossedSpec)

/-- 'laws.FnExactLargestRing', WHERE WHAT IT READS IS OF BULK AT MOST 1048576: true; the input reads as it did. -/
def fnExactLargestRingUptoRow : OpenClaim := { program := "ytejfaifipdhecaa", sum := "ecb1c00af52b57338755ba3672164e1ef136a8f6464d4ec51f8b5a8bad96a538", func := "loop.example/g01239/laws.FnExactLargestRing", spec := "fnExactLargestRing", unfollowed := true, recurses := true, apart := false, narrowed := true }
def FnExactLargestRingUptoSaid : Prop := fnExactLargestRingUptoRow.holds Try.pinned (OpenSpec.upto fnExactLargestRingSpec)

/-- 'laws.FnToursFoundOfAll', WHERE WHAT IT READS IS OF BULK AT MOST 1048576: true; the input reads as it did. -/
def fnToursFoundOfAllUptoRow : OpenClaim := { program := "ytejfaifipdhecaa", sum := "ecb1c00af52b57338755ba3672164e1ef136a8f6464d4ec51f8b5a8bad96a538", func := "loop.example/g01239/laws.FnToursFoundOfAll", spec := "fnToursFoundOfAll", unfollowed := true, recurses := true, apart := false, narrowed := true }
def FnToursFoundOfAllUptoSaid : Prop := fnToursFoundOfAllUptoRow.holds Try.pinned (OpenSpec.upto fnToursFoundOfAllSpec)

/-- 'laws.FnToursClosedOfAll', WHERE WHAT IT READS IS OF BULK AT MOST 1048576: true; the input reads as it did. -/
def fnToursClosedOfAllUptoRow : OpenClaim := { program := "ytejfaifipdhecaa", sum := "ecb1c00af52b57338755ba3672164e1ef136a8f6464d4ec51f8b5a8bad96a538", func := "loop.example/g01239/laws.FnToursClosedOfAll", spec := "fnToursClosedOfAll", unfollowed := true, recurses := true, apart := false, narrowed := true }
def FnToursClosedOfAllUptoSaid : Prop := fnToursClosedOfAllUptoRow.holds Try.pinned (OpenSpec.upto fnToursClosedOfAllSpec)

/-- 'laws.FnWalksOnwardOfAll', WHERE WHAT IT READS IS OF BULK AT MOST 1048576: true; the input reads as it did. -/
def fnWalksOnwardOfAllUptoRow : OpenClaim := { program := "ytejfaifipdhecaa", sum := "ecb1c00af52b57338755ba3672164e1ef136a8f6464d4ec51f8b5a8bad96a538", func := "loop.example/g01239/laws.FnWalksOnwardOfAll", spec := "fnWalksOnwardOfAll", recurses := true, apart := false, narrowed := true }
def FnWalksOnwardOfAllUptoSaid : Prop := fnWalksOnwardOfAllUptoRow.holds Try.pinned (OpenSpec.upto fnWalksOnwardOfAllSpec)

/-- 'laws.FnRoutesShortestOfAll', WHERE WHAT IT READS IS OF BULK AT MOST 1048576: true; the input reads as it did. -/
def fnRoutesShortestOfAllUptoRow : OpenClaim := { program := "ytejfaifipdhecaa", sum := "ecb1c00af52b57338755ba3672164e1ef136a8f6464d4ec51f8b5a8bad96a538", func := "loop.example/g01239/laws.FnRoutesShortestOfAll", spec := "fnRoutesShortestOfAll", recurses := true, apart := false, narrowed := true }
def FnRoutesShortestOfAllUptoSaid : Prop := fnRoutesShortestOfAllUptoRow.holds Try.pinned (OpenSpec.upto fnRoutesShortestOfAllSpec)

end Rows
end Go.Proofs.Ytejfaifipdhecaa
