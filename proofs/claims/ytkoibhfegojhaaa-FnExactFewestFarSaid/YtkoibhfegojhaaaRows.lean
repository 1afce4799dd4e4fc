/-
  No cell of these rows narrows 'for every input' (looked for: loops, veiled, ifaces, maps, wideKeys, modest, calm, conditions, laid).
  DERIVED. THE GIVEN ROWS OF THIS SEAT. 6 by the template 'for every input the law returns true; each argument reads behind the call as it read before'; 0 by the template 'total and deterministic' (their statements: YtkoibhfegojhaaaTotals.lean).
  GIVEN WITH THE SEED: the statements are not yours to turn. If you find one false, say at which input.
  Laid BY PROGRAM, IN A SANDBOX (cutbox-rows.mjs): the forced cells as the released guide's own fill.sh prints them over the translation c9b257d0ca857ceb… (all of the seat's roots in one cut). By AI agents, Wed Nov 11 2026. No macro, syntax, notation, axiom, sorry.
-/
import Derived.Test.YtkoibhfegojhaaaChecked
import GoSem.Claim
import GoSem.ClaimJoined
import GoSem.ClaimMapViews
import Derived.JoinedTies
import Derived.KernelRfl
namespace Go.Proofs.Ytkoibhfegojhaaa
/- THE CELL 'sum', in the pinned program and in every row, IS THE sha256 OF THE DUMP (.gsa) THAT YtkoibhfegojhaaaProg.lean LOADS. Nothing in Lean hashes anything: it is a label: what it is worth is what the hold of that sum in a sandbox is worth. -/
noncomputable def Try.pinned : Pinned := { name := "ytkoibhfegojhaaa", sum := "c9b257d0ca857ceb342d4f02d26f16c0ae82c3b8008b797e6a6184f35923534b", checked := Try.checked }
namespace Rows
def none {H : Type} : Left H := { results := [], args := [] }

/-- 'laws.FnExactTwoColours': WHATEVER THE INPUT: true; the input reads as it did. -/
def fnExactTwoColoursSpec : ChangeSpec := { name := "fnExactTwoColours", fn := fun _ => fun
  | [d1, d2] => { results := [.lit (.bool true)], args := [d1, d2] }
  | _ => none }
def fnExactTwoColoursRow : OpenClaim := { program := "ytkoibhfegojhaaa", sum := "c9b257d0ca857ceb342d4f02d26f16c0ae82c3b8008b797e6a6184f35923534b", func := "loop.example/g01239/laws.FnExactTwoColours", spec := "fnExactTwoColours", recurses := true, apart := false }
def FnExactTwoColoursSaid : Prop := fnExactTwoColoursRow.holds Try.pinned (OpenSpec.ofChange fnExactTwoColoursSpec)

/-- ITS FALSE NEIGHBOUR: 'it returns false'. Refute it at one input. -/
def fnExactTwoColoursWrong : ChangeSpec := { name := "fnExactTwoColours", fn := fun _ => fun
  | [d1, d2] => { results := [.lit (.bool false)], args := [d1, d2] }
  | _ => none }
def FnExactTwoColoursWrongFalsely : Prop := fnExactTwoColoursRow.holds Try.pinned (OpenSpec.ofChange fnExactTwoColoursWrong)

/-- 'laws.FnExactFewestFar': WHATEVER THE INPUT: true; the input reads as it did. -/
def fnExactFewestFarSpec : ChangeSpec := { name := "fnExactFewestFar", fn := fun _ => fun
  | [d1, d2] => { results := [.lit (.bool true)], args := [d1, d2] }
  | _ => none }
def fnExactFewestFarRow : OpenClaim := { program := "ytkoibhfegojhaaa", sum := "c9b257d0ca857ceb342d4f02d26f16c0ae82c3b8008b797e6a6184f35923534b", func := "loop.example/g01239/laws.FnExactFewestFar", spec := "fnExactFewestFar", recurses := true, apart := false }
def FnExactFewestFarSaid : Prop := fnExactFewestFarRow.holds Try.pinned (OpenSpec.ofChange fnExactFewestFarSpec)

/-- ITS FALSE NEIGHBOUR: 'it returns false'. Refute it at one input. -/
def fnExactFewestFarWrong : ChangeSpec := { name := "fnExactFewestFar", fn := fun _ => fun
  | [d1, d2] => { results := [.lit (.bool false)], args := [d1, d2] }
  | _ => none }
def FnExactFewestFarWrongFalsely : Prop := fnExactFewestFarRow.holds Try.pinned (OpenSpec.ofChange fnExactFewestFarWrong)

/-- 'laws.FnExactCountToursFrom': WHATEVER THE INPUT: true; the input reads as it did. -/
def fnExactCountToursFromSpec : ChangeSpec := { name := "fnExactCountToursFrom", fn := fun _ => fun
  | [d1, d2, d3] => { results := [.lit (.bool true)], args := [d1, d2, d3] }
  | _ => none }
def fnExactCountToursFromRow : OpenClaim := { program := "ytkoibhfegojhaaa", sum := "c9b257d0ca857ceb342d4f02d26f16c0ae82c3b8008b797e6a6184f35923534b", func := "loop.example/g01239/laws.FnExactCountToursFrom", spec := "fnExactCountToursFrom", unfollowed := true, recurses := true, apart := false }
def FnExactCountToursFromSaid : Prop := fnExactCountToursFromRow.holds Try.pinned (OpenSpec.ofChange fnExactCountToursFromSpec)

/-- ITS FALSE NEIGHBOUR: 'it returns false'. Refute it at one input. -/
def fnExactCountToursFromWrong : ChangeSpec := { name := "fnExactCountToursFrom", fn := fun _ => fun
  | [d1, d2, d3] => { results := [.lit (.bool false)], args := [d1, d2, d3] }
  | _ => none }
def FnExactCountToursFromWrongFalsely : Prop := fnExactCountToursFromRow.holds Try.pinned (OpenSpec.ofChange fnExactCountToursFromWrong)

/-- 'laws.FnExactIsUncrossed': WHATEVER THE INPUT: true; the input reads as it did. -/
def fnExactIsUncrossedSpec : ChangeSpec := { name := "fnExactIsUncrossed", fn := fun _ => fun
  | [d1, d2, d3] => { results := [.lit (.bool true)], args := [d1, d2, d3] }
  | _ => none }
def fnExactIsUncrossedRow : OpenClaim := { program := "ytkoibhfegojhaaa", sum := "c9b257d0ca857ceb342d4f02d26f16c0ae82c3b8008b797e6a6184f35923534b", func := "loop.example/g01239/laws.FnExactIsUncrossed", spec := "fnExactIsUncrossed", unfollowed := true, recurses := true, apart := false }
def FnExactIsUncrossedSaid : Prop := fnExactIsUncrossedRow.holds Try.pinned (OpenSpec.ofChange fnExactIsUncrossedSpec)

/-- ITS FALSE NEIGHBOUR: 'it returns false'. Refute it at one input. -/
def fnExactIsUncrossedWrong : ChangeSpec := { name := "fnExactIsUncrossed", fn := fun _ => fun
  | [d1, d2, d3] => { results := [.lit (.bool false)], args := [d1, d2, d3] }
  | _ => none }
def FnExactIsUncrossedWrongFalsely : Prop := fnExactIsUncrossedRow.holds Try.pinned (OpenSpec.ofChange fnExactIsUncrossedWrong)

/-- 'laws.FnExactCountClosedTours': WHATEVER THE INPUT: true; the input reads as it did. -/
def fnExactCountClosedToursSpec : ChangeSpec := { name := "fnExactCountClosedTours", fn := fun _ => fun
  | [d1, d2] => { results := [.lit (.bool true)], args := [d1, d2] }
  | _ => none }
def fnExactCountClosedToursRow : OpenClaim := { program := "ytkoibhfegojhaaa", sum := "c9b257d0ca857ceb342d4f02d26f16c0ae82c3b8008b797e6a6184f35923534b", func := "loop.example/g01239/laws.FnExactCountClosedTours", spec := "fnExactCountClosedTours", unfollowed := true, recurses := true, apart := false }
def FnExactCountClosedToursSaid : Prop := fnExactCountClosedToursRow.holds Try.pinned (OpenSpec.ofChange fnExactCountClosedToursSpec)

/-- ITS FALSE NEIGHBOUR: 'it returns false'. Refute it at one input. -/
def fnExactCountClosedToursWrong : ChangeSpec := { name := "fnExactCountClosedTours", fn := fun _ => fun
  | [d1, d2] => { results := [.lit (.bool false)], args := [d1, d2] }
  | _ => none }
def FnExactCountClosedToursWrongFalsely : Prop := fnExactCountClosedToursRow.holds Try.pinned (OpenSpec.ofChange fnExactCountClosedToursWrong)

/-- 'laws.FnPlaneReached': WHATEVER THE INPUT: true; the input reads as it did. -/
def fnPlaneReachedSpec : ChangeSpec := { name := "fnPlaneReached", fn := fun _ => fun
  | [d1, d2] => { results := [.lit (.bool true)], args := [d1, d2] }
  | _ => none }
def fnPlaneReachedRow : OpenClaim := { program := "ytkoibhfegojhaaa", sum := "c9b257d0ca857ceb342d4f02d26f16c0ae82c3b8008b797e6a6184f35923534b", func := "loop.example/g01239/laws.FnPlaneReached", spec := "fnPlaneReached", recurses := true, apart := false }
def FnPlaneReachedSaid : Prop := fnPlaneReachedRow.holds Try.pinned (OpenSpec.ofChange fnPlaneReachedSpec)

/-- ITS FALSE NEIGHBOUR: 'it returns false'. Refute it at one input. -/
def fnPlaneReachedWrong : ChangeSpec := { name := "fnPlaneReached", fn := fun _ => fun
  | [d1, d2] => { results := [.lit (.bool false)], args := [d1, d2] }
  | _ => none }
def FnPlaneReachedWrongFalsely : Prop := fnPlaneReachedRow.holds Try.pinned (OpenSpec.ofChange fnPlaneReachedWrong)

/- THE SECOND FORM. 'bulk': how many values and letters a reading holds, each counted each time it is reached (what is shared counts as often as it is met; a slice's spare places count too). A statement '..UptoSaid' is the law's where the arguments, and the package variables that the reading takes, are together of bulk at most 1048576: NARROWER than '..Said'. Prove '..Said' where nothing that the law and all that it calls make is longer than what came in: it says more and counts as full. Else prove '..UptoSaid'. A law counts once. -/
mutual
def uptoBulk {H : Type} : DataW H → Nat
  | .lit (.string bytes) => bytes.length + 1
  | .lit _ => 1
  | .nil => 1
  | .ptr d => uptoBulk d + 1
  | .slice elems spare => uptoBulkAll elems + uptoBulkAll spare + 1
  | .agg parts => uptoBulkAll parts + 1
  | .iface _ d => uptoBulk d + 1
  | .map entries => uptoBulkEntries entries + 1
  | .held _ => 1
def uptoBulkAll {H : Type} : List (DataW H) → Nat
  | [] => 0
  | d :: r => uptoBulk d + uptoBulkAll r
def uptoBulkEntries {H : Type} : List (Lit × DataW H) → Nat
  | [] => 0
  | x :: r => uptoBulkEntry x + uptoBulkEntries r
def uptoBulkEntry {H : Type} : Lit × DataW H → Nat
  | (.string bytes, d) => bytes.length + uptoBulk d + 1
  | (_, d) => uptoBulk d + 1
 end
def uptoSmall : (H : Type) → List (DataW H) → Bool := fun _ ds => decide (uptoBulkAll ds ≤ 1048576)
def OpenSpec.upto (s : _root_.Go.ChangeSpec) : _root_.Go.OpenSpec := { _root_.Go.OpenSpec.ofChange s with cond := some uptoSmall }

/-- 'laws.FnExactTwoColours', WHERE WHAT IT READS IS OF BULK AT MOST 1048576: true; the input reads as it did. -/
def fnExactTwoColoursUptoRow : OpenClaim := { program := "ytkoibhfegojhaaa", sum := "c9b257d0ca857ceb342d4f02d26f16c0ae82c3b8008b797e6a6184f35923534b", func := "loop.example/g01239/laws.FnExactTwoColours", spec := "fnExactTwoColours", recurses := true, apart := false, narrowed := true }
def FnExactTwoColoursUptoSaid : Prop := fnExactTwoColoursUptoRow.holds Try.pinned (OpenSpec.upto fnExactTwoColoursSpec)

/-- 'laws.FnExactFewestFar', WHERE WHAT IT READS IS OF BULK AT MOST 1048576: true; the input reads as it did. -/
def fnExactFewestFarUptoRow : OpenClaim := { program := "ytkoibhfegojhaaa", sum := "c9b257d0ca857ceb342d4f02d26f16c0ae82c3b8008b797e6a6184f35923534b", func := "loop.example/g01239/laws.FnExactFewestFar", spec := "fnExactFewestFar", recurses := true, apart := false, narrowed := true }
def FnExactFewestFarUptoSaid : Prop := fnExactFewestFarUptoRow.holds Try.pinned (OpenSpec.upto fnExactFewestFarSpec)

/-- 'laws.FnExactCountToursFrom', WHERE WHAT IT READS IS OF BULK AT MOST 1048576: true; the input reads as it did. -/
def fnExactCountToursFromUptoRow : OpenClaim := { program := "ytkoibhfegojhaaa", sum := "c9b257d0ca857ceb342d4f02d26f16c0ae82c3b8008b797e6a6184f35923534b", func := "loop.example/g01239/laws.FnExactCountToursFrom", spec := "fnExactCountToursFrom", unfollowed := true, recurses := true, apart := false, narrowed := true }
def FnExactCountToursFromUptoSaid : Prop := fnExactCountToursFromUptoRow.holds Try.pinned (OpenSpec.upto fnExactCountToursFromSpec)

/-- 'laws.FnExactIsUncrossed', WHERE WHAT IT READS IS OF BULK AT MOST 1048576: true; the input reads as it did. -/
def fnExactIsUncrossedUptoRow : OpenClaim := { program := "ytkoibhfegojhaaa", sum := "c9b257d0ca857ceb342d4f02d26f16c0ae82c3b8008b797e6a6184f35923534b", func := "loop.example/g01239/laws.FnExactIsUncrossed", spec := "fnExactIsUncrossed", unfollowed := true, recurses := true, apart := false, narrowed := true }
def FnExactIsUncrossedUptoSaid : Prop := fnExactIsUncrossedUptoRow.holds Try.pinned (OpenSpec.upto fnExactIsUncrossedSpec)

/-- 'laws.FnExactCountClosedTours', WHERE WHAT IT READS IS OF BULK AT MOST 1048576: true; the input reads as it did. -/
def fnExactCountClosedToursUptoRow : OpenClaim := { program := "ytkoibhfegojhaaa", sum := "c9b257d0ca857ceb342d4f02d26f16c0ae82c3b8008b797e6a6184f35923534b", func := "loop.example/g01239/laws.FnExactCountClosedTours", spec := "fnExactCountClosedTours", unfollowed := true, recurses := true, apart := false, narrowed := true }
def FnExactCountClosedToursUptoSaid : Prop := fnExactCountClosedToursUptoRow.holds Try.pinned (OpenSpec.upto fnExactCountClosedToursSpec)

/-- 'laws.FnPlaneReached', WHERE WHAT IT READS IS OF BULK AT MOST 1048576: true; the input reads as it did. -/
def fnPlaneReachedUptoRow : OpenClaim := { program := "ytkoibhfegojhaaa", sum := "c9b257d0ca857ceb342d4f02d26f16c0ae82c3b8008b797e6a6184f35923534b", func := "loop.example/g01239/laws.FnPlaneReached", spec := "fnPlaneReached", recurses := true, apart := false, narrowed := true }
def FnPlaneReachedUptoSaid : Prop := fnPlaneReachedUptoRow.holds Try.pinned (OpenSpec.upto fnPlaneReachedSpec)

end Rows
end Go.Proofs.Ytkoibhfegojhaaa
