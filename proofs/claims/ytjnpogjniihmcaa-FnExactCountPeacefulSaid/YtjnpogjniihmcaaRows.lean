/-
  No cell of these rows narrows 'for every input' (looked for: loops, veiled, ifaces, maps, wideKeys, modest, calm, conditions, laid).
  DERIVED. THE GIVEN ROWS OF THIS SEAT. 12 by the template 'for every input the law returns true; each argument reads behind the call as it read before'; 0 by the template 'total and deterministic' (their statements: YtjnpogjniihmcaaTotals.lean).
  GIVEN WITH THE SEED: the statements are not yours to turn. If you find one false, say at which input.
  Laid BY PROGRAM, IN A SANDBOX (cutbox-rows.mjs): the forced cells as the released guide's own fill.sh prints them over the translation 8494004edecd61f7… (all of the seat's roots in one cut). By AI agents, Wed Nov 11 2026. No macro, syntax, notation, axiom, sorry.
-/
import Derived.Test.YtjnpogjniihmcaaChecked
import GoSem.Claim
import GoSem.ClaimJoined
import GoSem.ClaimMapViews
import Derived.JoinedTies
import Derived.KernelRfl
namespace Go.Proofs.Ytjnpogjniihmcaa
/- THE CELL 'sum', in the pinned program and in every row, IS THE sha256 OF THE DUMP (.gsa) THAT YtjnpogjniihmcaaProg.lean LOADS. Nothing in Lean hashes anything: it is a label: what it is worth is what the hold of that sum in a sandbox is worth. -/
noncomputable def Try.pinned : Pinned := { name := "ytjnpogjniihmcaa", sum := "8494004edecd61f7d9b22e5062d198faeb8d0562713d6016c5ada53d7b7fb913", checked := Try.checked }
namespace Rows
def none {H : Type} : Left H := { results := [], args := [] }

/-- 'laws.FnExactFirstFar': WHATEVER THE INPUT: true; the input reads as it did. -/
def fnExactFirstFarSpec : ChangeSpec := { name := "fnExactFirstFar", fn := fun _ => fun
  | [d1, d2] => { results := [.lit (.bool true)], args := [d1, d2] }
  | _ => none }
def fnExactFirstFarRow : OpenClaim := { program := "ytjnpogjniihmcaa", sum := "8494004edecd61f7d9b22e5062d198faeb8d0562713d6016c5ada53d7b7fb913", func := "loop.example/g01239/laws.FnExactFirstFar", spec := "fnExactFirstFar", recurses := true, apart := false }
def FnExactFirstFarSaid : Prop := fnExactFirstFarRow.holds Try.pinned (OpenSpec.ofChange fnExactFirstFarSpec)

/-- ITS FALSE NEIGHBOUR: 'it returns false'. Refute it at one input. -/
def fnExactFirstFarWrong : ChangeSpec := { name := "fnExactFirstFar", fn := fun _ => fun
  | [d1, d2] => { results := [.lit (.bool false)], args := [d1, d2] }
  | _ => none }
def FnExactFirstFarWrongFalsely : Prop := fnExactFirstFarRow.holds Try.pinned (OpenSpec.ofChange fnExactFirstFarWrong)

/-- 'laws.FnExactMiddlesOf': WHATEVER THE INPUT: true; the input reads as it did. -/
def fnExactMiddlesOfSpec : ChangeSpec := { name := "fnExactMiddlesOf", fn := fun _ => fun
  | [d1, d2] => { results := [.lit (.bool true)], args := [d1, d2] }
  | _ => none }
def fnExactMiddlesOfRow : OpenClaim := { program := "ytjnpogjniihmcaa", sum := "8494004edecd61f7d9b22e5062d198faeb8d0562713d6016c5ada53d7b7fb913", func := "loop.example/g01239/laws.FnExactMiddlesOf", spec := "fnExactMiddlesOf", recurses := true, apart := false }
def FnExactMiddlesOfSaid : Prop := fnExactMiddlesOfRow.holds Try.pinned (OpenSpec.ofChange fnExactMiddlesOfSpec)

/-- ITS FALSE NEIGHBOUR: 'it returns false'. Refute it at one input. -/
def fnExactMiddlesOfWrong : ChangeSpec := { name := "fnExactMiddlesOf", fn := fun _ => fun
  | [d1, d2] => { results := [.lit (.bool false)], args := [d1, d2] }
  | _ => none }
def FnExactMiddlesOfWrongFalsely : Prop := fnExactMiddlesOfRow.holds Try.pinned (OpenSpec.ofChange fnExactMiddlesOfWrong)

/-- 'laws.FnExactCountPeaceful': WHATEVER THE INPUT: true; the input reads as it did. -/
def fnExactCountPeacefulSpec : ChangeSpec := { name := "fnExactCountPeaceful", fn := fun _ => fun
  | [d1, d2] => { results := [.lit (.bool true)], args := [d1, d2] }
  | _ => none }
def fnExactCountPeacefulRow : OpenClaim := { program := "ytjnpogjniihmcaa", sum := "8494004edecd61f7d9b22e5062d198faeb8d0562713d6016c5ada53d7b7fb913", func := "loop.example/g01239/laws.FnExactCountPeaceful", spec := "fnExactCountPeaceful", recurses := true, apart := false }
def FnExactCountPeacefulSaid : Prop := fnExactCountPeacefulRow.holds Try.pinned (OpenSpec.ofChange fnExactCountPeacefulSpec)

/-- ITS FALSE NEIGHBOUR: 'it returns false'. Refute it at one input. -/
def fnExactCountPeacefulWrong : ChangeSpec := { name := "fnExactCountPeaceful", fn := fun _ => fun
  | [d1, d2] => { results := [.lit (.bool false)], args := [d1, d2] }
  | _ => none }
def FnExactCountPeacefulWrongFalsely : Prop := fnExactCountPeacefulRow.holds Try.pinned (OpenSpec.ofChange fnExactCountPeacefulWrong)

/-- 'laws.FnExactCountPeacefulOf': WHATEVER THE INPUT: true; the input reads as it did. -/
def fnExactCountPeacefulOfSpec : ChangeSpec := { name := "fnExactCountPeacefulOf", fn := fun _ => fun
  | [d1, d2, d3] => { results := [.lit (.bool true)], args := [d1, d2, d3] }
  | _ => none }
def fnExactCountPeacefulOfRow : OpenClaim := { program := "ytjnpogjniihmcaa", sum := "8494004edecd61f7d9b22e5062d198faeb8d0562713d6016c5ada53d7b7fb913", func := "loop.example/g01239/laws.FnExactCountPeacefulOf", spec := "fnExactCountPeacefulOf", recurses := true, apart := false }
def FnExactCountPeacefulOfSaid : Prop := fnExactCountPeacefulOfRow.holds Try.pinned (OpenSpec.ofChange fnExactCountPeacefulOfSpec)

/-- ITS FALSE NEIGHBOUR: 'it returns false'. Refute it at one input. -/
def fnExactCountPeacefulOfWrong : ChangeSpec := { name := "fnExactCountPeacefulOf", fn := fun _ => fun
  | [d1, d2, d3] => { results := [.lit (.bool false)], args := [d1, d2, d3] }
  | _ => none }
def FnExactCountPeacefulOfWrongFalsely : Prop := fnExactCountPeacefulOfRow.holds Try.pinned (OpenSpec.ofChange fnExactCountPeacefulOfWrong)

/-- 'laws.FnExactMostApart': WHATEVER THE INPUT: true; the input reads as it did. -/
def fnExactMostApartSpec : ChangeSpec := { name := "fnExactMostApart", fn := fun _ => fun
  | [d1, d2] => { results := [.lit (.bool true)], args := [d1, d2] }
  | _ => none }
def fnExactMostApartRow : OpenClaim := { program := "ytjnpogjniihmcaa", sum := "8494004edecd61f7d9b22e5062d198faeb8d0562713d6016c5ada53d7b7fb913", func := "loop.example/g01239/laws.FnExactMostApart", spec := "fnExactMostApart", unfollowed := true, recurses := true, apart := false }
def FnExactMostApartSaid : Prop := fnExactMostApartRow.holds Try.pinned (OpenSpec.ofChange fnExactMostApartSpec)

/-- ITS FALSE NEIGHBOUR: 'it returns false'. Refute it at one input. -/
def fnExactMostApartWrong : ChangeSpec := { name := "fnExactMostApart", fn := fun _ => fun
  | [d1, d2] => { results := [.lit (.bool false)], args := [d1, d2] }
  | _ => none }
def FnExactMostApartWrongFalsely : Prop := fnExactMostApartRow.holds Try.pinned (OpenSpec.ofChange fnExactMostApartWrong)

/-- 'laws.FnExactCountPaintings': WHATEVER THE INPUT: true; the input reads as it did. -/
def fnExactCountPaintingsSpec : ChangeSpec := { name := "fnExactCountPaintings", fn := fun _ => fun
  | [d1, d2, d3] => { results := [.lit (.bool true)], args := [d1, d2, d3] }
  | _ => none }
def fnExactCountPaintingsRow : OpenClaim := { program := "ytjnpogjniihmcaa", sum := "8494004edecd61f7d9b22e5062d198faeb8d0562713d6016c5ada53d7b7fb913", func := "loop.example/g01239/laws.FnExactCountPaintings", spec := "fnExactCountPaintings", recurses := true, apart := false }
def FnExactCountPaintingsSaid : Prop := fnExactCountPaintingsRow.holds Try.pinned (OpenSpec.ofChange fnExactCountPaintingsSpec)

/-- ITS FALSE NEIGHBOUR: 'it returns false'. Refute it at one input. -/
def fnExactCountPaintingsWrong : ChangeSpec := { name := "fnExactCountPaintings", fn := fun _ => fun
  | [d1, d2, d3] => { results := [.lit (.bool false)], args := [d1, d2, d3] }
  | _ => none }
def FnExactCountPaintingsWrongFalsely : Prop := fnExactCountPaintingsRow.holds Try.pinned (OpenSpec.ofChange fnExactCountPaintingsWrong)

/-- 'laws.FnExactFewestGuards': WHATEVER THE INPUT: true; the input reads as it did. -/
def fnExactFewestGuardsSpec : ChangeSpec := { name := "fnExactFewestGuards", fn := fun _ => fun
  | [d1, d2] => { results := [.lit (.bool true)], args := [d1, d2] }
  | _ => none }
def fnExactFewestGuardsRow : OpenClaim := { program := "ytjnpogjniihmcaa", sum := "8494004edecd61f7d9b22e5062d198faeb8d0562713d6016c5ada53d7b7fb913", func := "loop.example/g01239/laws.FnExactFewestGuards", spec := "fnExactFewestGuards", recurses := true, apart := false }
def FnExactFewestGuardsSaid : Prop := fnExactFewestGuardsRow.holds Try.pinned (OpenSpec.ofChange fnExactFewestGuardsSpec)

/-- ITS FALSE NEIGHBOUR: 'it returns false'. Refute it at one input. -/
def fnExactFewestGuardsWrong : ChangeSpec := { name := "fnExactFewestGuards", fn := fun _ => fun
  | [d1, d2] => { results := [.lit (.bool false)], args := [d1, d2] }
  | _ => none }
def FnExactFewestGuardsWrongFalsely : Prop := fnExactFewestGuardsRow.holds Try.pinned (OpenSpec.ofChange fnExactFewestGuardsWrong)

/-- 'laws.FnExactCountFewest': WHATEVER THE INPUT: true; the input reads as it did. -/
def fnExactCountFewestSpec : ChangeSpec := { name := "fnExactCountFewest", fn := fun _ => fun
  | [d1, d2] => { results := [.lit (.bool true)], args := [d1, d2] }
  | _ => none }
def fnExactCountFewestRow : OpenClaim := { program := "ytjnpogjniihmcaa", sum := "8494004edecd61f7d9b22e5062d198faeb8d0562713d6016c5ada53d7b7fb913", func := "loop.example/g01239/laws.FnExactCountFewest", spec := "fnExactCountFewest", recurses := true, apart := false }
def FnExactCountFewestSaid : Prop := fnExactCountFewestRow.holds Try.pinned (OpenSpec.ofChange fnExactCountFewestSpec)

/-- ITS FALSE NEIGHBOUR: 'it returns false'. Refute it at one input. -/
def fnExactCountFewestWrong : ChangeSpec := { name := "fnExactCountFewest", fn := fun _ => fun
  | [d1, d2] => { results := [.lit (.bool false)], args := [d1, d2] }
  | _ => none }
def FnExactCountFewestWrongFalsely : Prop := fnExactCountFewestRow.holds Try.pinned (OpenSpec.ofChange fnExactCountFewestWrong)

/-- 'laws.FnExactCountMost': WHATEVER THE INPUT: true; the input reads as it did. -/
def fnExactCountMostSpec : ChangeSpec := { name := "fnExactCountMost", fn := fun _ => fun
  | [d1, d2] => { results := [.lit (.bool true)], args := [d1, d2] }
  | _ => none }
def fnExactCountMostRow : OpenClaim := { program := "ytjnpogjniihmcaa", sum := "8494004edecd61f7d9b22e5062d198faeb8d0562713d6016c5ada53d7b7fb913", func := "loop.example/g01239/laws.FnExactCountMost", spec := "fnExactCountMost", recurses := true, apart := false }
def FnExactCountMostSaid : Prop := fnExactCountMostRow.holds Try.pinned (OpenSpec.ofChange fnExactCountMostSpec)

/-- ITS FALSE NEIGHBOUR: 'it returns false'. Refute it at one input. -/
def fnExactCountMostWrong : ChangeSpec := { name := "fnExactCountMost", fn := fun _ => fun
  | [d1, d2] => { results := [.lit (.bool false)], args := [d1, d2] }
  | _ => none }
def FnExactCountMostWrongFalsely : Prop := fnExactCountMostRow.holds Try.pinned (OpenSpec.ofChange fnExactCountMostWrong)

/-- 'laws.FnExactFewestPeacefulGuards': WHATEVER THE INPUT: true; the input reads as it did. -/
def fnExactFewestPeacefulGuardsSpec : ChangeSpec := { name := "fnExactFewestPeacefulGuards", fn := fun _ => fun
  | [d1, d2] => { results := [.lit (.bool true)], args := [d1, d2] }
  | _ => none }
def fnExactFewestPeacefulGuardsRow : OpenClaim := { program := "ytjnpogjniihmcaa", sum := "8494004edecd61f7d9b22e5062d198faeb8d0562713d6016c5ada53d7b7fb913", func := "loop.example/g01239/laws.FnExactFewestPeacefulGuards", spec := "fnExactFewestPeacefulGuards", recurses := true, apart := false }
def FnExactFewestPeacefulGuardsSaid : Prop := fnExactFewestPeacefulGuardsRow.holds Try.pinned (OpenSpec.ofChange fnExactFewestPeacefulGuardsSpec)

/-- ITS FALSE NEIGHBOUR: 'it returns false'. Refute it at one input. -/
def fnExactFewestPeacefulGuardsWrong : ChangeSpec := { name := "fnExactFewestPeacefulGuards", fn := fun _ => fun
  | [d1, d2] => { results := [.lit (.bool false)], args := [d1, d2] }
  | _ => none }
def FnExactFewestPeacefulGuardsWrongFalsely : Prop := fnExactFewestPeacefulGuardsRow.holds Try.pinned (OpenSpec.ofChange fnExactFewestPeacefulGuardsWrong)

/-- 'laws.FnExactMostPeaceful': WHATEVER THE INPUT: true; the input reads as it did. -/
def fnExactMostPeacefulSpec : ChangeSpec := { name := "fnExactMostPeaceful", fn := fun _ => fun
  | [d1, d2] => { results := [.lit (.bool true)], args := [d1, d2] }
  | _ => none }
def fnExactMostPeacefulRow : OpenClaim := { program := "ytjnpogjniihmcaa", sum := "8494004edecd61f7d9b22e5062d198faeb8d0562713d6016c5ada53d7b7fb913", func := "loop.example/g01239/laws.FnExactMostPeaceful", spec := "fnExactMostPeaceful", recurses := true, apart := false }
def FnExactMostPeacefulSaid : Prop := fnExactMostPeacefulRow.holds Try.pinned (OpenSpec.ofChange fnExactMostPeacefulSpec)

/-- ITS FALSE NEIGHBOUR: 'it returns false'. Refute it at one input. -/
def fnExactMostPeacefulWrong : ChangeSpec := { name := "fnExactMostPeaceful", fn := fun _ => fun
  | [d1, d2] => { results := [.lit (.bool false)], args := [d1, d2] }
  | _ => none }
def FnExactMostPeacefulWrongFalsely : Prop := fnExactMostPeacefulRow.holds Try.pinned (OpenSpec.ofChange fnExactMostPeacefulWrong)

/-- 'laws.FnExactFirstGuards': WHATEVER THE INPUT: true; the input reads as it did. -/
def fnExactFirstGuardsSpec : ChangeSpec := { name := "fnExactFirstGuards", fn := fun _ => fun
  | [d1, d2] => { results := [.lit (.bool true)], args := [d1, d2] }
  | _ => none }
def fnExactFirstGuardsRow : OpenClaim := { program := "ytjnpogjniihmcaa", sum := "8494004edecd61f7d9b22e5062d198faeb8d0562713d6016c5ada53d7b7fb913", func := "loop.example/g01239/laws.FnExactFirstGuards", spec := "fnExactFirstGuards", recurses := true, apart := false }
def FnExactFirstGuardsSaid : Prop := fnExactFirstGuardsRow.holds Try.pinned (OpenSpec.ofChange fnExactFirstGuardsSpec)

/-- ITS FALSE NEIGHBOUR: 'it returns false'. Refute it at one input. -/
def fnExactFirstGuardsWrong : ChangeSpec := { name := "fnExactFirstGuards", fn := fun _ => fun
  | [d1, d2] => { results := [.lit (.bool false)], args := [d1, d2] }
  | _ => none }
def FnExactFirstGuardsWrongFalsely : Prop := fnExactFirstGuardsRow.holds Try.pinned (OpenSpec.ofChange fnExactFirstGuardsWrong)

/- THE SECOND FORM. 'bulk': how many values and letters a reading holds, each counted each time it is reached (what is shared counts as often as it is met; a slice's spare places count too). A statement '..UptoSaid' is the law's where the arguments, and the package variables that the reading takes, are together of bulk at most 1048576: NARROWER than '..Said'. Prove '..Said' where nothing that the law and all that it calls make is longer than what came in: it says more and counts as full. Else prove '..UptoSaid'. A law counts once. -/
mutual
def uptoBulk {H : Type} : DataW H → Nat
  | .lit (.string bytes) => bytes.length + 1
  | .lit _ => 1
  | .nil => 1
  | .ptr d => uptoBulk d + 1
  | .slice elems spare => uptoBulkAll elems + uptoBulkAll spare + 1
  | .agg parts => uptoBulkAll parts + 1
  | .iface _ d => uptoBulk d + 1
  | .map entries => uptoBulkEntries entries + 1
  | .held _ => 1
def uptoBulkAll {H : Type} : List (DataW H) → Nat
  | [] => 0
  | d :: r => uptoBulk d + uptoBulkAll r
def uptoBulkEntries {H : Type} : List (Lit × DataW H) → Nat
  | [] => 0
  | x :: r => uptoBulkEntry x + uptoBulkEntries r
def uptoBulkEntry {H : Type} : Lit × DataW H → Nat
  | (.string bytes, d) => bytes.length + uptoBulk d + 1
  | (_, d) => uptoBulk d + 1
 end
def uptoSmall : (H : Type) → List (DataW H) → Bool := fun _ ds => decide (uptoBulkAll ds ≤ 1048576)
def OpenSpec.upto (s : _root_.Go.ChangeSpec) : _root_.Go.OpenSpec := { _root_.Go.OpenSpec.ofChange s with cond := some uptoSmall }

/-- 'laws.FnExactFirstFar', WHERE WHAT IT READS IS OF BULK AT MOST 1048576: true; the input reads as it did. -/
def fnExactFirstFarUptoRow : OpenClaim := { program := "ytjnpogjniihmcaa", sum := "8494004edecd61f7d9b22e5062d198faeb8d0562713d6016c5ada53d7b7fb913", func := "loop.example/g01239/laws.FnExactFirstFar", spec := "fnExactFirstFar", recurses := true, apart := false, narrowed := true }
def FnExactFirstFarUptoSaid : Prop := fnExactFirstFarUptoRow.holds Try.pinned (OpenSpec.upto fnExactFirstFarSpec)

/-- 'laws.FnExactMiddlesOf', WHERE WHAT IT READS IS OF BULK AT MOST 1048576: true; the input reads as it did. -/
def fnExactMiddlesOfUptoRow : OpenClaim := { program := "ytjnpogjniihmcaa", sum := "8494004edecd61f7d9b22e5062d198faeb8d0562713d6016c5ada53d7b7fb913", func := "loop.example/g01239/laws.FnExactMiddlesOf", spec := "fnExactMiddlesOf", recurses := true, apart := false, narrowed := true }
def FnExactMiddlesOfUptoSaid : Prop := fnExactMiddlesOfUptoRow.holds Try.pinned (OpenSpec.upto fnExactMiddlesOfSpec)

/-- 'laws.FnExactCountPeaceful', WHERE WHAT IT READS IS OF BULK AT MOST 1048576: true; the input reads as it did. -/
def fnExactCountPeacefulUptoRow : OpenClaim := { program := "ytjnpogjniihmcaa", sum := "8494004edecd61f7d9b22e5062d198faeb8d0562713d6016c5ada53d7b7fb913", func := "loop.example/g01239/laws.FnExactCountPeaceful", spec := "fnExactCountPeaceful", recurses := true, apart := false, narrowed := true }
def FnExactCountPeacefulUptoSaid : Prop := fnExactCountPeacefulUptoRow.holds Try.pinned (OpenSpec.upto fnExactCountPeacefulSpec)

/-- 'laws.FnExactCountPeacefulOf', WHERE WHAT IT READS IS OF BULK AT MOST 1048576: true; the input reads as it did. -/
def fnExactCountPeacefulOfUptoRow : OpenClaim := { program := "ytjnpogjniihmcaa", sum := "8494004edecd61f7d9b22e5062d198faeb8d0562713d6016c5ada53d7b7fb913", func := "loop.example/g01239/laws.FnExactCountPeacefulOf", spec := "fnExactCountPeacefulOf", recurses := true, apart := false, narrowed := true }
def FnExactCountPeacefulOfUptoSaid : Prop := fnExactCountPeacefulOfUptoRow.holds Try.pinned (OpenSpec.upto fnExactCountPeacefulOfSpec)

/-- 'laws.FnExactMostApart', WHERE WHAT IT READS IS OF BULK AT MOST 1048576: true; the input reads as it did. -/
def fnExactMostApartUptoRow : OpenClaim := { program := "ytjnpogjniihmcaa", sum := "8494004edecd61f7d9b22e5062d198faeb8d0562713d6016c5ada53d7b7fb913", func := "loop.example/g01239/laws.FnExactMostApart", spec := "fnExactMostApart", unfollowed := true, recurses := true, apart := false, narrowed := true }
def FnExactMostApartUptoSaid : Prop := fnExactMostApartUptoRow.holds Try.pinned (OpenSpec.upto fnExactMostApartSpec)

/-- 'laws.FnExactCountPaintings', WHERE WHAT IT READS IS OF BULK AT MOST 1048576: true; the input reads as it did. -/
def fnExactCountPaintingsUptoRow : OpenClaim := { program := "ytjnpogjniihmcaa", sum := "8494004edecd61f7d9b22e5062d198faeb8d0562713d6016c5ada53d7b7fb913", func := "loop.example/g01239/laws.FnExactCountPaintings", spec := "fnExactCountPaintings", recurses := true, apart := false, narrowed := true }
def FnExactCountPaintingsUptoSaid : Prop := fnExactCountPaintingsUptoRow.holds Try.pinned (OpenSpec.upto fnExactCountPaintingsSpec)

/-- 'laws.FnExactFewestGuards', WHERE WHAT IT READS IS OF BULK AT MOST 1048576: true; the input reads as it did. -/
def fnExactFewestGuardsUptoRow : OpenClaim := { program := "ytjnpogjniihmcaa", sum := "8494004edecd61f7d9b22e5062d198faeb8d0562713d6016c5ada53d7b7fb913", func := "loop.example/g01239/laws.FnExactFewestGuards", spec := "fnExactFewestGuards", recurses := true, apart := false, narrowed := true }
def FnExactFewestGuardsUptoSaid : Prop := fnExactFewestGuardsUptoRow.holds Try.pinned (OpenSpec.upto fnExactFewestGuardsSpec)

/-- 'laws.FnExactCountFewest', WHERE WHAT IT READS IS OF BULK AT MOST 1048576: true; the input reads as it did. -/
def fnExactCountFewestUptoRow : OpenClaim := { program := "ytjnpogjniihmcaa", sum := "8494004edecd61f7d9b22e5062d198faeb8d0562713d6016c5ada53d7b7fb913", func := "loop.example/g01239/laws.FnExactCountFewest", spec := "fnExactCountFewest", recurses := true, apart := false, narrowed := true }
def FnExactCountFewestUptoSaid : Prop := fnExactCountFewestUptoRow.holds Try.pinned (OpenSpec.upto fnExactCountFewestSpec)

/-- 'laws.FnExactCountMost', WHERE WHAT IT READS IS OF BULK AT MOST 1048576: true; the input reads as it did. -/
def fnExactCountMostUptoRow : OpenClaim := { program := "ytjnpogjniihmcaa", sum := "8494004edecd61f7d9b22e5062d198faeb8d0562713d6016c5ada53d7b7fb913", func := "loop.example/g01239/laws.FnExactCountMost", spec := "fnExactCountMost", recurses := true, apart := false, narrowed := true }
def FnExactCountMostUptoSaid : Prop := fnExactCountMostUptoRow.holds Try.pinned (OpenSpec.upto fnExactCountMostSpec)

/-- 'laws.FnExactFewestPeacefulGuards', WHERE WHAT IT READS IS OF BULK AT MOST 1048576: true; the input reads as it did. -/
def fnExactFewestPeacefulGuardsUptoRow : OpenClaim := { program := "ytjnpogjniihmcaa", sum := "8494004edecd61f7d9b22e5062d198faeb8d0562713d6016c5ada53d7b7fb913", func := "loop.example/g01239/laws.FnExactFewestPeacefulGuards", spec := "fnExactFewestPeacefulGuards", recurses := true, apart := false, narrowed := true }
def FnExactFewestPeacefulGuardsUptoSaid : Prop := fnExactFewestPeacefulGuardsUptoRow.holds Try.pinned (OpenSpec.upto fnExactFewestPeacefulGuardsSpec)

/-- 'laws.FnExactMostPeaceful', WHERE WHAT IT READS IS OF BULK AT MOST 1048576: true; the input reads as it did. -/
def fnExactMostPeacefulUptoRow : OpenClaim := { program := "ytjnpogjniihmcaa", sum := "8494004edecd61f7d9b22e5062d198faeb8d0562713d6016c5ada53d7b7fb913", func := "loop.example/g01239/laws.FnExactMostPeaceful", spec := "fnExactMostPeaceful", recurses := true, apart := false, narrowed := true }
def FnExactMostPeacefulUptoSaid : Prop := fnExactMostPeacefulUptoRow.holds Try.pinned (OpenSpec.upto fnExactMostPeacefulSpec)

/-- 'laws.FnExactFirstGuards', WHERE WHAT IT READS IS OF BULK AT MOST 1048576: true; the input reads as it did. -/
def fnExactFirstGuardsUptoRow : OpenClaim := { program := "ytjnpogjniihmcaa", sum := "8494004edecd61f7d9b22e5062d198faeb8d0562713d6016c5ada53d7b7fb913", func := "loop.example/g01239/laws.FnExactFirstGuards", spec := "fnExactFirstGuards", recurses := true, apart := false, narrowed := true }
def FnExactFirstGuardsUptoSaid : Prop := fnExactFirstGuardsUptoRow.holds Try.pinned (OpenSpec.upto fnExactFirstGuardsSpec)

end Rows
end Go.Proofs.Ytjnpogjniihmcaa
