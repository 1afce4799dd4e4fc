/-
  Printed by program: what the functions of the code compute (go_impl_graph_isWalk, go_spec_toWalk, go_impl_tourGraph, go_spec_l1Own, go_slices_Clone_int, go_impl_graph_closes).
-/
import Derived.Test.YtejfaifipdhecaaGenA
set_option linter.unusedVariables false
namespace Go.Lg
open Go.RowKit
noncomputable section
/-! ### impl.tourGraph -/
def go_impl_tourGraph_C (k : Nat) : Ctx := { th := TH, se := SE, sg := [(109, go_impl_graphOf_S k)], mu := [], an := [], dr := [], pre := [], d2 := [], m := 0, fx := [], n := 28, k := k }
def go_impl_tourGraph (k : Nat) (a0 : (Int × (Int × ((List Int) × Unit)))) (a1 : (Int × (Int × Unit))) (a2 : Int) : Option ((Option ((Int × (Int × ((List Int) × Unit))) × ((Int × (Int × Unit)) × ((List Int) × ((List (List Int)) × Unit))))) × (Bool × Unit)) :=
  (go_impl_graphOf k a0 a1).bind fun r1 =>
  if (!(!(!r1.2.1)) || r1.1.isSome) = true then
  if ((!r1.2.1) || (decide (a2 < ((r1.1.getD (((0 : Int), ((0 : Int), ([], ()))), (((0 : Int), ((0 : Int), ())), ([], ([], ()))))).2.2.1.length : Int)))) = true then
    some (none, (false, ()))
  else
    some (r1.1, (true, ()))
  else none
theorem go_impl_tourGraph_t (k : Nat) (a0 : (Int × (Int × ((List Int) × Unit)))) (a1 : (Int × (Int × Unit))) (a2 : Int) : runPure (go_impl_tourGraph_C k) (bodyOf Go.Proofs.Try.f90) Go.Proofs.Try.f90.results.toList true (.pr (.val (.pair I (.pair I (.pair (.sl I) .unit)))) (.pr (.val (.pair I (.pair I .unit))) (.pr (.val I) .un))) (.pr (.val (.pt (.pair (.pair I (.pair I (.pair (.sl I) .unit))) (.pair (.pair I (.pair I .unit)) (.pair (.sl I) (.pair (.sl (.sl I)) .unit)))))) (.pr (.val .bool) .un)) (a0, a1, a2, ()) = go_impl_tourGraph k a0 a1 a2 := by kernel_rfl
def go_impl_tourGraph_S (k : Nat) : Spec := ⟨(.pr (.val (.pair I (.pair I (.pair (.sl I) .unit)))) (.pr (.val (.pair I (.pair I .unit))) (.pr (.val I) .un))), (.pr (.val (.pt (.pair (.pair I (.pair I (.pair (.sl I) .unit))) (.pair (.pair I (.pair I .unit)) (.pair (.sl I) (.pair (.sl (.sl I)) .unit)))))) (.pr (.val .bool) .un)), true, .inl fun x => go_impl_tourGraph k x.1 x.2.1 x.2.2.1⟩
theorem go_impl_tourGraph_F (k : Nat) : Fits Go.Proofs.Try.prog (go_impl_tourGraph_C k) 90 Go.Proofs.Try.f90 (bodyOf Go.Proofs.Try.f90) (.pr (.val (.pair I (.pair I (.pair (.sl I) .unit)))) (.pr (.val (.pair I (.pair I .unit))) (.pr (.val I) .un))) (.pr (.val (.pt (.pair (.pair I (.pair I (.pair (.sl I) .unit))) (.pair (.pair I (.pair I .unit)) (.pair (.sl I) (.pair (.sl (.sl I)) .unit)))))) (.pr (.val .bool) .un)) true :=
  ⟨th0, mixed0, by kernel_rfl, Go.Proofs.Try.func90, rfl, by kernel_rfl, rfl, rfl, rfl, rfl, rfl, rfl⟩
theorem go_impl_tourGraph_M (k : Nat) : Meets Go.Proofs.Try.prog 90 (go_impl_tourGraph_S k) :=
  meets_pure (go_impl_tourGraph_F k) (sigs_all (l := [(109, go_impl_graphOf_S k)]) rfl ⟨go_impl_graphOf_M k, trivial⟩) rfl fun x => go_impl_tourGraph_t k x.1 x.2.1 x.2.2.1

/-! ### slices.Clone[[]int,int] -/
def go_slices_Clone_int_C (k : Nat) : Ctx := { th := TH, se := SE, sg := [], mu := [5], an := [], dr := [], pre := [], d2 := [], m := 0, fx := [], n := 8, k := k }
def go_slices_Clone_int (k : Nat) (a0 : (List Int)) : Option (List Int) :=
  if (List.isEmpty a0) = true then
    both (
    some []) (
    if (decide (([] : List Int).length + a0.length ≤ LIM)) = true then
    some (([] : List Int) ++ a0)
    else none)
  else
    if (decide (([] : List Int).length + a0.length ≤ LIM)) = true then
    some (([] : List Int) ++ a0)
    else none
theorem go_slices_Clone_int_t (k : Nat) (a0 : (List Int)) : runPure (go_slices_Clone_int_C k) (bodyOf Go.Proofs.Try.f98) Go.Proofs.Try.f98.results.toList false (.pr (.val (.sl I)) .un) (.own 3 I) (a0, ()) = go_slices_Clone_int k a0 := by kernel_rfl
def go_slices_Clone_int_S (k : Nat) : Spec := ⟨(.pr (.val (.sl I)) .un), (.own 3 I), false, .inl fun x => go_slices_Clone_int k x.1⟩
theorem go_slices_Clone_int_F (k : Nat) : Fits Go.Proofs.Try.prog (go_slices_Clone_int_C k) 98 Go.Proofs.Try.f98 (bodyOf Go.Proofs.Try.f98) (.pr (.val (.sl I)) .un) (.own 3 I) false :=
  ⟨th0, mixed0, by kernel_rfl, Go.Proofs.Try.func98, rfl, by kernel_rfl, rfl, rfl, rfl, rfl, rfl, rfl⟩
theorem go_slices_Clone_int_M (k : Nat) : Meets Go.Proofs.Try.prog 98 (go_slices_Clone_int_S k) :=
  meets_pure (go_slices_Clone_int_F k) (sigs_all (l := []) rfl trivial) rfl fun x => go_slices_Clone_int_t k x.1

/-! ### (*impl.graph).leaps -/
def go_impl_graph_leaps_C (k : Nat) : Ctx := { th := TH, se := SE, sg := [(140, go_slices_Contains_int_S k)], mu := [], an := [], dr := [], pre := [], d2 := [], m := 0, fx := [], n := 16, k := k }
def go_impl_graph_leaps (k : Nat) (a0 : (Option ((Int × (Int × ((List Int) × Unit))) × ((Int × (Int × Unit)) × ((List Int) × ((List (List Int)) × Unit)))))) (a1 : Int) (a2 : Int) : Option Bool :=
  if a0.isSome = true then
  if (inb a1 (a0.getD (((0 : Int), ((0 : Int), ([], ()))), (((0 : Int), ((0 : Int), ())), ([], ([], ()))))).2.2.2.1.length) = true then
  (go_slices_Contains_int k ((a0.getD (((0 : Int), ((0 : Int), ([], ()))), (((0 : Int), ((0 : Int), ())), ([], ([], ()))))).2.2.2.1.getD a1.toNat []) a2).bind fun r1 =>
  some r1
  else none
  else none
theorem go_impl_graph_leaps_t (k : Nat) (a0 : (Option ((Int × (Int × ((List Int) × Unit))) × ((Int × (Int × Unit)) × ((List Int) × ((List (List Int)) × Unit)))))) (a1 : Int) (a2 : Int) : runPure (go_impl_graph_leaps_C k) (bodyOf Go.Proofs.Try.f154) Go.Proofs.Try.f154.results.toList false (.pr (.val (.pt (.pair (.pair I (.pair I (.pair (.sl I) .unit))) (.pair (.pair I (.pair I .unit)) (.pair (.sl I) (.pair (.sl (.sl I)) .unit)))))) (.pr (.val I) (.pr (.val I) .un))) (.val .bool) (a0, a1, a2, ()) = go_impl_graph_leaps k a0 a1 a2 := by kernel_rfl
def go_impl_graph_leaps_S (k : Nat) : Spec := ⟨(.pr (.val (.pt (.pair (.pair I (.pair I (.pair (.sl I) .unit))) (.pair (.pair I (.pair I .unit)) (.pair (.sl I) (.pair (.sl (.sl I)) .unit)))))) (.pr (.val I) (.pr (.val I) .un))), (.val .bool), false, .inl fun x => go_impl_graph_leaps k x.1 x.2.1 x.2.2.1⟩
theorem go_impl_graph_leaps_F (k : Nat) : Fits Go.Proofs.Try.prog (go_impl_graph_leaps_C k) 154 Go.Proofs.Try.f154 (bodyOf Go.Proofs.Try.f154) (.pr (.val (.pt (.pair (.pair I (.pair I (.pair (.sl I) .unit))) (.pair (.pair I (.pair I .unit)) (.pair (.sl I) (.pair (.sl (.sl I)) .unit)))))) (.pr (.val I) (.pr (.val I) .un))) (.val .bool) false :=
  ⟨th0, mixed0, by kernel_rfl, Go.Proofs.Try.func154, rfl, by kernel_rfl, rfl, rfl, rfl, rfl, rfl, rfl⟩
theorem go_impl_graph_leaps_M (k : Nat) : Meets Go.Proofs.Try.prog 154 (go_impl_graph_leaps_S k) :=
  meets_pure (go_impl_graph_leaps_F k) (sigs_all (l := [(140, go_slices_Contains_int_S k)]) rfl ⟨go_slices_Contains_int_M k, trivial⟩) rfl fun x => go_impl_graph_leaps_t k x.1 x.2.1 x.2.2.1

/-! ### (*impl.graph).isPath -/
def go_impl_graph_isPath_C (k : Nat) : Ctx := { th := TH, se := SE, sg := [(91, go_impl_Board_has_S k), (154, go_impl_graph_leaps_S k)], mu := [], an := [(4, [(0, false), (1, false), (15, false), (16, false), (17, false)])], dr := [], pre := [], d2 := [], m := 0, fx := [], n := 45, k := k }
def go_impl_graph_isPath_L0_E (a0 : (Option ((Int × (Int × ((List Int) × Unit))) × ((Int × (Int × Unit)) × ((List Int) × ((List (List Int)) × Unit)))))) (a1 : (List Int)) (x5 : (Int)) : St :=
  ⟨[(0, .one (.val (.pt (.pair (.pair I (.pair I (.pair (.sl I) .unit))) (.pair (.pair I (.pair I .unit)) (.pair (.sl I) (.pair (.sl (.sl I)) .unit))))) a0), []), (1, .one (.val (.sl I) a1), []), (15, .one (.val (.sl I) a1), []), (16, .one (.val I (a1.length : Int)), []), (17, .one (.val I x5), [])], [], []⟩
def go_impl_graph_isPath_L0_G (k : Nat) (a0 : (Option ((Int × (Int × ((List Int) × Unit))) × ((Int × (Int × Unit)) × ((List Int) × ((List (List Int)) × Unit)))))) (a1 : (List Int)) (rec6 : (Int) → Option Bool) (x5 : (Int)) : Option Bool :=
  if (decide (x5 < (a1.length : Int))) = true then
    if (inb x5 a1.length) = true then
    if a0.isSome = true then
    (go_impl_Board_has k (a0.getD (((0 : Int), ((0 : Int), ([], ()))), (((0 : Int), ((0 : Int), ())), ([], ([], ()))))).1 (a1.getD x5.toNat (0 : Int))).bind fun r7 =>
    if (!((decide ((0 : Int) < x5)) && (!(!r7))) || (inb (IntKind.i64.wrap (x5 - (1 : Int))) a1.length)) = true then
    (if ((decide ((0 : Int) < x5)) && (!(!r7))) = true then go_impl_graph_leaps k a0 (a1.getD (IntKind.i64.wrap (x5 - (1 : Int))).toNat (0 : Int)) (a1.getD x5.toNat (0 : Int)) else some false).bind fun r8 =>
    if ((!r7) || ((decide ((0 : Int) < x5)) && (!r8))) = true then
      some false
    else
      rec6 (IntKind.i64.wrap (x5 + (1 : Int)))
    else none
    else none
    else none
  else
    some true
def go_impl_graph_isPath_L0 (k : Nat) (a0 : (Option ((Int × (Int × ((List Int) × Unit))) × ((Int × (Int × Unit)) × ((List Int) × ((List (List Int)) × Unit)))))) (a1 : (List Int)) : (Int) → Option Bool :=
  iter k fun rec6 x5 => go_impl_graph_isPath_L0_G k a0 a1 rec6 x5
theorem go_impl_graph_isPath_L0_t (k : Nat) (a0 : (Option ((Int × (Int × ((List Int) × Unit))) × ((Int × (Int × Unit)) × ((List Int) × ((List (List Int)) × Unit)))))) (a1 : (List Int)) (x : (Int)) :
    iter k (loopAt (go_impl_graph_isPath_C k) (bodyOf Go.Proofs.Try.f111) [1, 1, 0, 1, 0] [] (finPure (go_impl_graph_isPath_C k) Go.Proofs.Try.f111.results.toList false (.val .bool))) (go_impl_graph_isPath_L0_E a0 a1 x) = go_impl_graph_isPath_L0 k a0 a1 x := by
  refine iter_tie (G := fun rec x => go_impl_graph_isPath_L0_G k a0 a1 rec x) (go_impl_graph_isPath_L0_E a0 a1) (fun rec x => ?_) k x
  have h : loopAt (go_impl_graph_isPath_C k) (bodyOf Go.Proofs.Try.f111) [1, 1, 0, 1, 0] [] (finPure (go_impl_graph_isPath_C k) Go.Proofs.Try.f111.results.toList false (.val .bool)) rec (go_impl_graph_isPath_L0_E a0 a1 x) = go_impl_graph_isPath_L0_G k a0 a1 (fun y => rec (go_impl_graph_isPath_L0_E a0 a1 y)) x := by kernel_rfl
  rw [h]
def go_impl_graph_isPath_T (k : Nat) (a0 : (Option ((Int × (Int × ((List Int) × Unit))) × ((Int × (Int × Unit)) × ((List Int) × ((List (List Int)) × Unit)))))) (a1 : (List Int)) (l_0 : (Int) → Option Bool) : Option Bool :=
  if ((decide ((a1.length : Int) < (1 : Int))) || (decide ((64 : Int) < (a1.length : Int)))) = true then
    some false
  else
    l_0 (0 : Int)
def go_impl_graph_isPath (k : Nat) (a0 : (Option ((Int × (Int × ((List Int) × Unit))) × ((Int × (Int × Unit)) × ((List Int) × ((List (List Int)) × Unit)))))) (a1 : (List Int)) : Option Bool :=
  go_impl_graph_isPath_T k a0 a1 (fun y => go_impl_graph_isPath_L0 k a0 a1 y)
theorem go_impl_graph_isPath_t (k : Nat) (a0 : (Option ((Int × (Int × ((List Int) × Unit))) × ((Int × (Int × Unit)) × ((List Int) × ((List (List Int)) × Unit)))))) (a1 : (List Int)) : runPure (go_impl_graph_isPath_C k) (bodyOf Go.Proofs.Try.f111) Go.Proofs.Try.f111.results.toList false (.pr (.val (.pt (.pair (.pair I (.pair I (.pair (.sl I) .unit))) (.pair (.pair I (.pair I .unit)) (.pair (.sl I) (.pair (.sl (.sl I)) .unit)))))) (.pr (.val (.sl I)) .un)) (.val .bool) (a0, a1, ()) = go_impl_graph_isPath k a0 a1 := by
  have h : runPure (go_impl_graph_isPath_C k) (bodyOf Go.Proofs.Try.f111) Go.Proofs.Try.f111.results.toList false (.pr (.val (.pt (.pair (.pair I (.pair I (.pair (.sl I) .unit))) (.pair (.pair I (.pair I .unit)) (.pair (.sl I) (.pair (.sl (.sl I)) .unit)))))) (.pr (.val (.sl I)) .un)) (.val .bool) (a0, a1, ()) = go_impl_graph_isPath_T k a0 a1 (fun y => iter k (loopAt (go_impl_graph_isPath_C k) (bodyOf Go.Proofs.Try.f111) [1, 1, 0, 1, 0] [] (finPure (go_impl_graph_isPath_C k) Go.Proofs.Try.f111.results.toList false (.val .bool))) (go_impl_graph_isPath_L0_E a0 a1 y)) := by kernel_rfl
  have h0 : (fun y => iter k (loopAt (go_impl_graph_isPath_C k) (bodyOf Go.Proofs.Try.f111) [1, 1, 0, 1, 0] [] (finPure (go_impl_graph_isPath_C k) Go.Proofs.Try.f111.results.toList false (.val .bool))) (go_impl_graph_isPath_L0_E a0 a1 y)) = (fun y => go_impl_graph_isPath_L0 k a0 a1 y) := by
    funext y
    exact go_impl_graph_isPath_L0_t k a0 a1 y
  rw [h, h0]
  rfl
def go_impl_graph_isPath_S (k : Nat) : Spec := ⟨(.pr (.val (.pt (.pair (.pair I (.pair I (.pair (.sl I) .unit))) (.pair (.pair I (.pair I .unit)) (.pair (.sl I) (.pair (.sl (.sl I)) .unit)))))) (.pr (.val (.sl I)) .un)), (.val .bool), false, .inl fun x => go_impl_graph_isPath k x.1 x.2.1⟩
theorem go_impl_graph_isPath_F (k : Nat) : Fits Go.Proofs.Try.prog (go_impl_graph_isPath_C k) 111 Go.Proofs.Try.f111 (bodyOf Go.Proofs.Try.f111) (.pr (.val (.pt (.pair (.pair I (.pair I (.pair (.sl I) .unit))) (.pair (.pair I (.pair I .unit)) (.pair (.sl I) (.pair (.sl (.sl I)) .unit)))))) (.pr (.val (.sl I)) .un)) (.val .bool) false :=
  ⟨th0, mixed0, by kernel_rfl, Go.Proofs.Try.func111, rfl, by kernel_rfl, rfl, rfl, rfl, rfl, rfl, rfl⟩
theorem go_impl_graph_isPath_M (k : Nat) : Meets Go.Proofs.Try.prog 111 (go_impl_graph_isPath_S k) :=
  meets_pure (go_impl_graph_isPath_F k) (sigs_all (l := [(91, go_impl_Board_has_S k), (154, go_impl_graph_leaps_S k)]) rfl ⟨go_impl_Board_has_M k, ⟨go_impl_graph_leaps_M k, trivial⟩⟩) rfl fun x => go_impl_graph_isPath_t k x.1 x.2.1

/-! ### (*impl.graph).isWalk -/
def go_impl_graph_isWalk_C (k : Nat) : Ctx := { th := TH, se := SE, sg := [(111, go_impl_graph_isPath_S k), (140, go_slices_Contains_int_S k)], mu := [], an := [(4, [(1, false), (11, false), (12, false), (13, false)])], dr := [], pre := [], d2 := [], m := 0, fx := [], n := 24, k := k }
def go_impl_graph_isWalk_L0_E (a0 : (Option ((Int × (Int × ((List Int) × Unit))) × ((Int × (Int × Unit)) × ((List Int) × ((List (List Int)) × Unit)))))) (a1 : (List Int)) (x5 : (Int)) : St :=
  ⟨[(1, .one (.val (.sl I) a1), []), (11, .one (.val (.sl I) a1), []), (12, .one (.val I (a1.length : Int)), []), (13, .one (.val I x5), [])], [], []⟩
def go_impl_graph_isWalk_L0_G (k : Nat) (a0 : (Option ((Int × (Int × ((List Int) × Unit))) × ((Int × (Int × Unit)) × ((List Int) × ((List (List Int)) × Unit)))))) (a1 : (List Int)) (rec6 : (Int) → Option Bool) (x5 : (Int)) : Option Bool :=
  if (decide (x5 < (a1.length : Int))) = true then
    if (inb x5 a1.length) = true then
    if (decide (0 ≤ (0 : Int) ∧ (0 : Int) ≤ x5 ∧ x5 ≤ (a1.length : Int))) = true then
    (go_slices_Contains_int k ((a1.take x5.toNat).drop (0 : Int).toNat) (a1.getD x5.toNat (0 : Int))).bind fun r7 =>
    if r7 = true then
      some false
    else
      rec6 (IntKind.i64.wrap (x5 + (1 : Int)))
    else none
    else none
  else
    some true
def go_impl_graph_isWalk_L0 (k : Nat) (a0 : (Option ((Int × (Int × ((List Int) × Unit))) × ((Int × (Int × Unit)) × ((List Int) × ((List (List Int)) × Unit)))))) (a1 : (List Int)) : (Int) → Option Bool :=
  iter k fun rec6 x5 => go_impl_graph_isWalk_L0_G k a0 a1 rec6 x5
theorem go_impl_graph_isWalk_L0_t (k : Nat) (a0 : (Option ((Int × (Int × ((List Int) × Unit))) × ((Int × (Int × Unit)) × ((List Int) × ((List (List Int)) × Unit)))))) (a1 : (List Int)) (x : (Int)) :
    iter k (loopAt (go_impl_graph_isWalk_C k) (bodyOf Go.Proofs.Try.f118) [1, 1, 0, 1, 0] [] (finPure (go_impl_graph_isWalk_C k) Go.Proofs.Try.f118.results.toList false (.val .bool))) (go_impl_graph_isWalk_L0_E a0 a1 x) = go_impl_graph_isWalk_L0 k a0 a1 x := by
  refine iter_tie (G := fun rec x => go_impl_graph_isWalk_L0_G k a0 a1 rec x) (go_impl_graph_isWalk_L0_E a0 a1) (fun rec x => ?_) k x
  have h : loopAt (go_impl_graph_isWalk_C k) (bodyOf Go.Proofs.Try.f118) [1, 1, 0, 1, 0] [] (finPure (go_impl_graph_isWalk_C k) Go.Proofs.Try.f118.results.toList false (.val .bool)) rec (go_impl_graph_isWalk_L0_E a0 a1 x) = go_impl_graph_isWalk_L0_G k a0 a1 (fun y => rec (go_impl_graph_isWalk_L0_E a0 a1 y)) x := by kernel_rfl
  rw [h]
def go_impl_graph_isWalk_T (k : Nat) (a0 : (Option ((Int × (Int × ((List Int) × Unit))) × ((Int × (Int × Unit)) × ((List Int) × ((List (List Int)) × Unit)))))) (a1 : (List Int)) (l_0 : (Int) → Option Bool) : Option Bool :=
  (go_impl_graph_isPath k a0 a1).bind fun r1 =>
  if (!r1) = true then
    some false
  else
    l_0 (0 : Int)
def go_impl_graph_isWalk (k : Nat) (a0 : (Option ((Int × (Int × ((List Int) × Unit))) × ((Int × (Int × Unit)) × ((List Int) × ((List (List Int)) × Unit)))))) (a1 : (List Int)) : Option Bool :=
  go_impl_graph_isWalk_T k a0 a1 (fun y => go_impl_graph_isWalk_L0 k a0 a1 y)
theorem go_impl_graph_isWalk_t (k : Nat) (a0 : (Option ((Int × (Int × ((List Int) × Unit))) × ((Int × (Int × Unit)) × ((List Int) × ((List (List Int)) × Unit)))))) (a1 : (List Int)) : runPure (go_impl_graph_isWalk_C k) (bodyOf Go.Proofs.Try.f118) Go.Proofs.Try.f118.results.toList false (.pr (.val (.pt (.pair (.pair I (.pair I (.pair (.sl I) .unit))) (.pair (.pair I (.pair I .unit)) (.pair (.sl I) (.pair (.sl (.sl I)) .unit)))))) (.pr (.val (.sl I)) .un)) (.val .bool) (a0, a1, ()) = go_impl_graph_isWalk k a0 a1 := by
  have h : runPure (go_impl_graph_isWalk_C k) (bodyOf Go.Proofs.Try.f118) Go.Proofs.Try.f118.results.toList false (.pr (.val (.pt (.pair (.pair I (.pair I (.pair (.sl I) .unit))) (.pair (.pair I (.pair I .unit)) (.pair (.sl I) (.pair (.sl (.sl I)) .unit)))))) (.pr (.val (.sl I)) .un)) (.val .bool) (a0, a1, ()) = go_impl_graph_isWalk_T k a0 a1 (fun y => iter k (loopAt (go_impl_graph_isWalk_C k) (bodyOf Go.Proofs.Try.f118) [1, 1, 0, 1, 0] [] (finPure (go_impl_graph_isWalk_C k) Go.Proofs.Try.f118.results.toList false (.val .bool))) (go_impl_graph_isWalk_L0_E a0 a1 y)) := by kernel_rfl
  have h0 : (fun y => iter k (loopAt (go_impl_graph_isWalk_C k) (bodyOf Go.Proofs.Try.f118) [1, 1, 0, 1, 0] [] (finPure (go_impl_graph_isWalk_C k) Go.Proofs.Try.f118.results.toList false (.val .bool))) (go_impl_graph_isWalk_L0_E a0 a1 y)) = (fun y => go_impl_graph_isWalk_L0 k a0 a1 y) := by
    funext y
    exact go_impl_graph_isWalk_L0_t k a0 a1 y
  rw [h, h0]
  rfl
def go_impl_graph_isWalk_S (k : Nat) : Spec := ⟨(.pr (.val (.pt (.pair (.pair I (.pair I (.pair (.sl I) .unit))) (.pair (.pair I (.pair I .unit)) (.pair (.sl I) (.pair (.sl (.sl I)) .unit)))))) (.pr (.val (.sl I)) .un)), (.val .bool), false, .inl fun x => go_impl_graph_isWalk k x.1 x.2.1⟩
theorem go_impl_graph_isWalk_F (k : Nat) : Fits Go.Proofs.Try.prog (go_impl_graph_isWalk_C k) 118 Go.Proofs.Try.f118 (bodyOf Go.Proofs.Try.f118) (.pr (.val (.pt (.pair (.pair I (.pair I (.pair (.sl I) .unit))) (.pair (.pair I (.pair I .unit)) (.pair (.sl I) (.pair (.sl (.sl I)) .unit)))))) (.pr (.val (.sl I)) .un)) (.val .bool) false :=
  ⟨th0, mixed0, by kernel_rfl, Go.Proofs.Try.func118, rfl, by kernel_rfl, rfl, rfl, rfl, rfl, rfl, rfl⟩
theorem go_impl_graph_isWalk_M (k : Nat) : Meets Go.Proofs.Try.prog 118 (go_impl_graph_isWalk_S k) :=
  meets_pure (go_impl_graph_isWalk_F k) (sigs_all (l := [(111, go_impl_graph_isPath_S k), (140, go_slices_Contains_int_S k)]) rfl ⟨go_impl_graph_isPath_M k, ⟨go_slices_Contains_int_M k, trivial⟩⟩) rfl fun x => go_impl_graph_isWalk_t k x.1 x.2.1

/-! ### (*impl.graph).closes -/
def go_impl_graph_closes_C (k : Nat) : Ctx := { th := TH, se := SE, sg := [(154, go_impl_graph_leaps_S k)], mu := [], an := [], dr := [(1, 14)], pre := [], d2 := [], m := 0, fx := [], n := 21, k := k }
def go_impl_graph_closes (k : Nat) (a0 : (Option ((Int × (Int × ((List Int) × Unit))) × ((Int × (Int × Unit)) × ((List Int) × ((List (List Int)) × Unit)))))) (a1 : (List Int)) : Option Bool :=
  if (!(decide ((3 : Int) ≤ (a1.length : Int))) || (inb (IntKind.i64.wrap ((a1.length : Int) - (1 : Int))) a1.length)) = true then
  if (!(decide ((3 : Int) ≤ (a1.length : Int))) || (inb (0 : Int) a1.length)) = true then
  (if (decide ((3 : Int) ≤ (a1.length : Int))) = true then go_impl_graph_leaps k a0 (a1.getD (IntKind.i64.wrap ((a1.length : Int) - (1 : Int))).toNat (0 : Int)) (a1.getD (0 : Int).toNat (0 : Int)) else some false).bind fun r1 =>
  some ((decide ((3 : Int) ≤ (a1.length : Int))) && r1)
  else none
  else none
theorem go_impl_graph_closes_t (k : Nat) (a0 : (Option ((Int × (Int × ((List Int) × Unit))) × ((Int × (Int × Unit)) × ((List Int) × ((List (List Int)) × Unit)))))) (a1 : (List Int)) : runPure (go_impl_graph_closes_C k) (bodyOf Go.Proofs.Try.f121) Go.Proofs.Try.f121.results.toList false (.pr (.val (.pt (.pair (.pair I (.pair I (.pair (.sl I) .unit))) (.pair (.pair I (.pair I .unit)) (.pair (.sl I) (.pair (.sl (.sl I)) .unit)))))) (.pr (.val (.sl I)) .un)) (.val .bool) (a0, a1, ()) = go_impl_graph_closes k a0 a1 := by kernel_rfl
def go_impl_graph_closes_S (k : Nat) : Spec := ⟨(.pr (.val (.pt (.pair (.pair I (.pair I (.pair (.sl I) .unit))) (.pair (.pair I (.pair I .unit)) (.pair (.sl I) (.pair (.sl (.sl I)) .unit)))))) (.pr (.val (.sl I)) .un)), (.val .bool), false, .inl fun x => go_impl_graph_closes k x.1 x.2.1⟩
theorem go_impl_graph_closes_F (k : Nat) : Fits Go.Proofs.Try.prog (go_impl_graph_closes_C k) 121 Go.Proofs.Try.f121 (bodyOf Go.Proofs.Try.f121) (.pr (.val (.pt (.pair (.pair I (.pair I (.pair (.sl I) .unit))) (.pair (.pair I (.pair I .unit)) (.pair (.sl I) (.pair (.sl (.sl I)) .unit)))))) (.pr (.val (.sl I)) .un)) (.val .bool) false :=
  ⟨th0, mixed0, by kernel_rfl, Go.Proofs.Try.func121, rfl, by kernel_rfl, rfl, rfl, rfl, rfl, rfl, rfl⟩
theorem go_impl_graph_closes_M (k : Nat) : Meets Go.Proofs.Try.prog 121 (go_impl_graph_closes_S k) :=
  meets_pure (go_impl_graph_closes_F k) (sigs_all (l := [(154, go_impl_graph_leaps_S k)]) rfl ⟨go_impl_graph_leaps_M k, trivial⟩) rfl fun x => go_impl_graph_closes_t k x.1 x.2.1

/-! ### spec.l1Own -/
def go_spec_l1Own_C (k : Nat) : Ctx := { th := TH, se := SE, sg := [], mu := [3], an := [], dr := [], pre := [], d2 := [], m := 0, fx := [], n := 6, k := k }
def go_spec_l1Own (k : Nat) (a0 : (List Int)) : Option (List Int) :=
  if (decide (([] : List Int).length + a0.length ≤ LIM)) = true then
  some (([] : List Int) ++ a0)
  else none
theorem go_spec_l1Own_t (k : Nat) (a0 : (List Int)) : runPure (go_spec_l1Own_C k) (bodyOf Go.Proofs.Try.f124) Go.Proofs.Try.f124.results.toList false (.pr (.val (.sl I)) .un) (.own 3 I) (a0, ()) = go_spec_l1Own k a0 := by kernel_rfl
def go_spec_l1Own_S (k : Nat) : Spec := ⟨(.pr (.val (.sl I)) .un), (.own 3 I), false, .inl fun x => go_spec_l1Own k x.1⟩
theorem go_spec_l1Own_F (k : Nat) : Fits Go.Proofs.Try.prog (go_spec_l1Own_C k) 124 Go.Proofs.Try.f124 (bodyOf Go.Proofs.Try.f124) (.pr (.val (.sl I)) .un) (.own 3 I) false :=
  ⟨th0, mixed0, by kernel_rfl, Go.Proofs.Try.func124, rfl, by kernel_rfl, rfl, rfl, rfl, rfl, rfl, rfl⟩
theorem go_spec_l1Own_M (k : Nat) : Meets Go.Proofs.Try.prog 124 (go_spec_l1Own_S k) :=
  meets_pure (go_spec_l1Own_F k) (sigs_all (l := []) rfl trivial) rfl fun x => go_spec_l1Own_t k x.1

/-! ### spec.boPath -/
def go_spec_boPath_C (k : Nat) : Ctx := { th := TH, se := SE, sg := [(103, go_spec_l1In_S k), (87, go_spec_boHas_S k), (159, go_spec_boIs_S k)], mu := [], an := [(4, [(2, false), (3, false), (4, false), (13, false), (14, false), (15, false)])], dr := [(6, 16)], pre := [], d2 := [], m := 0, fx := [], n := 41, k := k }
def go_spec_boPath_L0_E (a0 : (Int × (Int × ((List Int) × Unit)))) (a1 : (Int × (Int × Unit))) (a2 : (List Int)) (x6 : (Int)) : St :=
  ⟨[(2, .one (.val (.sl I) a2), []), (3, .one (.val (.pt (.pair I (.pair I (.pair (.sl I) .unit)))) (some a0)), []), (4, .one (.val (.pt (.pair I (.pair I .unit))) (some a1)), []), (13, .one (.val (.sl I) a2), []), (14, .one (.val I (a2.length : Int)), []), (15, .one (.val I x6), [])], [], []⟩
def go_spec_boPath_L0_G (k : Nat) (a0 : (Int × (Int × ((List Int) × Unit)))) (a1 : (Int × (Int × Unit))) (a2 : (List Int)) (rec7 : (Int) → Option Bool) (x6 : (Int)) : Option Bool :=
  if (decide (x6 < (a2.length : Int))) = true then
    if (inb x6 a2.length) = true then
    (go_spec_boHas k a0 (a2.getD x6.toNat (0 : Int))).bind fun r8 =>
    if (!((decide ((0 : Int) < x6)) && (!(!r8))) || (inb (IntKind.i64.wrap (x6 - (1 : Int))) a2.length)) = true then
    (if ((decide ((0 : Int) < x6)) && (!(!r8))) = true then go_spec_boIs k a0 a1 (a2.getD (IntKind.i64.wrap (x6 - (1 : Int))).toNat (0 : Int)) (a2.getD x6.toNat (0 : Int)) else some false).bind fun r9 =>
    if ((!r8) || ((decide ((0 : Int) < x6)) && (!r9))) = true then
      some false
    else
      rec7 (IntKind.i64.wrap (x6 + (1 : Int)))
    else none
    else none
  else
    some true
def go_spec_boPath_L0 (k : Nat) (a0 : (Int × (Int × ((List Int) × Unit)))) (a1 : (Int × (Int × Unit))) (a2 : (List Int)) : (Int) → Option Bool :=
  iter k fun rec7 x6 => go_spec_boPath_L0_G k a0 a1 a2 rec7 x6
theorem go_spec_boPath_L0_t (k : Nat) (a0 : (Int × (Int × ((List Int) × Unit)))) (a1 : (Int × (Int × Unit))) (a2 : (List Int)) (x : (Int)) :
    iter k (loopAt (go_spec_boPath_C k) (bodyOf Go.Proofs.Try.f138) [1, 1, 0, 1, 0] [] (finPure (go_spec_boPath_C k) Go.Proofs.Try.f138.results.toList false (.val .bool))) (go_spec_boPath_L0_E a0 a1 a2 x) = go_spec_boPath_L0 k a0 a1 a2 x := by
  refine iter_tie (G := fun rec x => go_spec_boPath_L0_G k a0 a1 a2 rec x) (go_spec_boPath_L0_E a0 a1 a2) (fun rec x => ?_) k x
  have h : loopAt (go_spec_boPath_C k) (bodyOf Go.Proofs.Try.f138) [1, 1, 0, 1, 0] [] (finPure (go_spec_boPath_C k) Go.Proofs.Try.f138.results.toList false (.val .bool)) rec (go_spec_boPath_L0_E a0 a1 a2 x) = go_spec_boPath_L0_G k a0 a1 a2 (fun y => rec (go_spec_boPath_L0_E a0 a1 a2 y)) x := by kernel_rfl
  rw [h]
def go_spec_boPath_T (k : Nat) (a0 : (Int × (Int × ((List Int) × Unit)))) (a1 : (Int × (Int × Unit))) (a2 : (List Int)) (l_0 : (Int) → Option Bool) : Option Bool :=
  (go_spec_l1In k (a2.length : Int) (1 : Int) (64 : Int)).bind fun r1 =>
  if (!r1) = true then
    some false
  else
    l_0 (0 : Int)
def go_spec_boPath (k : Nat) (a0 : (Int × (Int × ((List Int) × Unit)))) (a1 : (Int × (Int × Unit))) (a2 : (List Int)) : Option Bool :=
  go_spec_boPath_T k a0 a1 a2 (fun y => go_spec_boPath_L0 k a0 a1 a2 y)
theorem go_spec_boPath_t (k : Nat) (a0 : (Int × (Int × ((List Int) × Unit)))) (a1 : (Int × (Int × Unit))) (a2 : (List Int)) : runPure (go_spec_boPath_C k) (bodyOf Go.Proofs.Try.f138) Go.Proofs.Try.f138.results.toList false (.pr (.val (.pair I (.pair I (.pair (.sl I) .unit)))) (.pr (.val (.pair I (.pair I .unit))) (.pr (.val (.sl I)) .un))) (.val .bool) (a0, a1, a2, ()) = go_spec_boPath k a0 a1 a2 := by
  have h : runPure (go_spec_boPath_C k) (bodyOf Go.Proofs.Try.f138) Go.Proofs.Try.f138.results.toList false (.pr (.val (.pair I (.pair I (.pair (.sl I) .unit)))) (.pr (.val (.pair I (.pair I .unit))) (.pr (.val (.sl I)) .un))) (.val .bool) (a0, a1, a2, ()) = go_spec_boPath_T k a0 a1 a2 (fun y => iter k (loopAt (go_spec_boPath_C k) (bodyOf Go.Proofs.Try.f138) [1, 1, 0, 1, 0] [] (finPure (go_spec_boPath_C k) Go.Proofs.Try.f138.results.toList false (.val .bool))) (go_spec_boPath_L0_E a0 a1 a2 y)) := by kernel_rfl
  have h0 : (fun y => iter k (loopAt (go_spec_boPath_C k) (bodyOf Go.Proofs.Try.f138) [1, 1, 0, 1, 0] [] (finPure (go_spec_boPath_C k) Go.Proofs.Try.f138.results.toList false (.val .bool))) (go_spec_boPath_L0_E a0 a1 a2 y)) = (fun y => go_spec_boPath_L0 k a0 a1 a2 y) := by
    funext y
    exact go_spec_boPath_L0_t k a0 a1 a2 y
  rw [h, h0]
  rfl
def go_spec_boPath_S (k : Nat) : Spec := ⟨(.pr (.val (.pair I (.pair I (.pair (.sl I) .unit)))) (.pr (.val (.pair I (.pair I .unit))) (.pr (.val (.sl I)) .un))), (.val .bool), false, .inl fun x => go_spec_boPath k x.1 x.2.1 x.2.2.1⟩
theorem go_spec_boPath_F (k : Nat) : Fits Go.Proofs.Try.prog (go_spec_boPath_C k) 138 Go.Proofs.Try.f138 (bodyOf Go.Proofs.Try.f138) (.pr (.val (.pair I (.pair I (.pair (.sl I) .unit)))) (.pr (.val (.pair I (.pair I .unit))) (.pr (.val (.sl I)) .un))) (.val .bool) false :=
  ⟨th0, mixed0, by kernel_rfl, Go.Proofs.Try.func138, rfl, by kernel_rfl, rfl, rfl, rfl, rfl, rfl, rfl⟩
theorem go_spec_boPath_M (k : Nat) : Meets Go.Proofs.Try.prog 138 (go_spec_boPath_S k) :=
  meets_pure (go_spec_boPath_F k) (sigs_all (l := [(103, go_spec_l1In_S k), (87, go_spec_boHas_S k), (159, go_spec_boIs_S k)]) rfl ⟨go_spec_l1In_M k, ⟨go_spec_boHas_M k, ⟨go_spec_boIs_M k, trivial⟩⟩⟩) rfl fun x => go_spec_boPath_t k x.1 x.2.1 x.2.2.1

/-! ### spec.toWalk -/
def go_spec_toWalk_C (k : Nat) : Ctx := { th := TH, se := SE, sg := [(138, go_spec_boPath_S k), (127, go_spec_l1Has_S k)], mu := [], an := [(4, [(2, false), (14, false), (15, false), (16, false)])], dr := [], pre := [], d2 := [], m := 0, fx := [], n := 27, k := k }
def go_spec_toWalk_L0_E (a0 : (Int × (Int × ((List Int) × Unit)))) (a1 : (Int × (Int × Unit))) (a2 : (List Int)) (x5 : (Int)) : St :=
  ⟨[(2, .one (.val (.sl I) a2), []), (14, .one (.val (.sl I) a2), []), (15, .one (.val I (a2.length : Int)), []), (16, .one (.val I x5), [])], [], []⟩
def go_spec_toWalk_L0_G (k : Nat) (a0 : (Int × (Int × ((List Int) × Unit)))) (a1 : (Int × (Int × Unit))) (a2 : (List Int)) (rec6 : (Int) → Option Bool) (x5 : (Int)) : Option Bool :=
  if (decide (x5 < (a2.length : Int))) = true then
    if (inb x5 a2.length) = true then
    if (decide (0 ≤ (0 : Int) ∧ (0 : Int) ≤ x5 ∧ x5 ≤ (a2.length : Int))) = true then
    (go_spec_l1Has k ((a2.take x5.toNat).drop (0 : Int).toNat) (a2.getD x5.toNat (0 : Int))).bind fun r7 =>
    if r7 = true then
      some false
    else
      rec6 (IntKind.i64.wrap (x5 + (1 : Int)))
    else none
    else none
  else
    some true
def go_spec_toWalk_L0 (k : Nat) (a0 : (Int × (Int × ((List Int) × Unit)))) (a1 : (Int × (Int × Unit))) (a2 : (List Int)) : (Int) → Option Bool :=
  iter k fun rec6 x5 => go_spec_toWalk_L0_G k a0 a1 a2 rec6 x5
theorem go_spec_toWalk_L0_t (k : Nat) (a0 : (Int × (Int × ((List Int) × Unit)))) (a1 : (Int × (Int × Unit))) (a2 : (List Int)) (x : (Int)) :
    iter k (loopAt (go_spec_toWalk_C k) (bodyOf Go.Proofs.Try.f129) [1, 1, 0, 1, 0] [] (finPure (go_spec_toWalk_C k) Go.Proofs.Try.f129.results.toList false (.val .bool))) (go_spec_toWalk_L0_E a0 a1 a2 x) = go_spec_toWalk_L0 k a0 a1 a2 x := by
  refine iter_tie (G := fun rec x => go_spec_toWalk_L0_G k a0 a1 a2 rec x) (go_spec_toWalk_L0_E a0 a1 a2) (fun rec x => ?_) k x
  have h : loopAt (go_spec_toWalk_C k) (bodyOf Go.Proofs.Try.f129) [1, 1, 0, 1, 0] [] (finPure (go_spec_toWalk_C k) Go.Proofs.Try.f129.results.toList false (.val .bool)) rec (go_spec_toWalk_L0_E a0 a1 a2 x) = go_spec_toWalk_L0_G k a0 a1 a2 (fun y => rec (go_spec_toWalk_L0_E a0 a1 a2 y)) x := by kernel_rfl
  rw [h]
def go_spec_toWalk_T (k : Nat) (a0 : (Int × (Int × ((List Int) × Unit)))) (a1 : (Int × (Int × Unit))) (a2 : (List Int)) (l_0 : (Int) → Option Bool) : Option Bool :=
  (go_spec_boPath k a0 a1 a2).bind fun r1 =>
  if (!r1) = true then
    some false
  else
    l_0 (0 : Int)
def go_spec_toWalk (k : Nat) (a0 : (Int × (Int × ((List Int) × Unit)))) (a1 : (Int × (Int × Unit))) (a2 : (List Int)) : Option Bool :=
  go_spec_toWalk_T k a0 a1 a2 (fun y => go_spec_toWalk_L0 k a0 a1 a2 y)
theorem go_spec_toWalk_t (k : Nat) (a0 : (Int × (Int × ((List Int) × Unit)))) (a1 : (Int × (Int × Unit))) (a2 : (List Int)) : runPure (go_spec_toWalk_C k) (bodyOf Go.Proofs.Try.f129) Go.Proofs.Try.f129.results.toList false (.pr (.val (.pair I (.pair I (.pair (.sl I) .unit)))) (.pr (.val (.pair I (.pair I .unit))) (.pr (.val (.sl I)) .un))) (.val .bool) (a0, a1, a2, ()) = go_spec_toWalk k a0 a1 a2 := by
  have h : runPure (go_spec_toWalk_C k) (bodyOf Go.Proofs.Try.f129) Go.Proofs.Try.f129.results.toList false (.pr (.val (.pair I (.pair I (.pair (.sl I) .unit)))) (.pr (.val (.pair I (.pair I .unit))) (.pr (.val (.sl I)) .un))) (.val .bool) (a0, a1, a2, ()) = go_spec_toWalk_T k a0 a1 a2 (fun y => iter k (loopAt (go_spec_toWalk_C k) (bodyOf Go.Proofs.Try.f129) [1, 1, 0, 1, 0] [] (finPure (go_spec_toWalk_C k) Go.Proofs.Try.f129.results.toList false (.val .bool))) (go_spec_toWalk_L0_E a0 a1 a2 y)) := by kernel_rfl
  have h0 : (fun y => iter k (loopAt (go_spec_toWalk_C k) (bodyOf Go.Proofs.Try.f129) [1, 1, 0, 1, 0] [] (finPure (go_spec_toWalk_C k) Go.Proofs.Try.f129.results.toList false (.val .bool))) (go_spec_toWalk_L0_E a0 a1 a2 y)) = (fun y => go_spec_toWalk_L0 k a0 a1 a2 y) := by
    funext y
    exact go_spec_toWalk_L0_t k a0 a1 a2 y
  rw [h, h0]
  rfl
def go_spec_toWalk_S (k : Nat) : Spec := ⟨(.pr (.val (.pair I (.pair I (.pair (.sl I) .unit)))) (.pr (.val (.pair I (.pair I .unit))) (.pr (.val (.sl I)) .un))), (.val .bool), false, .inl fun x => go_spec_toWalk k x.1 x.2.1 x.2.2.1⟩
theorem go_spec_toWalk_F (k : Nat) : Fits Go.Proofs.Try.prog (go_spec_toWalk_C k) 129 Go.Proofs.Try.f129 (bodyOf Go.Proofs.Try.f129) (.pr (.val (.pair I (.pair I (.pair (.sl I) .unit)))) (.pr (.val (.pair I (.pair I .unit))) (.pr (.val (.sl I)) .un))) (.val .bool) false :=
  ⟨th0, mixed0, by kernel_rfl, Go.Proofs.Try.func129, rfl, by kernel_rfl, rfl, rfl, rfl, rfl, rfl, rfl⟩
theorem go_spec_toWalk_M (k : Nat) : Meets Go.Proofs.Try.prog 129 (go_spec_toWalk_S k) :=
  meets_pure (go_spec_toWalk_F k) (sigs_all (l := [(138, go_spec_boPath_S k), (127, go_spec_l1Has_S k)]) rfl ⟨go_spec_boPath_M k, ⟨go_spec_l1Has_M k, trivial⟩⟩) rfl fun x => go_spec_toWalk_t k x.1 x.2.1 x.2.2.1

end
end Go.Lg
