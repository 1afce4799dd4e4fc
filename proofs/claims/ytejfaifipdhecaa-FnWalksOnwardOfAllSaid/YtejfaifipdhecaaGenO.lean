/-
  Printed by program: what the functions of the code compute (go_laws_FnWalksOnwardOfAll).
-/
import Derived.Test.YtejfaifipdhecaaGenW
set_option linter.unusedVariables false
namespace Go.Lg
open Go.RowKit
noncomputable section
/-! ### laws.ySame -/
def go_laws_ySame_C (k : Nat) : Ctx := { th := TH, se := SE, sg := [], mu := [], an := [(4, [(0, false), (1, false), (12, false), (13, false)])], dr := [(6, 8)], pre := [], d2 := [], m := 0, fx := [], n := 26, k := k }
def go_laws_ySame_L0_E (a0 : (List Int)) (a1 : (List Int)) (x3 : (Int)) : St :=
  ⟨[(0, .one (.val (.sl I) a0), []), (1, .one (.val (.sl I) a1), []), (12, .one (.val I (a0.length : Int)), []), (13, .one (.val I x3), [])], [], []⟩
def go_laws_ySame_L0_G (k : Nat) (a0 : (List Int)) (a1 : (List Int)) (rec4 : (Int) → Option Bool) (x3 : (Int)) : Option Bool :=
  if (decide (x3 < (a0.length : Int))) = true then
    if (inb x3 a0.length) = true then
    if (inb x3 a1.length) = true then
    if (!decide ((a0.getD x3.toNat (0 : Int)) = (a1.getD x3.toNat (0 : Int)))) = true then
      some false
    else
      rec4 (IntKind.i64.wrap (x3 + (1 : Int)))
    else none
    else none
  else
    some true
def go_laws_ySame_L0 (k : Nat) (a0 : (List Int)) (a1 : (List Int)) : (Int) → Option Bool :=
  iter k fun rec4 x3 => go_laws_ySame_L0_G k a0 a1 rec4 x3
theorem go_laws_ySame_L0_t (k : Nat) (a0 : (List Int)) (a1 : (List Int)) (x : (Int)) :
    iter k (loopAt (go_laws_ySame_C k) (bodyOf Go.Proofs.Try.f39) [1, 1, 0, 1, 0] [] (finPure (go_laws_ySame_C k) Go.Proofs.Try.f39.results.toList false (.val .bool))) (go_laws_ySame_L0_E a0 a1 x) = go_laws_ySame_L0 k a0 a1 x := by
  refine iter_tie (G := fun rec x => go_laws_ySame_L0_G k a0 a1 rec x) (go_laws_ySame_L0_E a0 a1) (fun rec x => ?_) k x
  have h : loopAt (go_laws_ySame_C k) (bodyOf Go.Proofs.Try.f39) [1, 1, 0, 1, 0] [] (finPure (go_laws_ySame_C k) Go.Proofs.Try.f39.results.toList false (.val .bool)) rec (go_laws_ySame_L0_E a0 a1 x) = go_laws_ySame_L0_G k a0 a1 (fun y => rec (go_laws_ySame_L0_E a0 a1 y)) x := by kernel_rfl
  rw [h]
def go_laws_ySame_T (k : Nat) (a0 : (List Int)) (a1 : (List Int)) (l_0 : (Int) → Option Bool) : Option Bool :=
  if (!decide ((a0.length : Int) = (a1.length : Int))) = true then
    some false
  else
    l_0 (0 : Int)
def go_laws_ySame (k : Nat) (a0 : (List Int)) (a1 : (List Int)) : Option Bool :=
  go_laws_ySame_T k a0 a1 (fun y => go_laws_ySame_L0 k a0 a1 y)
theorem go_laws_ySame_t (k : Nat) (a0 : (List Int)) (a1 : (List Int)) : runPure (go_laws_ySame_C k) (bodyOf Go.Proofs.Try.f39) Go.Proofs.Try.f39.results.toList false (.pr (.val (.sl I)) (.pr (.val (.sl I)) .un)) (.val .bool) (a0, a1, ()) = go_laws_ySame k a0 a1 := by
  have h : runPure (go_laws_ySame_C k) (bodyOf Go.Proofs.Try.f39) Go.Proofs.Try.f39.results.toList false (.pr (.val (.sl I)) (.pr (.val (.sl I)) .un)) (.val .bool) (a0, a1, ()) = go_laws_ySame_T k a0 a1 (fun y => iter k (loopAt (go_laws_ySame_C k) (bodyOf Go.Proofs.Try.f39) [1, 1, 0, 1, 0] [] (finPure (go_laws_ySame_C k) Go.Proofs.Try.f39.results.toList false (.val .bool))) (go_laws_ySame_L0_E a0 a1 y)) := by kernel_rfl
  have h0 : (fun y => iter k (loopAt (go_laws_ySame_C k) (bodyOf Go.Proofs.Try.f39) [1, 1, 0, 1, 0] [] (finPure (go_laws_ySame_C k) Go.Proofs.Try.f39.results.toList false (.val .bool))) (go_laws_ySame_L0_E a0 a1 y)) = (fun y => go_laws_ySame_L0 k a0 a1 y) := by
    funext y
    exact go_laws_ySame_L0_t k a0 a1 y
  rw [h, h0]
  rfl
def go_laws_ySame_S (k : Nat) : Spec := ⟨(.pr (.val (.sl I)) (.pr (.val (.sl I)) .un)), (.val .bool), false, .inl fun x => go_laws_ySame k x.1 x.2.1⟩
theorem go_laws_ySame_F (k : Nat) : Fits Go.Proofs.Try.prog (go_laws_ySame_C k) 39 Go.Proofs.Try.f39 (bodyOf Go.Proofs.Try.f39) (.pr (.val (.sl I)) (.pr (.val (.sl I)) .un)) (.val .bool) false :=
  ⟨th0, mixed0, by kernel_rfl, Go.Proofs.Try.func39, rfl, by kernel_rfl, rfl, rfl, rfl, rfl, rfl, rfl⟩
theorem go_laws_ySame_M (k : Nat) : Meets Go.Proofs.Try.prog 39 (go_laws_ySame_S k) :=
  meets_pure (go_laws_ySame_F k) (sigs_all (l := []) rfl trivial) rfl fun x => go_laws_ySame_t k x.1 x.2.1

/-! ### (*impl.graph).isTour -/
def go_impl_graph_isTour_C (k : Nat) : Ctx := { th := TH, se := SE, sg := [(118, go_impl_graph_isWalk_S k)], mu := [], an := [], dr := [], pre := [], d2 := [], m := 0, fx := [], n := 18, k := k }
def go_impl_graph_isTour (k : Nat) (a0 : (Option ((Int × (Int × ((List Int) × Unit))) × ((Int × (Int × Unit)) × ((List Int) × ((List (List Int)) × Unit)))))) (a1 : (List Int)) : Option Bool :=
  (go_impl_graph_isWalk k a0 a1).bind fun r1 =>
  if (!r1 || a0.isSome) = true then
  some (r1 && (decide ((a1.length : Int) = ((a0.getD (((0 : Int), ((0 : Int), ([], ()))), (((0 : Int), ((0 : Int), ())), ([], ([], ()))))).2.2.1.length : Int))))
  else none
theorem go_impl_graph_isTour_t (k : Nat) (a0 : (Option ((Int × (Int × ((List Int) × Unit))) × ((Int × (Int × Unit)) × ((List Int) × ((List (List Int)) × Unit)))))) (a1 : (List Int)) : runPure (go_impl_graph_isTour_C k) (bodyOf Go.Proofs.Try.f110) Go.Proofs.Try.f110.results.toList false (.pr (.val (.pt (.pair (.pair I (.pair I (.pair (.sl I) .unit))) (.pair (.pair I (.pair I .unit)) (.pair (.sl I) (.pair (.sl (.sl I)) .unit)))))) (.pr (.val (.sl I)) .un)) (.val .bool) (a0, a1, ()) = go_impl_graph_isTour k a0 a1 := by kernel_rfl
def go_impl_graph_isTour_S (k : Nat) : Spec := ⟨(.pr (.val (.pt (.pair (.pair I (.pair I (.pair (.sl I) .unit))) (.pair (.pair I (.pair I .unit)) (.pair (.sl I) (.pair (.sl (.sl I)) .unit)))))) (.pr (.val (.sl I)) .un)), (.val .bool), false, .inl fun x => go_impl_graph_isTour k x.1 x.2.1⟩
theorem go_impl_graph_isTour_F (k : Nat) : Fits Go.Proofs.Try.prog (go_impl_graph_isTour_C k) 110 Go.Proofs.Try.f110 (bodyOf Go.Proofs.Try.f110) (.pr (.val (.pt (.pair (.pair I (.pair I (.pair (.sl I) .unit))) (.pair (.pair I (.pair I .unit)) (.pair (.sl I) (.pair (.sl (.sl I)) .unit)))))) (.pr (.val (.sl I)) .un)) (.val .bool) false :=
  ⟨th0, mixed0, by kernel_rfl, Go.Proofs.Try.func110, rfl, by kernel_rfl, rfl, rfl, rfl, rfl, rfl, rfl⟩
theorem go_impl_graph_isTour_M (k : Nat) : Meets Go.Proofs.Try.prog 110 (go_impl_graph_isTour_S k) :=
  meets_pure (go_impl_graph_isTour_F k) (sigs_all (l := [(118, go_impl_graph_isWalk_S k)]) rfl ⟨go_impl_graph_isWalk_M k, trivial⟩) rfl fun x => go_impl_graph_isTour_t k x.1 x.2.1

/-! ### impl.IsTour -/
def go_impl_IsTour_C (k : Nat) : Ctx := { th := TH, se := SE, sg := [(109, go_impl_graphOf_S k), (110, go_impl_graph_isTour_S k)], mu := [], an := [], dr := [], pre := [], d2 := [], m := 0, fx := [], n := 21, k := k }
def go_impl_IsTour (k : Nat) (a0 : (Int × (Int × ((List Int) × Unit)))) (a1 : (Int × (Int × Unit))) (a2 : (List Int)) : Option (Bool × (Bool × Unit)) :=
  (go_impl_graphOf k a0 a1).bind fun r1 =>
  if (!r1.2.1) = true then
    some (false, (false, ()))
  else
    (go_impl_graph_isTour k r1.1 a2).bind fun r2 =>
    some (r2, (true, ()))
theorem go_impl_IsTour_t (k : Nat) (a0 : (Int × (Int × ((List Int) × Unit)))) (a1 : (Int × (Int × Unit))) (a2 : (List Int)) : runPure (go_impl_IsTour_C k) (bodyOf Go.Proofs.Try.f41) Go.Proofs.Try.f41.results.toList true (.pr (.val (.pair I (.pair I (.pair (.sl I) .unit)))) (.pr (.val (.pair I (.pair I .unit))) (.pr (.val (.sl I)) .un))) (.pr (.val .bool) (.pr (.val .bool) .un)) (a0, a1, a2, ()) = go_impl_IsTour k a0 a1 a2 := by kernel_rfl
def go_impl_IsTour_S (k : Nat) : Spec := ⟨(.pr (.val (.pair I (.pair I (.pair (.sl I) .unit)))) (.pr (.val (.pair I (.pair I .unit))) (.pr (.val (.sl I)) .un))), (.pr (.val .bool) (.pr (.val .bool) .un)), true, .inl fun x => go_impl_IsTour k x.1 x.2.1 x.2.2.1⟩
theorem go_impl_IsTour_F (k : Nat) : Fits Go.Proofs.Try.prog (go_impl_IsTour_C k) 41 Go.Proofs.Try.f41 (bodyOf Go.Proofs.Try.f41) (.pr (.val (.pair I (.pair I (.pair (.sl I) .unit)))) (.pr (.val (.pair I (.pair I .unit))) (.pr (.val (.sl I)) .un))) (.pr (.val .bool) (.pr (.val .bool) .un)) true :=
  ⟨th0, mixed0, by kernel_rfl, Go.Proofs.Try.func41, rfl, by kernel_rfl, rfl, rfl, rfl, rfl, rfl, rfl⟩
theorem go_impl_IsTour_M (k : Nat) : Meets Go.Proofs.Try.prog 41 (go_impl_IsTour_S k) :=
  meets_pure (go_impl_IsTour_F k) (sigs_all (l := [(109, go_impl_graphOf_S k), (110, go_impl_graph_isTour_S k)]) rfl ⟨go_impl_graphOf_M k, ⟨go_impl_graph_isTour_M k, trivial⟩⟩) rfl fun x => go_impl_IsTour_t k x.1 x.2.1 x.2.2.1

/-! ### (impl.Board).balance -/
def go_impl_Board_balance_C (k : Nat) : Ctx := { th := TH, se := SE, sg := [(108, go_impl_Board_present_S k)], mu := [], an := [(3, [(1, false), (4, false), (5, false), (9, false), (10, false), (11, false)])], dr := [(5, 8)], pre := [], d2 := [], m := 0, fx := [], n := 33, k := k }
def go_impl_Board_balance_L0_E (a0 : (Int × (Int × ((List Int) × Unit)))) (r1 : (List Int)) (x8 : (Int × Int × Int)) : St :=
  ⟨[(1, .one (.val (.pt (.pair I (.pair I (.pair (.sl I) .unit)))) (some a0)), []), (4, .one (.val I x8.1), []), (5, .one (.val I x8.2.1), []), (9, .one (.val (.sl I) r1), []), (10, .one (.val I (r1.length : Int)), []), (11, .one (.val I x8.2.2), [])], [], []⟩
def go_impl_Board_balance_L0_G (k : Nat) (a0 : (Int × (Int × ((List Int) × Unit)))) (r1 : (List Int)) (rec9 : (Int × Int × Int) → Option (Int × (Int × Unit))) (x8 : (Int × Int × Int)) : Option (Int × (Int × Unit)) :=
  if (decide (x8.2.2 < (r1.length : Int))) = true then
    if (inb x8.2.2 r1.length) = true then
    if (decide (a0.1 ≠ 0)) = true then
    if (decide (a0.1 ≠ 0)) = true then
    if (decide ((Int.tmod (IntKind.i64.wrap ((Int.tmod (r1.getD x8.2.2.toNat (0 : Int)) a0.1) + (IntKind.i64.wrap (Int.tdiv (r1.getD x8.2.2.toNat (0 : Int)) a0.1)))) (2 : Int)) = (0 : Int))) = true then
      rec9 ((IntKind.i64.wrap (x8.1 + (1 : Int))), x8.2.1, (IntKind.i64.wrap (x8.2.2 + (1 : Int))))
    else
      rec9 (x8.1, (IntKind.i64.wrap (x8.2.1 + (1 : Int))), (IntKind.i64.wrap (x8.2.2 + (1 : Int))))
    else none
    else none
    else none
  else
    some (x8.1, (x8.2.1, ()))
def go_impl_Board_balance_L0 (k : Nat) (a0 : (Int × (Int × ((List Int) × Unit)))) (r1 : (List Int)) : (Int × Int × Int) → Option (Int × (Int × Unit)) :=
  iter k fun rec9 x8 => go_impl_Board_balance_L0_G k a0 r1 rec9 x8
theorem go_impl_Board_balance_L0_t (k : Nat) (a0 : (Int × (Int × ((List Int) × Unit)))) (r1 : (List Int)) (x : (Int × Int × Int)) :
    iter k (loopAt (go_impl_Board_balance_C k) (bodyOf Go.Proofs.Try.f113) [1, 1, 0, 1, 0] [] (finPure (go_impl_Board_balance_C k) Go.Proofs.Try.f113.results.toList true (.pr (.val I) (.pr (.val I) .un)))) (go_impl_Board_balance_L0_E a0 r1 x) = go_impl_Board_balance_L0 k a0 r1 x := by
  refine iter_tie (G := fun rec x => go_impl_Board_balance_L0_G k a0 r1 rec x) (go_impl_Board_balance_L0_E a0 r1) (fun rec x => ?_) k x
  have h : loopAt (go_impl_Board_balance_C k) (bodyOf Go.Proofs.Try.f113) [1, 1, 0, 1, 0] [] (finPure (go_impl_Board_balance_C k) Go.Proofs.Try.f113.results.toList true (.pr (.val I) (.pr (.val I) .un))) rec (go_impl_Board_balance_L0_E a0 r1 x) = go_impl_Board_balance_L0_G k a0 r1 (fun y => rec (go_impl_Board_balance_L0_E a0 r1 y)) x := by kernel_rfl
  rw [h]
def go_impl_Board_balance_T (k : Nat) (a0 : (Int × (Int × ((List Int) × Unit)))) (l_0 : (List Int) → (Int × Int × Int) → Option (Int × (Int × Unit))) : Option (Int × (Int × Unit)) :=
  (go_impl_Board_present k a0).bind fun r1 =>
  l_0 r1 ((0 : Int), (0 : Int), (0 : Int))
def go_impl_Board_balance (k : Nat) (a0 : (Int × (Int × ((List Int) × Unit)))) : Option (Int × (Int × Unit)) :=
  go_impl_Board_balance_T k a0 (fun r1 y => go_impl_Board_balance_L0 k a0 r1 y)
theorem go_impl_Board_balance_t (k : Nat) (a0 : (Int × (Int × ((List Int) × Unit)))) : runPure (go_impl_Board_balance_C k) (bodyOf Go.Proofs.Try.f113) Go.Proofs.Try.f113.results.toList true (.pr (.val (.pair I (.pair I (.pair (.sl I) .unit)))) .un) (.pr (.val I) (.pr (.val I) .un)) (a0, ()) = go_impl_Board_balance k a0 := by
  have h : runPure (go_impl_Board_balance_C k) (bodyOf Go.Proofs.Try.f113) Go.Proofs.Try.f113.results.toList true (.pr (.val (.pair I (.pair I (.pair (.sl I) .unit)))) .un) (.pr (.val I) (.pr (.val I) .un)) (a0, ()) = go_impl_Board_balance_T k a0 (fun r1 y => iter k (loopAt (go_impl_Board_balance_C k) (bodyOf Go.Proofs.Try.f113) [1, 1, 0, 1, 0] [] (finPure (go_impl_Board_balance_C k) Go.Proofs.Try.f113.results.toList true (.pr (.val I) (.pr (.val I) .un)))) (go_impl_Board_balance_L0_E a0 r1 y)) := by kernel_rfl
  have h0 : (fun r1 y => iter k (loopAt (go_impl_Board_balance_C k) (bodyOf Go.Proofs.Try.f113) [1, 1, 0, 1, 0] [] (finPure (go_impl_Board_balance_C k) Go.Proofs.Try.f113.results.toList true (.pr (.val I) (.pr (.val I) .un)))) (go_impl_Board_balance_L0_E a0 r1 y)) = (fun r1 y => go_impl_Board_balance_L0 k a0 r1 y) := by
    funext r1 y
    exact go_impl_Board_balance_L0_t k a0 r1 y
  rw [h, h0]
  rfl
def go_impl_Board_balance_S (k : Nat) : Spec := ⟨(.pr (.val (.pair I (.pair I (.pair (.sl I) .unit)))) .un), (.pr (.val I) (.pr (.val I) .un)), true, .inl fun x => go_impl_Board_balance k x.1⟩
theorem go_impl_Board_balance_F (k : Nat) : Fits Go.Proofs.Try.prog (go_impl_Board_balance_C k) 113 Go.Proofs.Try.f113 (bodyOf Go.Proofs.Try.f113) (.pr (.val (.pair I (.pair I (.pair (.sl I) .unit)))) .un) (.pr (.val I) (.pr (.val I) .un)) true :=
  ⟨th0, mixed0, by kernel_rfl, Go.Proofs.Try.func113, rfl, by kernel_rfl, rfl, rfl, rfl, rfl, rfl, rfl⟩
theorem go_impl_Board_balance_M (k : Nat) : Meets Go.Proofs.Try.prog 113 (go_impl_Board_balance_S k) :=
  meets_pure (go_impl_Board_balance_F k) (sigs_all (l := [(108, go_impl_Board_present_S k)]) rfl ⟨go_impl_Board_present_M k, trivial⟩) rfl fun x => go_impl_Board_balance_t k x.1

/-! ### impl.ColoursForbid -/
def go_impl_ColoursForbid_C (k : Nat) : Ctx := { th := TH, se := SE, sg := [(69, go_impl_IsBoard_S k), (70, go_impl_IsLeaper_S k), (113, go_impl_Board_balance_S k)], mu := [], an := [], dr := [], pre := [], d2 := [], m := 0, fx := [], n := 42, k := k }
def go_impl_ColoursForbid (k : Nat) (a0 : (Int × (Int × ((List Int) × Unit)))) (a1 : (Int × (Int × Unit))) : Option (Bool × (Bool × (Bool × Unit))) :=
  (go_impl_IsBoard k a0).bind fun r1 =>
  (if (!(!r1)) = true then go_impl_IsLeaper k a1 else some false).bind fun r2 =>
  if (!(!((!r1) || (!r2))) || true) = true then
  if (((!r1) || (!r2)) || (decide ((Int.tmod (IntKind.i64.wrap (a1.1 + a1.2.1)) (2 : Int)) = (0 : Int)))) = true then
    some (false, (false, (false, ())))
  else
    (go_impl_Board_balance k a0).bind fun r3 =>
    some ((decide ((1 : Int) < (max (IntKind.i64.wrap (r3.1 - r3.2.1)) (IntKind.i64.wrap (r3.2.1 - r3.1))))), ((!decide (r3.1 = r3.2.1)), (true, ())))
  else none
theorem go_impl_ColoursForbid_t (k : Nat) (a0 : (Int × (Int × ((List Int) × Unit)))) (a1 : (Int × (Int × Unit))) : runPure (go_impl_ColoursForbid_C k) (bodyOf Go.Proofs.Try.f43) Go.Proofs.Try.f43.results.toList true (.pr (.val (.pair I (.pair I (.pair (.sl I) .unit)))) (.pr (.val (.pair I (.pair I .unit))) .un)) (.pr (.val .bool) (.pr (.val .bool) (.pr (.val .bool) .un))) (a0, a1, ()) = go_impl_ColoursForbid k a0 a1 := by kernel_rfl
def go_impl_ColoursForbid_S (k : Nat) : Spec := ⟨(.pr (.val (.pair I (.pair I (.pair (.sl I) .unit)))) (.pr (.val (.pair I (.pair I .unit))) .un)), (.pr (.val .bool) (.pr (.val .bool) (.pr (.val .bool) .un))), true, .inl fun x => go_impl_ColoursForbid k x.1 x.2.1⟩
theorem go_impl_ColoursForbid_F (k : Nat) : Fits Go.Proofs.Try.prog (go_impl_ColoursForbid_C k) 43 Go.Proofs.Try.f43 (bodyOf Go.Proofs.Try.f43) (.pr (.val (.pair I (.pair I (.pair (.sl I) .unit)))) (.pr (.val (.pair I (.pair I .unit))) .un)) (.pr (.val .bool) (.pr (.val .bool) (.pr (.val .bool) .un))) true :=
  ⟨th0, mixed0, by kernel_rfl, Go.Proofs.Try.func43, rfl, by kernel_rfl, rfl, rfl, rfl, rfl, rfl, rfl⟩
theorem go_impl_ColoursForbid_M (k : Nat) : Meets Go.Proofs.Try.prog 43 (go_impl_ColoursForbid_S k) :=
  meets_pure (go_impl_ColoursForbid_F k) (sigs_all (l := [(69, go_impl_IsBoard_S k), (70, go_impl_IsLeaper_S k), (113, go_impl_Board_balance_S k)]) rfl ⟨go_impl_IsBoard_M k, ⟨go_impl_IsLeaper_M k, ⟨go_impl_Board_balance_M k, trivial⟩⟩⟩) rfl fun x => go_impl_ColoursForbid_t k x.1 x.2.1

/-! ### impl.IsWalk -/
def go_impl_IsWalk_C (k : Nat) : Ctx := { th := TH, se := SE, sg := [(109, go_impl_graphOf_S k), (118, go_impl_graph_isWalk_S k)], mu := [], an := [], dr := [], pre := [], d2 := [], m := 0, fx := [], n := 21, k := k }
def go_impl_IsWalk (k : Nat) (a0 : (Int × (Int × ((List Int) × Unit)))) (a1 : (Int × (Int × Unit))) (a2 : (List Int)) : Option (Bool × (Bool × Unit)) :=
  (go_impl_graphOf k a0 a1).bind fun r1 =>
  if (!r1.2.1) = true then
    some (false, (false, ()))
  else
    (go_impl_graph_isWalk k r1.1 a2).bind fun r2 =>
    some (r2, (true, ()))
theorem go_impl_IsWalk_t (k : Nat) (a0 : (Int × (Int × ((List Int) × Unit)))) (a1 : (Int × (Int × Unit))) (a2 : (List Int)) : runPure (go_impl_IsWalk_C k) (bodyOf Go.Proofs.Try.f47) Go.Proofs.Try.f47.results.toList true (.pr (.val (.pair I (.pair I (.pair (.sl I) .unit)))) (.pr (.val (.pair I (.pair I .unit))) (.pr (.val (.sl I)) .un))) (.pr (.val .bool) (.pr (.val .bool) .un)) (a0, a1, a2, ()) = go_impl_IsWalk k a0 a1 a2 := by kernel_rfl
def go_impl_IsWalk_S (k : Nat) : Spec := ⟨(.pr (.val (.pair I (.pair I (.pair (.sl I) .unit)))) (.pr (.val (.pair I (.pair I .unit))) (.pr (.val (.sl I)) .un))), (.pr (.val .bool) (.pr (.val .bool) .un)), true, .inl fun x => go_impl_IsWalk k x.1 x.2.1 x.2.2.1⟩
theorem go_impl_IsWalk_F (k : Nat) : Fits Go.Proofs.Try.prog (go_impl_IsWalk_C k) 47 Go.Proofs.Try.f47 (bodyOf Go.Proofs.Try.f47) (.pr (.val (.pair I (.pair I (.pair (.sl I) .unit)))) (.pr (.val (.pair I (.pair I .unit))) (.pr (.val (.sl I)) .un))) (.pr (.val .bool) (.pr (.val .bool) .un)) true :=
  ⟨th0, mixed0, by kernel_rfl, Go.Proofs.Try.func47, rfl, by kernel_rfl, rfl, rfl, rfl, rfl, rfl, rfl⟩
theorem go_impl_IsWalk_M (k : Nat) : Meets Go.Proofs.Try.prog 47 (go_impl_IsWalk_S k) :=
  meets_pure (go_impl_IsWalk_F k) (sigs_all (l := [(109, go_impl_graphOf_S k), (118, go_impl_graph_isWalk_S k)]) rfl ⟨go_impl_graphOf_M k, ⟨go_impl_graph_isWalk_M k, trivial⟩⟩) rfl fun x => go_impl_IsWalk_t k x.1 x.2.1 x.2.2.1

/-! ### (impl.Board).numbers -/
def go_impl_Board_numbers_C (k : Nat) : Ctx := { th := TH, se := SE, sg := [], mu := [], an := [(3, [(5, false), (14, false), (15, false), (16, false)])], dr := [], pre := [], d2 := [], m := 0, fx := [], n := 28, k := k }
def go_impl_Board_numbers_L0_E (a0 : (Int × (Int × ((List Int) × Unit)))) (a1 : (List Int)) (x5 : (Int × (List Int))) : St :=
  ⟨[(5, .one (.own 0), []), (14, .one (.val (.sl I) a1), []), (15, .one (.val I (a1.length : Int)), []), (16, .one (.val I x5.1), [])], [.arr 3 I x5.2], []⟩
def go_impl_Board_numbers_L0_G (k : Nat) (a0 : (Int × (Int × ((List Int) × Unit)))) (a1 : (List Int)) (rec6 : (Int × (List Int)) → Option (List Int)) (x5 : (Int × (List Int))) : Option (List Int) :=
  if (decide (x5.1 < (a1.length : Int))) = true then
    if (inb x5.1 a1.length) = true then
    if (inb (a1.getD x5.1.toNat (0 : Int)) x5.2.length) = true then
    rec6 ((IntKind.i64.wrap (x5.1 + (1 : Int))), (x5.2.set (a1.getD x5.1.toNat (0 : Int)).toNat (IntKind.i64.wrap (x5.1 + (1 : Int)))))
    else none
    else none
  else
    some x5.2
def go_impl_Board_numbers_L0 (k : Nat) (a0 : (Int × (Int × ((List Int) × Unit)))) (a1 : (List Int)) : (Int × (List Int)) → Option (List Int) :=
  iter k fun rec6 x5 => go_impl_Board_numbers_L0_G k a0 a1 rec6 x5
theorem go_impl_Board_numbers_L0_t (k : Nat) (a0 : (Int × (Int × ((List Int) × Unit)))) (a1 : (List Int)) (x : (Int × (List Int))) :
    iter k (loopAt (go_impl_Board_numbers_C k) (bodyOf Go.Proofs.Try.f122) [1, 1, 0, 1, 0] [] (finPure (go_impl_Board_numbers_C k) Go.Proofs.Try.f122.results.toList false (.val (.sl I)))) (go_impl_Board_numbers_L0_E a0 a1 x) = go_impl_Board_numbers_L0 k a0 a1 x := by
  refine iter_tie (G := fun rec x => go_impl_Board_numbers_L0_G k a0 a1 rec x) (go_impl_Board_numbers_L0_E a0 a1) (fun rec x => ?_) k x
  have h : loopAt (go_impl_Board_numbers_C k) (bodyOf Go.Proofs.Try.f122) [1, 1, 0, 1, 0] [] (finPure (go_impl_Board_numbers_C k) Go.Proofs.Try.f122.results.toList false (.val (.sl I))) rec (go_impl_Board_numbers_L0_E a0 a1 x) = go_impl_Board_numbers_L0_G k a0 a1 (fun y => rec (go_impl_Board_numbers_L0_E a0 a1 y)) x := by kernel_rfl
  rw [h]
def go_impl_Board_numbers_T (k : Nat) (a0 : (Int × (Int × ((List Int) × Unit)))) (a1 : (List Int)) (l_0 : (Int × (List Int)) → Option (List Int)) : Option (List Int) :=
  if (decide (0 ≤ (IntKind.i64.wrap (a0.1 * a0.2.1)) ∧ (IntKind.i64.wrap (a0.1 * a0.2.1)) ≤ (LIM : Int))) = true then
  l_0 ((0 : Int), (List.replicate (IntKind.i64.wrap (a0.1 * a0.2.1)).toNat (0 : Int)))
  else none
def go_impl_Board_numbers (k : Nat) (a0 : (Int × (Int × ((List Int) × Unit)))) (a1 : (List Int)) : Option (List Int) :=
  go_impl_Board_numbers_T k a0 a1 (fun y => go_impl_Board_numbers_L0 k a0 a1 y)
theorem go_impl_Board_numbers_t (k : Nat) (a0 : (Int × (Int × ((List Int) × Unit)))) (a1 : (List Int)) : runPure (go_impl_Board_numbers_C k) (bodyOf Go.Proofs.Try.f122) Go.Proofs.Try.f122.results.toList false (.pr (.val (.pair I (.pair I (.pair (.sl I) .unit)))) (.pr (.val (.sl I)) .un)) (.val (.sl I)) (a0, a1, ()) = go_impl_Board_numbers k a0 a1 := by
  have h : runPure (go_impl_Board_numbers_C k) (bodyOf Go.Proofs.Try.f122) Go.Proofs.Try.f122.results.toList false (.pr (.val (.pair I (.pair I (.pair (.sl I) .unit)))) (.pr (.val (.sl I)) .un)) (.val (.sl I)) (a0, a1, ()) = go_impl_Board_numbers_T k a0 a1 (fun y => iter k (loopAt (go_impl_Board_numbers_C k) (bodyOf Go.Proofs.Try.f122) [1, 1, 0, 1, 0] [] (finPure (go_impl_Board_numbers_C k) Go.Proofs.Try.f122.results.toList false (.val (.sl I)))) (go_impl_Board_numbers_L0_E a0 a1 y)) := by kernel_rfl
  have h0 : (fun y => iter k (loopAt (go_impl_Board_numbers_C k) (bodyOf Go.Proofs.Try.f122) [1, 1, 0, 1, 0] [] (finPure (go_impl_Board_numbers_C k) Go.Proofs.Try.f122.results.toList false (.val (.sl I)))) (go_impl_Board_numbers_L0_E a0 a1 y)) = (fun y => go_impl_Board_numbers_L0 k a0 a1 y) := by
    funext y
    exact go_impl_Board_numbers_L0_t k a0 a1 y
  rw [h, h0]
  rfl
def go_impl_Board_numbers_S (k : Nat) : Spec := ⟨(.pr (.val (.pair I (.pair I (.pair (.sl I) .unit)))) (.pr (.val (.sl I)) .un)), (.val (.sl I)), false, .inl fun x => go_impl_Board_numbers k x.1 x.2.1⟩
theorem go_impl_Board_numbers_F (k : Nat) : Fits Go.Proofs.Try.prog (go_impl_Board_numbers_C k) 122 Go.Proofs.Try.f122 (bodyOf Go.Proofs.Try.f122) (.pr (.val (.pair I (.pair I (.pair (.sl I) .unit)))) (.pr (.val (.sl I)) .un)) (.val (.sl I)) false :=
  ⟨th0, mixed0, by kernel_rfl, Go.Proofs.Try.func122, rfl, by kernel_rfl, rfl, rfl, rfl, rfl, rfl, rfl⟩
theorem go_impl_Board_numbers_M (k : Nat) : Meets Go.Proofs.Try.prog 122 (go_impl_Board_numbers_S k) :=
  meets_pure (go_impl_Board_numbers_F k) (sigs_all (l := []) rfl trivial) rfl fun x => go_impl_Board_numbers_t k x.1 x.2.1

/-! ### impl.NumbersOfWalk -/
def go_impl_NumbersOfWalk_C (k : Nat) : Ctx := { th := TH, se := SE, sg := [(109, go_impl_graphOf_S k), (118, go_impl_graph_isWalk_S k), (122, go_impl_Board_numbers_S k)], mu := [], an := [], dr := [], pre := [], d2 := [], m := 0, fx := [], n := 27, k := k }
def go_impl_NumbersOfWalk (k : Nat) (a0 : (Int × (Int × ((List Int) × Unit)))) (a1 : (Int × (Int × Unit))) (a2 : (List Int)) : Option ((List Int) × (Bool × Unit)) :=
  (go_impl_graphOf k a0 a1).bind fun r1 =>
  (if (!(!r1.2.1)) = true then go_impl_graph_isWalk k r1.1 a2 else some false).bind fun r2 =>
  if ((!r1.2.1) || (!r2)) = true then
    some ([], (false, ()))
  else
    (go_impl_Board_numbers k a0 a2).bind fun r3 =>
    some (r3, (true, ()))
theorem go_impl_NumbersOfWalk_t (k : Nat) (a0 : (Int × (Int × ((List Int) × Unit)))) (a1 : (Int × (Int × Unit))) (a2 : (List Int)) : runPure (go_impl_NumbersOfWalk_C k) (bodyOf Go.Proofs.Try.f53) Go.Proofs.Try.f53.results.toList true (.pr (.val (.pair I (.pair I (.pair (.sl I) .unit)))) (.pr (.val (.pair I (.pair I .unit))) (.pr (.val (.sl I)) .un))) (.pr (.val (.sl I)) (.pr (.val .bool) .un)) (a0, a1, a2, ()) = go_impl_NumbersOfWalk k a0 a1 a2 := by kernel_rfl
def go_impl_NumbersOfWalk_S (k : Nat) : Spec := ⟨(.pr (.val (.pair I (.pair I (.pair (.sl I) .unit)))) (.pr (.val (.pair I (.pair I .unit))) (.pr (.val (.sl I)) .un))), (.pr (.val (.sl I)) (.pr (.val .bool) .un)), true, .inl fun x => go_impl_NumbersOfWalk k x.1 x.2.1 x.2.2.1⟩
theorem go_impl_NumbersOfWalk_F (k : Nat) : Fits Go.Proofs.Try.prog (go_impl_NumbersOfWalk_C k) 53 Go.Proofs.Try.f53 (bodyOf Go.Proofs.Try.f53) (.pr (.val (.pair I (.pair I (.pair (.sl I) .unit)))) (.pr (.val (.pair I (.pair I .unit))) (.pr (.val (.sl I)) .un))) (.pr (.val (.sl I)) (.pr (.val .bool) .un)) true :=
  ⟨th0, mixed0, by kernel_rfl, Go.Proofs.Try.func53, rfl, by kernel_rfl, rfl, rfl, rfl, rfl, rfl, rfl⟩
theorem go_impl_NumbersOfWalk_M (k : Nat) : Meets Go.Proofs.Try.prog 53 (go_impl_NumbersOfWalk_S k) :=
  meets_pure (go_impl_NumbersOfWalk_F k) (sigs_all (l := [(109, go_impl_graphOf_S k), (118, go_impl_graph_isWalk_S k), (122, go_impl_Board_numbers_S k)]) rfl ⟨go_impl_graphOf_M k, ⟨go_impl_graph_isWalk_M k, ⟨go_impl_Board_numbers_M k, trivial⟩⟩⟩) rfl fun x => go_impl_NumbersOfWalk_t k x.1 x.2.1 x.2.2.1

/-! ### impl.two -/
def go_impl_two_C (k : Nat) : Ctx := { th := TH, se := SE, sg := [(109, go_impl_graphOf_S k), (91, go_impl_Board_has_S k)], mu := [], an := [], dr := [], pre := [], d2 := [], m := 0, fx := [], n := 33, k := k }
def go_impl_two (k : Nat) (a0 : (Int × (Int × ((List Int) × Unit)))) (a1 : (Int × (Int × Unit))) (a2 : Int) (a3 : Int) : Option ((Option ((Int × (Int × ((List Int) × Unit))) × ((Int × (Int × Unit)) × ((List Int) × ((List (List Int)) × Unit))))) × (Bool × Unit)) :=
  (go_impl_graphOf k a0 a1).bind fun r1 =>
  (if (!(!r1.2.1)) = true then go_impl_Board_has k a0 a2 else some false).bind fun r2 =>
  (if (!((!r1.2.1) || (!r2))) = true then go_impl_Board_has k a0 a3 else some false).bind fun r3 =>
  if (((!r1.2.1) || (!r2)) || (!r3)) = true then
    some (none, (false, ()))
  else
    some (r1.1, (true, ()))
theorem go_impl_two_t (k : Nat) (a0 : (Int × (Int × ((List Int) × Unit)))) (a1 : (Int × (Int × Unit))) (a2 : Int) (a3 : Int) : runPure (go_impl_two_C k) (bodyOf Go.Proofs.Try.f125) Go.Proofs.Try.f125.results.toList true (.pr (.val (.pair I (.pair I (.pair (.sl I) .unit)))) (.pr (.val (.pair I (.pair I .unit))) (.pr (.val I) (.pr (.val I) .un)))) (.pr (.val (.pt (.pair (.pair I (.pair I (.pair (.sl I) .unit))) (.pair (.pair I (.pair I .unit)) (.pair (.sl I) (.pair (.sl (.sl I)) .unit)))))) (.pr (.val .bool) .un)) (a0, a1, a2, a3, ()) = go_impl_two k a0 a1 a2 a3 := by kernel_rfl
def go_impl_two_S (k : Nat) : Spec := ⟨(.pr (.val (.pair I (.pair I (.pair (.sl I) .unit)))) (.pr (.val (.pair I (.pair I .unit))) (.pr (.val I) (.pr (.val I) .un)))), (.pr (.val (.pt (.pair (.pair I (.pair I (.pair (.sl I) .unit))) (.pair (.pair I (.pair I .unit)) (.pair (.sl I) (.pair (.sl (.sl I)) .unit)))))) (.pr (.val .bool) .un)), true, .inl fun x => go_impl_two k x.1 x.2.1 x.2.2.1 x.2.2.2.1⟩
theorem go_impl_two_F (k : Nat) : Fits Go.Proofs.Try.prog (go_impl_two_C k) 125 Go.Proofs.Try.f125 (bodyOf Go.Proofs.Try.f125) (.pr (.val (.pair I (.pair I (.pair (.sl I) .unit)))) (.pr (.val (.pair I (.pair I .unit))) (.pr (.val I) (.pr (.val I) .un)))) (.pr (.val (.pt (.pair (.pair I (.pair I (.pair (.sl I) .unit))) (.pair (.pair I (.pair I .unit)) (.pair (.sl I) (.pair (.sl (.sl I)) .unit)))))) (.pr (.val .bool) .un)) true :=
  ⟨th0, mixed0, by kernel_rfl, Go.Proofs.Try.func125, rfl, by kernel_rfl, rfl, rfl, rfl, rfl, rfl, rfl⟩
theorem go_impl_two_M (k : Nat) : Meets Go.Proofs.Try.prog 125 (go_impl_two_S k) :=
  meets_pure (go_impl_two_F k) (sigs_all (l := [(109, go_impl_graphOf_S k), (91, go_impl_Board_has_S k)]) rfl ⟨go_impl_graphOf_M k, ⟨go_impl_Board_has_M k, trivial⟩⟩) rfl fun x => go_impl_two_t k x.1 x.2.1 x.2.2.1 x.2.2.2.1

/-! ### (*impl.graph).onward -/
def go_impl_graph_onward_C (k : Nat) : Ctx := { th := TH, se := SE, sg := [(140, go_slices_Contains_int_S k)], mu := [14], an := [(2, [(0, false), (5, false)]), (4, [(0, false), (5, false), (6, false), (7, false), (26, false), (27, false), (28, false)]), (9, [(0, false), (5, false), (6, false), (7, false), (9, false), (10, false), (26, false), (27, false), (28, false), (41, false), (42, false), (43, false)])], dr := [(3, 14)], pre := [], d2 := [], m := 0, fx := [], n := 71, k := k }
def go_impl_graph_onward_L0_E (a0 : (Option ((Int × (Int × ((List Int) × Unit))) × ((Int × (Int × Unit)) × ((List Int) × ((List (List Int)) × Unit)))))) (a1 : Int) (x42 : ((List Int))) : St :=
  ⟨[(0, .one (.val (.pt (.pair (.pair I (.pair I (.pair (.sl I) .unit))) (.pair (.pair I (.pair I .unit)) (.pair (.sl I) (.pair (.sl (.sl I)) .unit))))) a0), []), (5, .one (.own 0), [])], [.arr 3 I x42], []⟩
def go_impl_graph_onward_L1_E (a0 : (Option ((Int × (Int × ((List Int) × Unit))) × ((Int × (Int × Unit)) × ((List Int) × ((List (List Int)) × Unit)))))) (a1 : Int) (x42 : ((List Int))) (x71 : (Int × Int × Int)) : St :=
  ⟨[(0, .one (.val (.pt (.pair (.pair I (.pair I (.pair (.sl I) .unit))) (.pair (.pair I (.pair I .unit)) (.pair (.sl I) (.pair (.sl (.sl I)) .unit))))) a0), []), (5, .one (.own 0), []), (6, .one (.val I x71.1), []), (7, .one (.val I x71.2.1), []), (26, .one (.val (.sl I) ((a0.getD (((0 : Int), ((0 : Int), ([], ()))), (((0 : Int), ((0 : Int), ())), ([], ([], ()))))).2.2.2.1.getD (x42.getD (IntKind.i64.wrap ((x42.length : Int) - (1 : Int))).toNat (0 : Int)).toNat [])), []), (27, .one (.val I (((a0.getD (((0 : Int), ((0 : Int), ([], ()))), (((0 : Int), ((0 : Int), ())), ([], ([], ()))))).2.2.2.1.getD (x42.getD (IntKind.i64.wrap ((x42.length : Int) - (1 : Int))).toNat (0 : Int)).toNat []).length : Int)), []), (28, .one (.val I x71.2.2), [])], [.arr 3 I x42], []⟩
def go_impl_graph_onward_L2_E (a0 : (Option ((Int × (Int × ((List Int) × Unit))) × ((Int × (Int × Unit)) × ((List Int) × ((List (List Int)) × Unit)))))) (a1 : Int) (x42 : ((List Int))) (x71 : (Int × Int × Int)) (x80 : (Int × Int)) : St :=
  ⟨[(0, .one (.val (.pt (.pair (.pair I (.pair I (.pair (.sl I) .unit))) (.pair (.pair I (.pair I .unit)) (.pair (.sl I) (.pair (.sl (.sl I)) .unit))))) a0), []), (5, .one (.own 0), []), (6, .one (.val I x71.1), []), (7, .one (.val I x71.2.1), []), (9, .one (.val I (((a0.getD (((0 : Int), ((0 : Int), ([], ()))), (((0 : Int), ((0 : Int), ())), ([], ([], ()))))).2.2.2.1.getD (x42.getD (IntKind.i64.wrap ((x42.length : Int) - (1 : Int))).toNat (0 : Int)).toNat []).getD x71.2.2.toNat (0 : Int))), []), (10, .one (.val I x80.1), []), (26, .one (.val (.sl I) ((a0.getD (((0 : Int), ((0 : Int), ([], ()))), (((0 : Int), ((0 : Int), ())), ([], ([], ()))))).2.2.2.1.getD (x42.getD (IntKind.i64.wrap ((x42.length : Int) - (1 : Int))).toNat (0 : Int)).toNat [])), []), (27, .one (.val I (((a0.getD (((0 : Int), ((0 : Int), ([], ()))), (((0 : Int), ((0 : Int), ())), ([], ([], ()))))).2.2.2.1.getD (x42.getD (IntKind.i64.wrap ((x42.length : Int) - (1 : Int))).toNat (0 : Int)).toNat []).length : Int)), []), (28, .one (.val I x71.2.2), []), (41, .one (.val (.sl I) ((a0.getD (((0 : Int), ((0 : Int), ([], ()))), (((0 : Int), ((0 : Int), ())), ([], ([], ()))))).2.2.2.1.getD (((a0.getD (((0 : Int), ((0 : Int), ([], ()))), (((0 : Int), ((0 : Int), ())), ([], ([], ()))))).2.2.2.1.getD (x42.getD (IntKind.i64.wrap ((x42.length : Int) - (1 : Int))).toNat (0 : Int)).toNat []).getD x71.2.2.toNat (0 : Int)).toNat [])), []), (42, .one (.val I (((a0.getD (((0 : Int), ((0 : Int), ([], ()))), (((0 : Int), ((0 : Int), ())), ([], ([], ()))))).2.2.2.1.getD (((a0.getD (((0 : Int), ((0 : Int), ([], ()))), (((0 : Int), ((0 : Int), ())), ([], ([], ()))))).2.2.2.1.getD (x42.getD (IntKind.i64.wrap ((x42.length : Int) - (1 : Int))).toNat (0 : Int)).toNat []).getD x71.2.2.toNat (0 : Int)).toNat []).length : Int)), []), (43, .one (.val I x80.2), [])], [.arr 3 I x42], []⟩
def go_impl_graph_onward_L2_G (k : Nat) (a0 : (Option ((Int × (Int × ((List Int) × Unit))) × ((Int × (Int × Unit)) × ((List Int) × ((List (List Int)) × Unit)))))) (a1 : Int) (x42 : ((List Int))) (x71 : (Int × Int × Int)) (rec43 : ((List Int)) → Option (List Int)) (rec72 : (Int × Int × Int) → Option (List Int)) (rec81 : (Int × Int) → Option (List Int)) (x80 : (Int × Int)) : Option (List Int) :=
  if (decide (x80.2 < (((a0.getD (((0 : Int), ((0 : Int), ([], ()))), (((0 : Int), ((0 : Int), ())), ([], ([], ()))))).2.2.2.1.getD (((a0.getD (((0 : Int), ((0 : Int), ([], ()))), (((0 : Int), ((0 : Int), ())), ([], ([], ()))))).2.2.2.1.getD (x42.getD (IntKind.i64.wrap ((x42.length : Int) - (1 : Int))).toNat (0 : Int)).toNat []).getD x71.2.2.toNat (0 : Int)).toNat []).length : Int))) = true then
    if (inb x80.2 ((a0.getD (((0 : Int), ((0 : Int), ([], ()))), (((0 : Int), ((0 : Int), ())), ([], ([], ()))))).2.2.2.1.getD (((a0.getD (((0 : Int), ((0 : Int), ([], ()))), (((0 : Int), ((0 : Int), ())), ([], ([], ()))))).2.2.2.1.getD (x42.getD (IntKind.i64.wrap ((x42.length : Int) - (1 : Int))).toNat (0 : Int)).toNat []).getD x71.2.2.toNat (0 : Int)).toNat []).length) = true then
    (go_slices_Contains_int k x42 (((a0.getD (((0 : Int), ((0 : Int), ([], ()))), (((0 : Int), ((0 : Int), ())), ([], ([], ()))))).2.2.2.1.getD (((a0.getD (((0 : Int), ((0 : Int), ([], ()))), (((0 : Int), ((0 : Int), ())), ([], ([], ()))))).2.2.2.1.getD (x42.getD (IntKind.i64.wrap ((x42.length : Int) - (1 : Int))).toNat (0 : Int)).toNat []).getD x71.2.2.toNat (0 : Int)).toNat []).getD x80.2.toNat (0 : Int))).bind fun r82 =>
    if (!r82) = true then
      rec81 ((IntKind.i64.wrap (x80.1 + (1 : Int))), (IntKind.i64.wrap (x80.2 + (1 : Int))))
    else
      rec81 (x80.1, (IntKind.i64.wrap (x80.2 + (1 : Int))))
    else none
  else
    if ((decide (x71.1 < (0 : Int))) || (decide (x80.1 < x71.2.1))) = true then
      rec72 ((((a0.getD (((0 : Int), ((0 : Int), ([], ()))), (((0 : Int), ((0 : Int), ())), ([], ([], ()))))).2.2.2.1.getD (x42.getD (IntKind.i64.wrap ((x42.length : Int) - (1 : Int))).toNat (0 : Int)).toNat []).getD x71.2.2.toNat (0 : Int)), x80.1, (IntKind.i64.wrap (x71.2.2 + (1 : Int))))
    else
      rec72 (x71.1, x71.2.1, (IntKind.i64.wrap (x71.2.2 + (1 : Int))))
def go_impl_graph_onward_L2 (k : Nat) (a0 : (Option ((Int × (Int × ((List Int) × Unit))) × ((Int × (Int × Unit)) × ((List Int) × ((List (List Int)) × Unit)))))) (a1 : Int) (rec43 : ((List Int)) → Option (List Int)) (rec72 : (Int × Int × Int) → Option (List Int)) (x42 : ((List Int))) (x71 : (Int × Int × Int)) : (Int × Int) → Option (List Int) :=
  iter k fun rec81 x80 => go_impl_graph_onward_L2_G k a0 a1 x42 x71 rec43 rec72 rec81 x80
theorem go_impl_graph_onward_L2_t (k : Nat) (a0 : (Option ((Int × (Int × ((List Int) × Unit))) × ((Int × (Int × Unit)) × ((List Int) × ((List (List Int)) × Unit)))))) (a1 : Int) (s0 : St → Option (List Int)) (s1 : St → Option (List Int)) (x42 : ((List Int))) (x71 : (Int × Int × Int)) (x : (Int × Int)) :
    iter k (loopAt (go_impl_graph_onward_C k) (bodyOf Go.Proofs.Try.f126) [1, 1, 0, 0, 0, 1, 0, 1, 0, 0, 1, 1, 0, 0, 1, 1, 1, 0, 1, 0] [s0, s1] (finPure (go_impl_graph_onward_C k) Go.Proofs.Try.f126.results.toList false (.val (.sl I)))) (go_impl_graph_onward_L2_E a0 a1 x42 x71 x) = go_impl_graph_onward_L2 k a0 a1 (fun y => s0 (go_impl_graph_onward_L0_E a0 a1 y)) (fun y => s1 (go_impl_graph_onward_L1_E a0 a1 x42 y)) x42 x71 x := by
  refine iter_tie (G := fun rec x => go_impl_graph_onward_L2_G k a0 a1 x42 x71 (fun y => s0 (go_impl_graph_onward_L0_E a0 a1 y)) (fun y => s1 (go_impl_graph_onward_L1_E a0 a1 x42 y)) rec x) (go_impl_graph_onward_L2_E a0 a1 x42 x71) (fun rec x => ?_) k x
  have h : loopAt (go_impl_graph_onward_C k) (bodyOf Go.Proofs.Try.f126) [1, 1, 0, 0, 0, 1, 0, 1, 0, 0, 1, 1, 0, 0, 1, 1, 1, 0, 1, 0] [s0, s1] (finPure (go_impl_graph_onward_C k) Go.Proofs.Try.f126.results.toList false (.val (.sl I))) rec (go_impl_graph_onward_L2_E a0 a1 x42 x71 x) = go_impl_graph_onward_L2_G k a0 a1 x42 x71 (fun y => s0 (go_impl_graph_onward_L0_E a0 a1 y)) (fun y => s1 (go_impl_graph_onward_L1_E a0 a1 x42 y)) (fun y => rec (go_impl_graph_onward_L2_E a0 a1 x42 x71 y)) x := by kernel_rfl
  rw [h]
def go_impl_graph_onward_L1_G (k : Nat) (a0 : (Option ((Int × (Int × ((List Int) × Unit))) × ((Int × (Int × Unit)) × ((List Int) × ((List (List Int)) × Unit)))))) (a1 : Int) (x42 : ((List Int))) (l_2 : (Int × Int × Int) → (Int × Int) → Option (List Int)) (rec43 : ((List Int)) → Option (List Int)) (rec72 : (Int × Int × Int) → Option (List Int)) (x71 : (Int × Int × Int)) : Option (List Int) :=
  if (decide (x71.2.2 < (((a0.getD (((0 : Int), ((0 : Int), ([], ()))), (((0 : Int), ((0 : Int), ())), ([], ([], ()))))).2.2.2.1.getD (x42.getD (IntKind.i64.wrap ((x42.length : Int) - (1 : Int))).toNat (0 : Int)).toNat []).length : Int))) = true then
    if (inb x71.2.2 ((a0.getD (((0 : Int), ((0 : Int), ([], ()))), (((0 : Int), ((0 : Int), ())), ([], ([], ()))))).2.2.2.1.getD (x42.getD (IntKind.i64.wrap ((x42.length : Int) - (1 : Int))).toNat (0 : Int)).toNat []).length) = true then
    (go_slices_Contains_int k x42 (((a0.getD (((0 : Int), ((0 : Int), ([], ()))), (((0 : Int), ((0 : Int), ())), ([], ([], ()))))).2.2.2.1.getD (x42.getD (IntKind.i64.wrap ((x42.length : Int) - (1 : Int))).toNat (0 : Int)).toNat []).getD x71.2.2.toNat (0 : Int))).bind fun r73 =>
    if r73 = true then
      rec72 (x71.1, x71.2.1, (IntKind.i64.wrap (x71.2.2 + (1 : Int))))
    else
      if a0.isSome = true then
      if (inb (((a0.getD (((0 : Int), ((0 : Int), ([], ()))), (((0 : Int), ((0 : Int), ())), ([], ([], ()))))).2.2.2.1.getD (x42.getD (IntKind.i64.wrap ((x42.length : Int) - (1 : Int))).toNat (0 : Int)).toNat []).getD x71.2.2.toNat (0 : Int)) (a0.getD (((0 : Int), ((0 : Int), ([], ()))), (((0 : Int), ((0 : Int), ())), ([], ([], ()))))).2.2.2.1.length) = true then
      l_2 x71 ((0 : Int), (0 : Int))
      else none
      else none
    else none
  else
    if (decide (x71.1 < (0 : Int))) = true then
      some x42
    else
      if (decide (x42.length + [x71.1].length ≤ LIM)) = true then
      rec43 (x42 ++ [x71.1])
      else none
def go_impl_graph_onward_L1 (k : Nat) (a0 : (Option ((Int × (Int × ((List Int) × Unit))) × ((Int × (Int × Unit)) × ((List Int) × ((List (List Int)) × Unit)))))) (a1 : Int) (rec43 : ((List Int)) → Option (List Int)) (x42 : ((List Int))) : (Int × Int × Int) → Option (List Int) :=
  iter k fun rec72 x71 => go_impl_graph_onward_L1_G k a0 a1 x42 (fun c0 y => go_impl_graph_onward_L2 k a0 a1 rec43 rec72 x42 c0 y) rec43 rec72 x71
theorem go_impl_graph_onward_L1_t (k : Nat) (a0 : (Option ((Int × (Int × ((List Int) × Unit))) × ((Int × (Int × Unit)) × ((List Int) × ((List (List Int)) × Unit)))))) (a1 : Int) (s0 : St → Option (List Int)) (x42 : ((List Int))) (x : (Int × Int × Int)) :
    iter k (loopAt (go_impl_graph_onward_C k) (bodyOf Go.Proofs.Try.f126) [1, 1, 0, 0, 0, 1, 0, 1, 0] [s0] (finPure (go_impl_graph_onward_C k) Go.Proofs.Try.f126.results.toList false (.val (.sl I)))) (go_impl_graph_onward_L1_E a0 a1 x42 x) = go_impl_graph_onward_L1 k a0 a1 (fun y => s0 (go_impl_graph_onward_L0_E a0 a1 y)) x42 x := by
  refine iter_tie (G := fun rec x => go_impl_graph_onward_L1_G k a0 a1 x42 (fun c0 y => go_impl_graph_onward_L2 k a0 a1 (fun y => s0 (go_impl_graph_onward_L0_E a0 a1 y)) rec x42 c0 y) (fun y => s0 (go_impl_graph_onward_L0_E a0 a1 y)) rec x) (go_impl_graph_onward_L1_E a0 a1 x42) (fun rec x => ?_) k x
  have h : loopAt (go_impl_graph_onward_C k) (bodyOf Go.Proofs.Try.f126) [1, 1, 0, 0, 0, 1, 0, 1, 0] [s0] (finPure (go_impl_graph_onward_C k) Go.Proofs.Try.f126.results.toList false (.val (.sl I))) rec (go_impl_graph_onward_L1_E a0 a1 x42 x) = go_impl_graph_onward_L1_G k a0 a1 x42 (fun c0 y => iter k (loopAt (go_impl_graph_onward_C k) (bodyOf Go.Proofs.Try.f126) [1, 1, 0, 0, 0, 1, 0, 1, 0, 0, 1, 1, 0, 0, 1, 1, 1, 0, 1, 0] [s0, rec] (finPure (go_impl_graph_onward_C k) Go.Proofs.Try.f126.results.toList false (.val (.sl I)))) (go_impl_graph_onward_L2_E a0 a1 x42 c0 y)) (fun y => s0 (go_impl_graph_onward_L0_E a0 a1 y)) (fun y => rec (go_impl_graph_onward_L1_E a0 a1 x42 y)) x := by kernel_rfl
  have h0 : (fun c0 y => iter k (loopAt (go_impl_graph_onward_C k) (bodyOf Go.Proofs.Try.f126) [1, 1, 0, 0, 0, 1, 0, 1, 0, 0, 1, 1, 0, 0, 1, 1, 1, 0, 1, 0] [s0, rec] (finPure (go_impl_graph_onward_C k) Go.Proofs.Try.f126.results.toList false (.val (.sl I)))) (go_impl_graph_onward_L2_E a0 a1 x42 c0 y)) = (fun c0 y => go_impl_graph_onward_L2 k a0 a1 (fun y => s0 (go_impl_graph_onward_L0_E a0 a1 y)) (fun y => rec (go_impl_graph_onward_L1_E a0 a1 x42 y)) x42 c0 y) := by
    funext c0 y
    exact go_impl_graph_onward_L2_t k a0 a1 s0 rec x42 c0 y
  rw [h, h0]
def go_impl_graph_onward_L0_G (k : Nat) (a0 : (Option ((Int × (Int × ((List Int) × Unit))) × ((Int × (Int × Unit)) × ((List Int) × ((List (List Int)) × Unit)))))) (a1 : Int) (l_1 : ((List Int)) → (Int × Int × Int) → Option (List Int)) (rec43 : ((List Int)) → Option (List Int)) (x42 : ((List Int))) : Option (List Int) :=
  if a0.isSome = true then
  if (inb (IntKind.i64.wrap ((x42.length : Int) - (1 : Int))) x42.length) = true then
  if (inb (x42.getD (IntKind.i64.wrap ((x42.length : Int) - (1 : Int))).toNat (0 : Int)) (a0.getD (((0 : Int), ((0 : Int), ([], ()))), (((0 : Int), ((0 : Int), ())), ([], ([], ()))))).2.2.2.1.length) = true then
  l_1 x42 ((-1 : Int), (0 : Int), (0 : Int))
  else none
  else none
  else none
def go_impl_graph_onward_L0 (k : Nat) (a0 : (Option ((Int × (Int × ((List Int) × Unit))) × ((Int × (Int × Unit)) × ((List Int) × ((List (List Int)) × Unit)))))) (a1 : Int) : ((List Int)) → Option (List Int) :=
  iter k fun rec43 x42 => go_impl_graph_onward_L0_G k a0 a1 (fun c0 y => go_impl_graph_onward_L1 k a0 a1 rec43 c0 y) rec43 x42
theorem go_impl_graph_onward_L0_t (k : Nat) (a0 : (Option ((Int × (Int × ((List Int) × Unit))) × ((Int × (Int × Unit)) × ((List Int) × ((List (List Int)) × Unit)))))) (a1 : Int) (x : ((List Int))) :
    iter k (loopAt (go_impl_graph_onward_C k) (bodyOf Go.Proofs.Try.f126) [1, 1, 0] [] (finPure (go_impl_graph_onward_C k) Go.Proofs.Try.f126.results.toList false (.val (.sl I)))) (go_impl_graph_onward_L0_E a0 a1 x) = go_impl_graph_onward_L0 k a0 a1 x := by
  refine iter_tie (G := fun rec x => go_impl_graph_onward_L0_G k a0 a1 (fun c0 y => go_impl_graph_onward_L1 k a0 a1 rec c0 y) rec x) (go_impl_graph_onward_L0_E a0 a1) (fun rec x => ?_) k x
  have h : loopAt (go_impl_graph_onward_C k) (bodyOf Go.Proofs.Try.f126) [1, 1, 0] [] (finPure (go_impl_graph_onward_C k) Go.Proofs.Try.f126.results.toList false (.val (.sl I))) rec (go_impl_graph_onward_L0_E a0 a1 x) = go_impl_graph_onward_L0_G k a0 a1 (fun c0 y => iter k (loopAt (go_impl_graph_onward_C k) (bodyOf Go.Proofs.Try.f126) [1, 1, 0, 0, 0, 1, 0, 1, 0] [rec] (finPure (go_impl_graph_onward_C k) Go.Proofs.Try.f126.results.toList false (.val (.sl I)))) (go_impl_graph_onward_L1_E a0 a1 c0 y)) (fun y => rec (go_impl_graph_onward_L0_E a0 a1 y)) x := by kernel_rfl
  have h0 : (fun c0 y => iter k (loopAt (go_impl_graph_onward_C k) (bodyOf Go.Proofs.Try.f126) [1, 1, 0, 0, 0, 1, 0, 1, 0] [rec] (finPure (go_impl_graph_onward_C k) Go.Proofs.Try.f126.results.toList false (.val (.sl I)))) (go_impl_graph_onward_L1_E a0 a1 c0 y)) = (fun c0 y => go_impl_graph_onward_L1 k a0 a1 (fun y => rec (go_impl_graph_onward_L0_E a0 a1 y)) c0 y) := by
    funext c0 y
    exact go_impl_graph_onward_L1_t k a0 a1 rec c0 y
  rw [h, h0]
def go_impl_graph_onward_T (k : Nat) (a0 : (Option ((Int × (Int × ((List Int) × Unit))) × ((Int × (Int × Unit)) × ((List Int) × ((List (List Int)) × Unit)))))) (a1 : Int) (l_0 : ((List Int)) → Option (List Int)) : Option (List Int) :=
  l_0 [a1]
def go_impl_graph_onward (k : Nat) (a0 : (Option ((Int × (Int × ((List Int) × Unit))) × ((Int × (Int × Unit)) × ((List Int) × ((List (List Int)) × Unit)))))) (a1 : Int) : Option (List Int) :=
  go_impl_graph_onward_T k a0 a1 (fun y => go_impl_graph_onward_L0 k a0 a1 y)
theorem go_impl_graph_onward_t (k : Nat) (a0 : (Option ((Int × (Int × ((List Int) × Unit))) × ((Int × (Int × Unit)) × ((List Int) × ((List (List Int)) × Unit)))))) (a1 : Int) : runPure (go_impl_graph_onward_C k) (bodyOf Go.Proofs.Try.f126) Go.Proofs.Try.f126.results.toList false (.pr (.val (.pt (.pair (.pair I (.pair I (.pair (.sl I) .unit))) (.pair (.pair I (.pair I .unit)) (.pair (.sl I) (.pair (.sl (.sl I)) .unit)))))) (.pr (.val I) .un)) (.val (.sl I)) (a0, a1, ()) = go_impl_graph_onward k a0 a1 := by
  have h : runPure (go_impl_graph_onward_C k) (bodyOf Go.Proofs.Try.f126) Go.Proofs.Try.f126.results.toList false (.pr (.val (.pt (.pair (.pair I (.pair I (.pair (.sl I) .unit))) (.pair (.pair I (.pair I .unit)) (.pair (.sl I) (.pair (.sl (.sl I)) .unit)))))) (.pr (.val I) .un)) (.val (.sl I)) (a0, a1, ()) = go_impl_graph_onward_T k a0 a1 (fun y => iter k (loopAt (go_impl_graph_onward_C k) (bodyOf Go.Proofs.Try.f126) [1, 1, 0] [] (finPure (go_impl_graph_onward_C k) Go.Proofs.Try.f126.results.toList false (.val (.sl I)))) (go_impl_graph_onward_L0_E a0 a1 y)) := by kernel_rfl
  have h0 : (fun y => iter k (loopAt (go_impl_graph_onward_C k) (bodyOf Go.Proofs.Try.f126) [1, 1, 0] [] (finPure (go_impl_graph_onward_C k) Go.Proofs.Try.f126.results.toList false (.val (.sl I)))) (go_impl_graph_onward_L0_E a0 a1 y)) = (fun y => go_impl_graph_onward_L0 k a0 a1 y) := by
    funext y
    exact go_impl_graph_onward_L0_t k a0 a1 y
  rw [h, h0]
  rfl
def go_impl_graph_onward_S (k : Nat) : Spec := ⟨(.pr (.val (.pt (.pair (.pair I (.pair I (.pair (.sl I) .unit))) (.pair (.pair I (.pair I .unit)) (.pair (.sl I) (.pair (.sl (.sl I)) .unit)))))) (.pr (.val I) .un)), (.val (.sl I)), false, .inl fun x => go_impl_graph_onward k x.1 x.2.1⟩
theorem go_impl_graph_onward_F (k : Nat) : Fits Go.Proofs.Try.prog (go_impl_graph_onward_C k) 126 Go.Proofs.Try.f126 (bodyOf Go.Proofs.Try.f126) (.pr (.val (.pt (.pair (.pair I (.pair I (.pair (.sl I) .unit))) (.pair (.pair I (.pair I .unit)) (.pair (.sl I) (.pair (.sl (.sl I)) .unit)))))) (.pr (.val I) .un)) (.val (.sl I)) false :=
  ⟨th0, mixed0, by kernel_rfl, Go.Proofs.Try.func126, rfl, by kernel_rfl, rfl, rfl, rfl, rfl, rfl, rfl⟩
theorem go_impl_graph_onward_M (k : Nat) : Meets Go.Proofs.Try.prog 126 (go_impl_graph_onward_S k) :=
  meets_pure (go_impl_graph_onward_F k) (sigs_all (l := [(140, go_slices_Contains_int_S k)]) rfl ⟨go_slices_Contains_int_M k, trivial⟩) rfl fun x => go_impl_graph_onward_t k x.1 x.2.1

/-! ### impl.FewestOnward -/
def go_impl_FewestOnward_C (k : Nat) : Ctx := { th := TH, se := SE, sg := [(125, go_impl_two_S k), (126, go_impl_graph_onward_S k)], mu := [], an := [], dr := [], pre := [], d2 := [], m := 0, fx := [], n := 23, k := k }
def go_impl_FewestOnward (k : Nat) (a0 : (Int × (Int × ((List Int) × Unit)))) (a1 : (Int × (Int × Unit))) (a2 : Int) : Option ((List Int) × (Bool × Unit)) :=
  (go_impl_two k a0 a1 a2 a2).bind fun r1 =>
  if (!r1.2.1) = true then
    some ([], (false, ()))
  else
    (go_impl_graph_onward k r1.1 a2).bind fun r2 =>
    some (r2, (true, ()))
theorem go_impl_FewestOnward_t (k : Nat) (a0 : (Int × (Int × ((List Int) × Unit)))) (a1 : (Int × (Int × Unit))) (a2 : Int) : runPure (go_impl_FewestOnward_C k) (bodyOf Go.Proofs.Try.f58) Go.Proofs.Try.f58.results.toList true (.pr (.val (.pair I (.pair I (.pair (.sl I) .unit)))) (.pr (.val (.pair I (.pair I .unit))) (.pr (.val I) .un))) (.pr (.val (.sl I)) (.pr (.val .bool) .un)) (a0, a1, a2, ()) = go_impl_FewestOnward k a0 a1 a2 := by kernel_rfl
def go_impl_FewestOnward_S (k : Nat) : Spec := ⟨(.pr (.val (.pair I (.pair I (.pair (.sl I) .unit)))) (.pr (.val (.pair I (.pair I .unit))) (.pr (.val I) .un))), (.pr (.val (.sl I)) (.pr (.val .bool) .un)), true, .inl fun x => go_impl_FewestOnward k x.1 x.2.1 x.2.2.1⟩
theorem go_impl_FewestOnward_F (k : Nat) : Fits Go.Proofs.Try.prog (go_impl_FewestOnward_C k) 58 Go.Proofs.Try.f58 (bodyOf Go.Proofs.Try.f58) (.pr (.val (.pair I (.pair I (.pair (.sl I) .unit)))) (.pr (.val (.pair I (.pair I .unit))) (.pr (.val I) .un))) (.pr (.val (.sl I)) (.pr (.val .bool) .un)) true :=
  ⟨th0, mixed0, by kernel_rfl, Go.Proofs.Try.func58, rfl, by kernel_rfl, rfl, rfl, rfl, rfl, rfl, rfl⟩
theorem go_impl_FewestOnward_M (k : Nat) : Meets Go.Proofs.Try.prog 58 (go_impl_FewestOnward_S k) :=
  meets_pure (go_impl_FewestOnward_F k) (sigs_all (l := [(125, go_impl_two_S k), (126, go_impl_graph_onward_S k)]) rfl ⟨go_impl_two_M k, ⟨go_impl_graph_onward_M k, trivial⟩⟩) rfl fun x => go_impl_FewestOnward_t k x.1 x.2.1 x.2.2.1

/-! ### spec.toOnward -/
def go_spec_toOnward_C (k : Nat) : Ctx := { th := TH, se := SE, sg := [(120, go_spec_boLeaps_S k), (127, go_spec_l1Has_S k)], mu := [], an := [(3, [(3, false), (9, false), (15, false), (16, false), (17, false)])], dr := [], pre := [], d2 := [], m := 0, fx := [], n := 29, k := k }
def go_spec_toOnward_L0_E (a0 : (Int × (Int × ((List Int) × Unit)))) (a1 : (Int × (Int × Unit))) (a2 : Int) (a3 : (List Int)) (r1 : (List Int)) (x8 : (Int × Int)) : St :=
  ⟨[(3, .one (.val (.sl I) a3), []), (9, .one (.val I x8.1), []), (15, .one (.val (.sl I) r1), []), (16, .one (.val I (r1.length : Int)), []), (17, .one (.val I x8.2), [])], [], []⟩
def go_spec_toOnward_L0_G (k : Nat) (a0 : (Int × (Int × ((List Int) × Unit)))) (a1 : (Int × (Int × Unit))) (a2 : Int) (a3 : (List Int)) (r1 : (List Int)) (rec9 : (Int × Int) → Option Int) (x8 : (Int × Int)) : Option Int :=
  if (decide (x8.2 < (r1.length : Int))) = true then
    if (inb x8.2 r1.length) = true then
    (go_spec_l1Has k a3 (r1.getD x8.2.toNat (0 : Int))).bind fun r10 =>
    if (!r10) = true then
      rec9 ((IntKind.i64.wrap (x8.1 + (1 : Int))), (IntKind.i64.wrap (x8.2 + (1 : Int))))
    else
      rec9 (x8.1, (IntKind.i64.wrap (x8.2 + (1 : Int))))
    else none
  else
    some x8.1
def go_spec_toOnward_L0 (k : Nat) (a0 : (Int × (Int × ((List Int) × Unit)))) (a1 : (Int × (Int × Unit))) (a2 : Int) (a3 : (List Int)) (r1 : (List Int)) : (Int × Int) → Option Int :=
  iter k fun rec9 x8 => go_spec_toOnward_L0_G k a0 a1 a2 a3 r1 rec9 x8
theorem go_spec_toOnward_L0_t (k : Nat) (a0 : (Int × (Int × ((List Int) × Unit)))) (a1 : (Int × (Int × Unit))) (a2 : Int) (a3 : (List Int)) (r1 : (List Int)) (x : (Int × Int)) :
    iter k (loopAt (go_spec_toOnward_C k) (bodyOf Go.Proofs.Try.f128) [1, 1, 0, 1, 0] [] (finPure (go_spec_toOnward_C k) Go.Proofs.Try.f128.results.toList false (.val I))) (go_spec_toOnward_L0_E a0 a1 a2 a3 r1 x) = go_spec_toOnward_L0 k a0 a1 a2 a3 r1 x := by
  refine iter_tie (G := fun rec x => go_spec_toOnward_L0_G k a0 a1 a2 a3 r1 rec x) (go_spec_toOnward_L0_E a0 a1 a2 a3 r1) (fun rec x => ?_) k x
  have h : loopAt (go_spec_toOnward_C k) (bodyOf Go.Proofs.Try.f128) [1, 1, 0, 1, 0] [] (finPure (go_spec_toOnward_C k) Go.Proofs.Try.f128.results.toList false (.val I)) rec (go_spec_toOnward_L0_E a0 a1 a2 a3 r1 x) = go_spec_toOnward_L0_G k a0 a1 a2 a3 r1 (fun y => rec (go_spec_toOnward_L0_E a0 a1 a2 a3 r1 y)) x := by kernel_rfl
  rw [h]
def go_spec_toOnward_T (k : Nat) (a0 : (Int × (Int × ((List Int) × Unit)))) (a1 : (Int × (Int × Unit))) (a2 : Int) (a3 : (List Int)) (l_0 : (List Int) → (Int × Int) → Option Int) : Option Int :=
  (go_spec_boLeaps k a0 a1 a2).bind fun r1 =>
  l_0 r1 ((0 : Int), (0 : Int))
def go_spec_toOnward (k : Nat) (a0 : (Int × (Int × ((List Int) × Unit)))) (a1 : (Int × (Int × Unit))) (a2 : Int) (a3 : (List Int)) : Option Int :=
  go_spec_toOnward_T k a0 a1 a2 a3 (fun r1 y => go_spec_toOnward_L0 k a0 a1 a2 a3 r1 y)
theorem go_spec_toOnward_t (k : Nat) (a0 : (Int × (Int × ((List Int) × Unit)))) (a1 : (Int × (Int × Unit))) (a2 : Int) (a3 : (List Int)) : runPure (go_spec_toOnward_C k) (bodyOf Go.Proofs.Try.f128) Go.Proofs.Try.f128.results.toList false (.pr (.val (.pair I (.pair I (.pair (.sl I) .unit)))) (.pr (.val (.pair I (.pair I .unit))) (.pr (.val I) (.pr (.val (.sl I)) .un)))) (.val I) (a0, a1, a2, a3, ()) = go_spec_toOnward k a0 a1 a2 a3 := by
  have h : runPure (go_spec_toOnward_C k) (bodyOf Go.Proofs.Try.f128) Go.Proofs.Try.f128.results.toList false (.pr (.val (.pair I (.pair I (.pair (.sl I) .unit)))) (.pr (.val (.pair I (.pair I .unit))) (.pr (.val I) (.pr (.val (.sl I)) .un)))) (.val I) (a0, a1, a2, a3, ()) = go_spec_toOnward_T k a0 a1 a2 a3 (fun r1 y => iter k (loopAt (go_spec_toOnward_C k) (bodyOf Go.Proofs.Try.f128) [1, 1, 0, 1, 0] [] (finPure (go_spec_toOnward_C k) Go.Proofs.Try.f128.results.toList false (.val I))) (go_spec_toOnward_L0_E a0 a1 a2 a3 r1 y)) := by kernel_rfl
  have h0 : (fun r1 y => iter k (loopAt (go_spec_toOnward_C k) (bodyOf Go.Proofs.Try.f128) [1, 1, 0, 1, 0] [] (finPure (go_spec_toOnward_C k) Go.Proofs.Try.f128.results.toList false (.val I))) (go_spec_toOnward_L0_E a0 a1 a2 a3 r1 y)) = (fun r1 y => go_spec_toOnward_L0 k a0 a1 a2 a3 r1 y) := by
    funext r1 y
    exact go_spec_toOnward_L0_t k a0 a1 a2 a3 r1 y
  rw [h, h0]
  rfl
def go_spec_toOnward_S (k : Nat) : Spec := ⟨(.pr (.val (.pair I (.pair I (.pair (.sl I) .unit)))) (.pr (.val (.pair I (.pair I .unit))) (.pr (.val I) (.pr (.val (.sl I)) .un)))), (.val I), false, .inl fun x => go_spec_toOnward k x.1 x.2.1 x.2.2.1 x.2.2.2.1⟩
theorem go_spec_toOnward_F (k : Nat) : Fits Go.Proofs.Try.prog (go_spec_toOnward_C k) 128 Go.Proofs.Try.f128 (bodyOf Go.Proofs.Try.f128) (.pr (.val (.pair I (.pair I (.pair (.sl I) .unit)))) (.pr (.val (.pair I (.pair I .unit))) (.pr (.val I) (.pr (.val (.sl I)) .un)))) (.val I) false :=
  ⟨th0, mixed0, by kernel_rfl, Go.Proofs.Try.func128, rfl, by kernel_rfl, rfl, rfl, rfl, rfl, rfl, rfl⟩
theorem go_spec_toOnward_M (k : Nat) : Meets Go.Proofs.Try.prog 128 (go_spec_toOnward_S k) :=
  meets_pure (go_spec_toOnward_F k) (sigs_all (l := [(120, go_spec_boLeaps_S k), (127, go_spec_l1Has_S k)]) rfl ⟨go_spec_boLeaps_M k, ⟨go_spec_l1Has_M k, trivial⟩⟩) rfl fun x => go_spec_toOnward_t k x.1 x.2.1 x.2.2.1 x.2.2.2.1

/-! ### spec.FewestOnward -/
def go_spec_FewestOnward_C (k : Nat) : Ctx := { th := TH, se := SE, sg := [(116, go_spec_boTwo_S k), (87, go_spec_boHas_S k), (120, go_spec_boLeaps_S k), (127, go_spec_l1Has_S k), (128, go_spec_toOnward_S k)], mu := [25], an := [(4, [(3, false), (4, false), (8, false)]), (6, [(3, false), (4, false), (8, false), (9, false), (10, false), (34, false), (35, false), (36, false)])], dr := [(5, 11)], pre := [], d2 := [], m := 0, fx := [], n := 65, k := k }
def go_spec_FewestOnward_L0_E (a0 : (Int × (Int × ((List Int) × Unit)))) (a1 : (Int × (Int × Unit))) (a2 : Int) (x21 : ((List Int))) : St :=
  ⟨[(3, .one (.val (.pt (.pair I (.pair I (.pair (.sl I) .unit)))) (some a0)), []), (4, .one (.val (.pt (.pair I (.pair I .unit))) (some a1)), []), (8, .one (.own 0), [])], [.arr 3 I x21], []⟩
def go_spec_FewestOnward_L1_E (a0 : (Int × (Int × ((List Int) × Unit)))) (a1 : (Int × (Int × Unit))) (a2 : Int) (x21 : ((List Int))) (r23 : (List Int)) (x35 : (Int × Int × Int)) : St :=
  ⟨[(3, .one (.val (.pt (.pair I (.pair I (.pair (.sl I) .unit)))) (some a0)), []), (4, .one (.val (.pt (.pair I (.pair I .unit))) (some a1)), []), (8, .one (.own 0), []), (9, .one (.val I x35.1), []), (10, .one (.val I x35.2.1), []), (34, .one (.val (.sl I) r23), []), (35, .one (.val I (r23.length : Int)), []), (36, .one (.val I x35.2.2), [])], [.arr 3 I x21], []⟩
def go_spec_FewestOnward_L1_G (k : Nat) (a0 : (Int × (Int × ((List Int) × Unit)))) (a1 : (Int × (Int × Unit))) (a2 : Int) (x21 : ((List Int))) (r23 : (List Int)) (rec22 : ((List Int)) → Option ((List Int) × (Bool × Unit))) (rec36 : (Int × Int × Int) → Option ((List Int) × (Bool × Unit))) (x35 : (Int × Int × Int)) : Option ((List Int) × (Bool × Unit)) :=
  if (decide (x35.2.2 < (r23.length : Int))) = true then
    if (inb x35.2.2 r23.length) = true then
    (go_spec_l1Has k x21 (r23.getD x35.2.2.toNat (0 : Int))).bind fun r37 =>
    if r37 = true then
      rec36 (x35.1, x35.2.1, (IntKind.i64.wrap (x35.2.2 + (1 : Int))))
    else
      (go_spec_toOnward k a0 a1 (r23.getD x35.2.2.toNat (0 : Int)) x21).bind fun r38 =>
      if ((decide (x35.1 < (0 : Int))) || (decide (r38 < x35.2.1))) = true then
        rec36 ((r23.getD x35.2.2.toNat (0 : Int)), r38, (IntKind.i64.wrap (x35.2.2 + (1 : Int))))
      else
        rec36 (x35.1, x35.2.1, (IntKind.i64.wrap (x35.2.2 + (1 : Int))))
    else none
  else
    if (decide (x35.1 < (0 : Int))) = true then
      some (x21, (true, ()))
    else
      if (decide (x21.length + [x35.1].length ≤ LIM)) = true then
      rec22 (x21 ++ [x35.1])
      else none
def go_spec_FewestOnward_L1 (k : Nat) (a0 : (Int × (Int × ((List Int) × Unit)))) (a1 : (Int × (Int × Unit))) (a2 : Int) (rec22 : ((List Int)) → Option ((List Int) × (Bool × Unit))) (x21 : ((List Int))) (r23 : (List Int)) : (Int × Int × Int) → Option ((List Int) × (Bool × Unit)) :=
  iter k fun rec36 x35 => go_spec_FewestOnward_L1_G k a0 a1 a2 x21 r23 rec22 rec36 x35
theorem go_spec_FewestOnward_L1_t (k : Nat) (a0 : (Int × (Int × ((List Int) × Unit)))) (a1 : (Int × (Int × Unit))) (a2 : Int) (s0 : St → Option ((List Int) × (Bool × Unit))) (x21 : ((List Int))) (r23 : (List Int)) (x : (Int × Int × Int)) :
    iter k (loopAt (go_spec_FewestOnward_C k) (bodyOf Go.Proofs.Try.f59) [1, 1, 1, 0, 0, 0, 1, 0, 1, 0] [s0] (finPure (go_spec_FewestOnward_C k) Go.Proofs.Try.f59.results.toList true (.pr (.val (.sl I)) (.pr (.val .bool) .un)))) (go_spec_FewestOnward_L1_E a0 a1 a2 x21 r23 x) = go_spec_FewestOnward_L1 k a0 a1 a2 (fun y => s0 (go_spec_FewestOnward_L0_E a0 a1 a2 y)) x21 r23 x := by
  refine iter_tie (G := fun rec x => go_spec_FewestOnward_L1_G k a0 a1 a2 x21 r23 (fun y => s0 (go_spec_FewestOnward_L0_E a0 a1 a2 y)) rec x) (go_spec_FewestOnward_L1_E a0 a1 a2 x21 r23) (fun rec x => ?_) k x
  have h : loopAt (go_spec_FewestOnward_C k) (bodyOf Go.Proofs.Try.f59) [1, 1, 1, 0, 0, 0, 1, 0, 1, 0] [s0] (finPure (go_spec_FewestOnward_C k) Go.Proofs.Try.f59.results.toList true (.pr (.val (.sl I)) (.pr (.val .bool) .un))) rec (go_spec_FewestOnward_L1_E a0 a1 a2 x21 r23 x) = go_spec_FewestOnward_L1_G k a0 a1 a2 x21 r23 (fun y => s0 (go_spec_FewestOnward_L0_E a0 a1 a2 y)) (fun y => rec (go_spec_FewestOnward_L1_E a0 a1 a2 x21 r23 y)) x := by kernel_rfl
  rw [h]
def go_spec_FewestOnward_L0_G (k : Nat) (a0 : (Int × (Int × ((List Int) × Unit)))) (a1 : (Int × (Int × Unit))) (a2 : Int) (l_1 : ((List Int)) → (List Int) → (Int × Int × Int) → Option ((List Int) × (Bool × Unit))) (rec22 : ((List Int)) → Option ((List Int) × (Bool × Unit))) (x21 : ((List Int))) : Option ((List Int) × (Bool × Unit)) :=
  if (inb (IntKind.i64.wrap ((x21.length : Int) - (1 : Int))) x21.length) = true then
  (go_spec_boLeaps k a0 a1 (x21.getD (IntKind.i64.wrap ((x21.length : Int) - (1 : Int))).toNat (0 : Int))).bind fun r23 =>
  l_1 x21 r23 ((-1 : Int), (0 : Int), (0 : Int))
  else none
def go_spec_FewestOnward_L0 (k : Nat) (a0 : (Int × (Int × ((List Int) × Unit)))) (a1 : (Int × (Int × Unit))) (a2 : Int) : ((List Int)) → Option ((List Int) × (Bool × Unit)) :=
  iter k fun rec22 x21 => go_spec_FewestOnward_L0_G k a0 a1 a2 (fun c0 c1 y => go_spec_FewestOnward_L1 k a0 a1 a2 rec22 c0 c1 y) rec22 x21
theorem go_spec_FewestOnward_L0_t (k : Nat) (a0 : (Int × (Int × ((List Int) × Unit)))) (a1 : (Int × (Int × Unit))) (a2 : Int) (x : ((List Int))) :
    iter k (loopAt (go_spec_FewestOnward_C k) (bodyOf Go.Proofs.Try.f59) [1, 1, 1, 0] [] (finPure (go_spec_FewestOnward_C k) Go.Proofs.Try.f59.results.toList true (.pr (.val (.sl I)) (.pr (.val .bool) .un)))) (go_spec_FewestOnward_L0_E a0 a1 a2 x) = go_spec_FewestOnward_L0 k a0 a1 a2 x := by
  refine iter_tie (G := fun rec x => go_spec_FewestOnward_L0_G k a0 a1 a2 (fun c0 c1 y => go_spec_FewestOnward_L1 k a0 a1 a2 rec c0 c1 y) rec x) (go_spec_FewestOnward_L0_E a0 a1 a2) (fun rec x => ?_) k x
  have h : loopAt (go_spec_FewestOnward_C k) (bodyOf Go.Proofs.Try.f59) [1, 1, 1, 0] [] (finPure (go_spec_FewestOnward_C k) Go.Proofs.Try.f59.results.toList true (.pr (.val (.sl I)) (.pr (.val .bool) .un))) rec (go_spec_FewestOnward_L0_E a0 a1 a2 x) = go_spec_FewestOnward_L0_G k a0 a1 a2 (fun c0 c1 y => iter k (loopAt (go_spec_FewestOnward_C k) (bodyOf Go.Proofs.Try.f59) [1, 1, 1, 0, 0, 0, 1, 0, 1, 0] [rec] (finPure (go_spec_FewestOnward_C k) Go.Proofs.Try.f59.results.toList true (.pr (.val (.sl I)) (.pr (.val .bool) .un)))) (go_spec_FewestOnward_L1_E a0 a1 a2 c0 c1 y)) (fun y => rec (go_spec_FewestOnward_L0_E a0 a1 a2 y)) x := by kernel_rfl
  have h0 : (fun c0 c1 y => iter k (loopAt (go_spec_FewestOnward_C k) (bodyOf Go.Proofs.Try.f59) [1, 1, 1, 0, 0, 0, 1, 0, 1, 0] [rec] (finPure (go_spec_FewestOnward_C k) Go.Proofs.Try.f59.results.toList true (.pr (.val (.sl I)) (.pr (.val .bool) .un)))) (go_spec_FewestOnward_L1_E a0 a1 a2 c0 c1 y)) = (fun c0 c1 y => go_spec_FewestOnward_L1 k a0 a1 a2 (fun y => rec (go_spec_FewestOnward_L0_E a0 a1 a2 y)) c0 c1 y) := by
    funext c0 c1 y
    exact go_spec_FewestOnward_L1_t k a0 a1 a2 rec c0 c1 y
  rw [h, h0]
def go_spec_FewestOnward_T (k : Nat) (a0 : (Int × (Int × ((List Int) × Unit)))) (a1 : (Int × (Int × Unit))) (a2 : Int) (l_0 : ((List Int)) → Option ((List Int) × (Bool × Unit))) : Option ((List Int) × (Bool × Unit)) :=
  (go_spec_boTwo k a0 a1).bind fun r1 =>
  (if (!(!r1)) = true then go_spec_boHas k a0 a2 else some false).bind fun r2 =>
  if ((!r1) || (!r2)) = true then
    some ([], (false, ()))
  else
    l_0 [a2]
def go_spec_FewestOnward (k : Nat) (a0 : (Int × (Int × ((List Int) × Unit)))) (a1 : (Int × (Int × Unit))) (a2 : Int) : Option ((List Int) × (Bool × Unit)) :=
  go_spec_FewestOnward_T k a0 a1 a2 (fun y => go_spec_FewestOnward_L0 k a0 a1 a2 y)
theorem go_spec_FewestOnward_t (k : Nat) (a0 : (Int × (Int × ((List Int) × Unit)))) (a1 : (Int × (Int × Unit))) (a2 : Int) : runPure (go_spec_FewestOnward_C k) (bodyOf Go.Proofs.Try.f59) Go.Proofs.Try.f59.results.toList true (.pr (.val (.pair I (.pair I (.pair (.sl I) .unit)))) (.pr (.val (.pair I (.pair I .unit))) (.pr (.val I) .un))) (.pr (.val (.sl I)) (.pr (.val .bool) .un)) (a0, a1, a2, ()) = go_spec_FewestOnward k a0 a1 a2 := by
  have h : runPure (go_spec_FewestOnward_C k) (bodyOf Go.Proofs.Try.f59) Go.Proofs.Try.f59.results.toList true (.pr (.val (.pair I (.pair I (.pair (.sl I) .unit)))) (.pr (.val (.pair I (.pair I .unit))) (.pr (.val I) .un))) (.pr (.val (.sl I)) (.pr (.val .bool) .un)) (a0, a1, a2, ()) = go_spec_FewestOnward_T k a0 a1 a2 (fun y => iter k (loopAt (go_spec_FewestOnward_C k) (bodyOf Go.Proofs.Try.f59) [1, 1, 1, 0] [] (finPure (go_spec_FewestOnward_C k) Go.Proofs.Try.f59.results.toList true (.pr (.val (.sl I)) (.pr (.val .bool) .un)))) (go_spec_FewestOnward_L0_E a0 a1 a2 y)) := by kernel_rfl
  have h0 : (fun y => iter k (loopAt (go_spec_FewestOnward_C k) (bodyOf Go.Proofs.Try.f59) [1, 1, 1, 0] [] (finPure (go_spec_FewestOnward_C k) Go.Proofs.Try.f59.results.toList true (.pr (.val (.sl I)) (.pr (.val .bool) .un)))) (go_spec_FewestOnward_L0_E a0 a1 a2 y)) = (fun y => go_spec_FewestOnward_L0 k a0 a1 a2 y) := by
    funext y
    exact go_spec_FewestOnward_L0_t k a0 a1 a2 y
  rw [h, h0]
  rfl
def go_spec_FewestOnward_S (k : Nat) : Spec := ⟨(.pr (.val (.pair I (.pair I (.pair (.sl I) .unit)))) (.pr (.val (.pair I (.pair I .unit))) (.pr (.val I) .un))), (.pr (.val (.sl I)) (.pr (.val .bool) .un)), true, .inl fun x => go_spec_FewestOnward k x.1 x.2.1 x.2.2.1⟩
theorem go_spec_FewestOnward_F (k : Nat) : Fits Go.Proofs.Try.prog (go_spec_FewestOnward_C k) 59 Go.Proofs.Try.f59 (bodyOf Go.Proofs.Try.f59) (.pr (.val (.pair I (.pair I (.pair (.sl I) .unit)))) (.pr (.val (.pair I (.pair I .unit))) (.pr (.val I) .un))) (.pr (.val (.sl I)) (.pr (.val .bool) .un)) true :=
  ⟨th0, mixed0, by kernel_rfl, Go.Proofs.Try.func59, rfl, by kernel_rfl, rfl, rfl, rfl, rfl, rfl, rfl⟩
theorem go_spec_FewestOnward_M (k : Nat) : Meets Go.Proofs.Try.prog 59 (go_spec_FewestOnward_S k) :=
  meets_pure (go_spec_FewestOnward_F k) (sigs_all (l := [(116, go_spec_boTwo_S k), (87, go_spec_boHas_S k), (120, go_spec_boLeaps_S k), (127, go_spec_l1Has_S k), (128, go_spec_toOnward_S k)]) rfl ⟨go_spec_boTwo_M k, ⟨go_spec_boHas_M k, ⟨go_spec_boLeaps_M k, ⟨go_spec_l1Has_M k, ⟨go_spec_toOnward_M k, trivial⟩⟩⟩⟩⟩) rfl fun x => go_spec_FewestOnward_t k x.1 x.2.1 x.2.2.1

/-! ### impl.LeapsFrom -/
def go_impl_LeapsFrom_C (k : Nat) : Ctx := { th := TH, se := SE, sg := [(109, go_impl_graphOf_S k), (91, go_impl_Board_has_S k), (98, go_slices_Clone_int_S k)], mu := [], an := [], dr := [], pre := [], d2 := [], m := 0, fx := [], n := 32, k := k }
def go_impl_LeapsFrom (k : Nat) (a0 : (Int × (Int × ((List Int) × Unit)))) (a1 : (Int × (Int × Unit))) (a2 : Int) : Option ((List Int) × (Bool × Unit)) :=
  (go_impl_graphOf k a0 a1).bind fun r1 =>
  (if (!(!r1.2.1)) = true then go_impl_Board_has k a0 a2 else some false).bind fun r2 =>
  if ((!r1.2.1) || (!r2)) = true then
    some ([], (false, ()))
  else
    if r1.1.isSome = true then
    if (inb a2 (r1.1.getD (((0 : Int), ((0 : Int), ([], ()))), (((0 : Int), ((0 : Int), ())), ([], ([], ()))))).2.2.2.1.length) = true then
    (go_slices_Clone_int k ((r1.1.getD (((0 : Int), ((0 : Int), ([], ()))), (((0 : Int), ((0 : Int), ())), ([], ([], ()))))).2.2.2.1.getD a2.toNat [])).bind fun r3 =>
    some (r3, (true, ()))
    else none
    else none
theorem go_impl_LeapsFrom_t (k : Nat) (a0 : (Int × (Int × ((List Int) × Unit)))) (a1 : (Int × (Int × Unit))) (a2 : Int) : runPure (go_impl_LeapsFrom_C k) (bodyOf Go.Proofs.Try.f60) Go.Proofs.Try.f60.results.toList true (.pr (.val (.pair I (.pair I (.pair (.sl I) .unit)))) (.pr (.val (.pair I (.pair I .unit))) (.pr (.val I) .un))) (.pr (.val (.sl I)) (.pr (.val .bool) .un)) (a0, a1, a2, ()) = go_impl_LeapsFrom k a0 a1 a2 := by kernel_rfl
def go_impl_LeapsFrom_S (k : Nat) : Spec := ⟨(.pr (.val (.pair I (.pair I (.pair (.sl I) .unit)))) (.pr (.val (.pair I (.pair I .unit))) (.pr (.val I) .un))), (.pr (.val (.sl I)) (.pr (.val .bool) .un)), true, .inl fun x => go_impl_LeapsFrom k x.1 x.2.1 x.2.2.1⟩
theorem go_impl_LeapsFrom_F (k : Nat) : Fits Go.Proofs.Try.prog (go_impl_LeapsFrom_C k) 60 Go.Proofs.Try.f60 (bodyOf Go.Proofs.Try.f60) (.pr (.val (.pair I (.pair I (.pair (.sl I) .unit)))) (.pr (.val (.pair I (.pair I .unit))) (.pr (.val I) .un))) (.pr (.val (.sl I)) (.pr (.val .bool) .un)) true :=
  ⟨th0, mixed0, by kernel_rfl, Go.Proofs.Try.func60, rfl, by kernel_rfl, rfl, rfl, rfl, rfl, rfl, rfl⟩
theorem go_impl_LeapsFrom_M (k : Nat) : Meets Go.Proofs.Try.prog 60 (go_impl_LeapsFrom_S k) :=
  meets_pure (go_impl_LeapsFrom_F k) (sigs_all (l := [(109, go_impl_graphOf_S k), (91, go_impl_Board_has_S k), (98, go_slices_Clone_int_S k)]) rfl ⟨go_impl_graphOf_M k, ⟨go_impl_Board_has_M k, ⟨go_slices_Clone_int_M k, trivial⟩⟩⟩) rfl fun x => go_impl_LeapsFrom_t k x.1 x.2.1 x.2.2.1

/-! ### laws.yHas -/
def go_laws_yHas_C (k : Nat) : Ctx := { th := TH, se := SE, sg := [], mu := [], an := [(2, [(1, false), (7, false), (8, false), (9, false)])], dr := [], pre := [], d2 := [], m := 0, fx := [], n := 17, k := k }
def go_laws_yHas_L0_E (a0 : (List Int)) (a1 : Int) (x3 : (Int)) : St :=
  ⟨[(1, .one (.val I a1), []), (7, .one (.val (.sl I) a0), []), (8, .one (.val I (a0.length : Int)), []), (9, .one (.val I x3), [])], [], []⟩
def go_laws_yHas_L0_G (k : Nat) (a0 : (List Int)) (a1 : Int) (rec4 : (Int) → Option Bool) (x3 : (Int)) : Option Bool :=
  if (decide (x3 < (a0.length : Int))) = true then
    if (inb x3 a0.length) = true then
    if (decide ((a0.getD x3.toNat (0 : Int)) = a1)) = true then
      some true
    else
      rec4 (IntKind.i64.wrap (x3 + (1 : Int)))
    else none
  else
    some false
def go_laws_yHas_L0 (k : Nat) (a0 : (List Int)) (a1 : Int) : (Int) → Option Bool :=
  iter k fun rec4 x3 => go_laws_yHas_L0_G k a0 a1 rec4 x3
theorem go_laws_yHas_L0_t (k : Nat) (a0 : (List Int)) (a1 : Int) (x : (Int)) :
    iter k (loopAt (go_laws_yHas_C k) (bodyOf Go.Proofs.Try.f61) [1, 0, 1, 0] [] (finPure (go_laws_yHas_C k) Go.Proofs.Try.f61.results.toList false (.val .bool))) (go_laws_yHas_L0_E a0 a1 x) = go_laws_yHas_L0 k a0 a1 x := by
  refine iter_tie (G := fun rec x => go_laws_yHas_L0_G k a0 a1 rec x) (go_laws_yHas_L0_E a0 a1) (fun rec x => ?_) k x
  have h : loopAt (go_laws_yHas_C k) (bodyOf Go.Proofs.Try.f61) [1, 0, 1, 0] [] (finPure (go_laws_yHas_C k) Go.Proofs.Try.f61.results.toList false (.val .bool)) rec (go_laws_yHas_L0_E a0 a1 x) = go_laws_yHas_L0_G k a0 a1 (fun y => rec (go_laws_yHas_L0_E a0 a1 y)) x := by kernel_rfl
  rw [h]
def go_laws_yHas_T (k : Nat) (a0 : (List Int)) (a1 : Int) (l_0 : (Int) → Option Bool) : Option Bool :=
  l_0 (0 : Int)
def go_laws_yHas (k : Nat) (a0 : (List Int)) (a1 : Int) : Option Bool :=
  go_laws_yHas_T k a0 a1 (fun y => go_laws_yHas_L0 k a0 a1 y)
theorem go_laws_yHas_t (k : Nat) (a0 : (List Int)) (a1 : Int) : runPure (go_laws_yHas_C k) (bodyOf Go.Proofs.Try.f61) Go.Proofs.Try.f61.results.toList false (.pr (.val (.sl I)) (.pr (.val I) .un)) (.val .bool) (a0, a1, ()) = go_laws_yHas k a0 a1 := by
  have h : runPure (go_laws_yHas_C k) (bodyOf Go.Proofs.Try.f61) Go.Proofs.Try.f61.results.toList false (.pr (.val (.sl I)) (.pr (.val I) .un)) (.val .bool) (a0, a1, ()) = go_laws_yHas_T k a0 a1 (fun y => iter k (loopAt (go_laws_yHas_C k) (bodyOf Go.Proofs.Try.f61) [1, 0, 1, 0] [] (finPure (go_laws_yHas_C k) Go.Proofs.Try.f61.results.toList false (.val .bool))) (go_laws_yHas_L0_E a0 a1 y)) := by kernel_rfl
  have h0 : (fun y => iter k (loopAt (go_laws_yHas_C k) (bodyOf Go.Proofs.Try.f61) [1, 0, 1, 0] [] (finPure (go_laws_yHas_C k) Go.Proofs.Try.f61.results.toList false (.val .bool))) (go_laws_yHas_L0_E a0 a1 y)) = (fun y => go_laws_yHas_L0 k a0 a1 y) := by
    funext y
    exact go_laws_yHas_L0_t k a0 a1 y
  rw [h, h0]
  rfl
def go_laws_yHas_S (k : Nat) : Spec := ⟨(.pr (.val (.sl I)) (.pr (.val I) .un)), (.val .bool), false, .inl fun x => go_laws_yHas k x.1 x.2.1⟩
theorem go_laws_yHas_F (k : Nat) : Fits Go.Proofs.Try.prog (go_laws_yHas_C k) 61 Go.Proofs.Try.f61 (bodyOf Go.Proofs.Try.f61) (.pr (.val (.sl I)) (.pr (.val I) .un)) (.val .bool) false :=
  ⟨th0, mixed0, by kernel_rfl, Go.Proofs.Try.func61, rfl, by kernel_rfl, rfl, rfl, rfl, rfl, rfl, rfl⟩
theorem go_laws_yHas_M (k : Nat) : Meets Go.Proofs.Try.prog 61 (go_laws_yHas_S k) :=
  meets_pure (go_laws_yHas_F k) (sigs_all (l := []) rfl trivial) rfl fun x => go_laws_yHas_t k x.1 x.2.1

/-! ### spec.NumbersOfWalk -/
def go_spec_NumbersOfWalk_C (k : Nat) : Ctx := { th := TH, se := SE, sg := [(116, go_spec_boTwo_S k), (129, go_spec_toWalk_S k)], mu := [], an := [(5, [(8, false), (28, false), (29, false), (30, false)])], dr := [], pre := [], d2 := [], m := 0, fx := [], n := 42, k := k }
def go_spec_NumbersOfWalk_L0_E (a0 : (Int × (Int × ((List Int) × Unit)))) (a1 : (Int × (Int × Unit))) (a2 : (List Int)) (x7 : (Int × (List Int))) : St :=
  ⟨[(8, .one (.own 0), []), (28, .one (.val (.sl I) a2), []), (29, .one (.val I (a2.length : Int)), []), (30, .one (.val I x7.1), [])], [.arr 3 I x7.2], []⟩
def go_spec_NumbersOfWalk_L0_G (k : Nat) (a0 : (Int × (Int × ((List Int) × Unit)))) (a1 : (Int × (Int × Unit))) (a2 : (List Int)) (rec8 : (Int × (List Int)) → Option ((List Int) × (Bool × Unit))) (x7 : (Int × (List Int))) : Option ((List Int) × (Bool × Unit)) :=
  if (decide (x7.1 < (a2.length : Int))) = true then
    if (inb x7.1 a2.length) = true then
    if (inb (a2.getD x7.1.toNat (0 : Int)) x7.2.length) = true then
    rec8 ((IntKind.i64.wrap (x7.1 + (1 : Int))), (x7.2.set (a2.getD x7.1.toNat (0 : Int)).toNat (IntKind.i64.wrap (x7.1 + (1 : Int)))))
    else none
    else none
  else
    some (x7.2, (true, ()))
def go_spec_NumbersOfWalk_L0 (k : Nat) (a0 : (Int × (Int × ((List Int) × Unit)))) (a1 : (Int × (Int × Unit))) (a2 : (List Int)) : (Int × (List Int)) → Option ((List Int) × (Bool × Unit)) :=
  iter k fun rec8 x7 => go_spec_NumbersOfWalk_L0_G k a0 a1 a2 rec8 x7
theorem go_spec_NumbersOfWalk_L0_t (k : Nat) (a0 : (Int × (Int × ((List Int) × Unit)))) (a1 : (Int × (Int × Unit))) (a2 : (List Int)) (x : (Int × (List Int))) :
    iter k (loopAt (go_spec_NumbersOfWalk_C k) (bodyOf Go.Proofs.Try.f62) [1, 1, 1, 0, 1, 0] [] (finPure (go_spec_NumbersOfWalk_C k) Go.Proofs.Try.f62.results.toList true (.pr (.val (.sl I)) (.pr (.val .bool) .un)))) (go_spec_NumbersOfWalk_L0_E a0 a1 a2 x) = go_spec_NumbersOfWalk_L0 k a0 a1 a2 x := by
  refine iter_tie (G := fun rec x => go_spec_NumbersOfWalk_L0_G k a0 a1 a2 rec x) (go_spec_NumbersOfWalk_L0_E a0 a1 a2) (fun rec x => ?_) k x
  have h : loopAt (go_spec_NumbersOfWalk_C k) (bodyOf Go.Proofs.Try.f62) [1, 1, 1, 0, 1, 0] [] (finPure (go_spec_NumbersOfWalk_C k) Go.Proofs.Try.f62.results.toList true (.pr (.val (.sl I)) (.pr (.val .bool) .un))) rec (go_spec_NumbersOfWalk_L0_E a0 a1 a2 x) = go_spec_NumbersOfWalk_L0_G k a0 a1 a2 (fun y => rec (go_spec_NumbersOfWalk_L0_E a0 a1 a2 y)) x := by kernel_rfl
  rw [h]
def go_spec_NumbersOfWalk_T (k : Nat) (a0 : (Int × (Int × ((List Int) × Unit)))) (a1 : (Int × (Int × Unit))) (a2 : (List Int)) (l_0 : (Int × (List Int)) → Option ((List Int) × (Bool × Unit))) : Option ((List Int) × (Bool × Unit)) :=
  (go_spec_boTwo k a0 a1).bind fun r1 =>
  (if (!(!r1)) = true then go_spec_toWalk k a0 a1 a2 else some false).bind fun r2 =>
  if ((!r1) || (!r2)) = true then
    some ([], (false, ()))
  else
    if (decide (0 ≤ (IntKind.i64.wrap (a0.1 * a0.2.1)) ∧ (IntKind.i64.wrap (a0.1 * a0.2.1)) ≤ (LIM : Int))) = true then
    l_0 ((0 : Int), (List.replicate (IntKind.i64.wrap (a0.1 * a0.2.1)).toNat (0 : Int)))
    else none
def go_spec_NumbersOfWalk (k : Nat) (a0 : (Int × (Int × ((List Int) × Unit)))) (a1 : (Int × (Int × Unit))) (a2 : (List Int)) : Option ((List Int) × (Bool × Unit)) :=
  go_spec_NumbersOfWalk_T k a0 a1 a2 (fun y => go_spec_NumbersOfWalk_L0 k a0 a1 a2 y)
theorem go_spec_NumbersOfWalk_t (k : Nat) (a0 : (Int × (Int × ((List Int) × Unit)))) (a1 : (Int × (Int × Unit))) (a2 : (List Int)) : runPure (go_spec_NumbersOfWalk_C k) (bodyOf Go.Proofs.Try.f62) Go.Proofs.Try.f62.results.toList true (.pr (.val (.pair I (.pair I (.pair (.sl I) .unit)))) (.pr (.val (.pair I (.pair I .unit))) (.pr (.val (.sl I)) .un))) (.pr (.val (.sl I)) (.pr (.val .bool) .un)) (a0, a1, a2, ()) = go_spec_NumbersOfWalk k a0 a1 a2 := by
  have h : runPure (go_spec_NumbersOfWalk_C k) (bodyOf Go.Proofs.Try.f62) Go.Proofs.Try.f62.results.toList true (.pr (.val (.pair I (.pair I (.pair (.sl I) .unit)))) (.pr (.val (.pair I (.pair I .unit))) (.pr (.val (.sl I)) .un))) (.pr (.val (.sl I)) (.pr (.val .bool) .un)) (a0, a1, a2, ()) = go_spec_NumbersOfWalk_T k a0 a1 a2 (fun y => iter k (loopAt (go_spec_NumbersOfWalk_C k) (bodyOf Go.Proofs.Try.f62) [1, 1, 1, 0, 1, 0] [] (finPure (go_spec_NumbersOfWalk_C k) Go.Proofs.Try.f62.results.toList true (.pr (.val (.sl I)) (.pr (.val .bool) .un)))) (go_spec_NumbersOfWalk_L0_E a0 a1 a2 y)) := by kernel_rfl
  have h0 : (fun y => iter k (loopAt (go_spec_NumbersOfWalk_C k) (bodyOf Go.Proofs.Try.f62) [1, 1, 1, 0, 1, 0] [] (finPure (go_spec_NumbersOfWalk_C k) Go.Proofs.Try.f62.results.toList true (.pr (.val (.sl I)) (.pr (.val .bool) .un)))) (go_spec_NumbersOfWalk_L0_E a0 a1 a2 y)) = (fun y => go_spec_NumbersOfWalk_L0 k a0 a1 a2 y) := by
    funext y
    exact go_spec_NumbersOfWalk_L0_t k a0 a1 a2 y
  rw [h, h0]
  rfl
def go_spec_NumbersOfWalk_S (k : Nat) : Spec := ⟨(.pr (.val (.pair I (.pair I (.pair (.sl I) .unit)))) (.pr (.val (.pair I (.pair I .unit))) (.pr (.val (.sl I)) .un))), (.pr (.val (.sl I)) (.pr (.val .bool) .un)), true, .inl fun x => go_spec_NumbersOfWalk k x.1 x.2.1 x.2.2.1⟩
theorem go_spec_NumbersOfWalk_F (k : Nat) : Fits Go.Proofs.Try.prog (go_spec_NumbersOfWalk_C k) 62 Go.Proofs.Try.f62 (bodyOf Go.Proofs.Try.f62) (.pr (.val (.pair I (.pair I (.pair (.sl I) .unit)))) (.pr (.val (.pair I (.pair I .unit))) (.pr (.val (.sl I)) .un))) (.pr (.val (.sl I)) (.pr (.val .bool) .un)) true :=
  ⟨th0, mixed0, by kernel_rfl, Go.Proofs.Try.func62, rfl, by kernel_rfl, rfl, rfl, rfl, rfl, rfl, rfl⟩
theorem go_spec_NumbersOfWalk_M (k : Nat) : Meets Go.Proofs.Try.prog 62 (go_spec_NumbersOfWalk_S k) :=
  meets_pure (go_spec_NumbersOfWalk_F k) (sigs_all (l := [(116, go_spec_boTwo_S k), (129, go_spec_toWalk_S k)]) rfl ⟨go_spec_boTwo_M k, ⟨go_spec_toWalk_M k, trivial⟩⟩) rfl fun x => go_spec_NumbersOfWalk_t k x.1 x.2.1 x.2.2.1

/-! ### spec.IsWalk -/
def go_spec_IsWalk_C (k : Nat) : Ctx := { th := TH, se := SE, sg := [(116, go_spec_boTwo_S k), (129, go_spec_toWalk_S k)], mu := [], an := [], dr := [], pre := [], d2 := [], m := 0, fx := [], n := 16, k := k }
def go_spec_IsWalk (k : Nat) (a0 : (Int × (Int × ((List Int) × Unit)))) (a1 : (Int × (Int × Unit))) (a2 : (List Int)) : Option (Bool × (Bool × Unit)) :=
  (go_spec_boTwo k a0 a1).bind fun r1 =>
  if (!r1) = true then
    some (false, (false, ()))
  else
    (go_spec_toWalk k a0 a1 a2).bind fun r2 =>
    some (r2, (true, ()))
theorem go_spec_IsWalk_t (k : Nat) (a0 : (Int × (Int × ((List Int) × Unit)))) (a1 : (Int × (Int × Unit))) (a2 : (List Int)) : runPure (go_spec_IsWalk_C k) (bodyOf Go.Proofs.Try.f63) Go.Proofs.Try.f63.results.toList true (.pr (.val (.pair I (.pair I (.pair (.sl I) .unit)))) (.pr (.val (.pair I (.pair I .unit))) (.pr (.val (.sl I)) .un))) (.pr (.val .bool) (.pr (.val .bool) .un)) (a0, a1, a2, ()) = go_spec_IsWalk k a0 a1 a2 := by kernel_rfl
def go_spec_IsWalk_S (k : Nat) : Spec := ⟨(.pr (.val (.pair I (.pair I (.pair (.sl I) .unit)))) (.pr (.val (.pair I (.pair I .unit))) (.pr (.val (.sl I)) .un))), (.pr (.val .bool) (.pr (.val .bool) .un)), true, .inl fun x => go_spec_IsWalk k x.1 x.2.1 x.2.2.1⟩
theorem go_spec_IsWalk_F (k : Nat) : Fits Go.Proofs.Try.prog (go_spec_IsWalk_C k) 63 Go.Proofs.Try.f63 (bodyOf Go.Proofs.Try.f63) (.pr (.val (.pair I (.pair I (.pair (.sl I) .unit)))) (.pr (.val (.pair I (.pair I .unit))) (.pr (.val (.sl I)) .un))) (.pr (.val .bool) (.pr (.val .bool) .un)) true :=
  ⟨th0, mixed0, by kernel_rfl, Go.Proofs.Try.func63, rfl, by kernel_rfl, rfl, rfl, rfl, rfl, rfl, rfl⟩
theorem go_spec_IsWalk_M (k : Nat) : Meets Go.Proofs.Try.prog 63 (go_spec_IsWalk_S k) :=
  meets_pure (go_spec_IsWalk_F k) (sigs_all (l := [(116, go_spec_boTwo_S k), (129, go_spec_toWalk_S k)]) rfl ⟨go_spec_boTwo_M k, ⟨go_spec_toWalk_M k, trivial⟩⟩) rfl fun x => go_spec_IsWalk_t k x.1 x.2.1 x.2.2.1

/-! ### spec.toTour -/
def go_spec_toTour_C (k : Nat) : Ctx := { th := TH, se := SE, sg := [(129, go_spec_toWalk_S k), (93, go_spec_boCells_S k)], mu := [], an := [], dr := [], pre := [], d2 := [], m := 0, fx := [], n := 19, k := k }
def go_spec_toTour (k : Nat) (a0 : (Int × (Int × ((List Int) × Unit)))) (a1 : (Int × (Int × Unit))) (a2 : (List Int)) : Option Bool :=
  (go_spec_toWalk k a0 a1 a2).bind fun r1 =>
  (if r1 = true then go_spec_boCells k a0 else some []).bind fun r2 =>
  some (r1 && (decide ((a2.length : Int) = (r2.length : Int))))
theorem go_spec_toTour_t (k : Nat) (a0 : (Int × (Int × ((List Int) × Unit)))) (a1 : (Int × (Int × Unit))) (a2 : (List Int)) : runPure (go_spec_toTour_C k) (bodyOf Go.Proofs.Try.f130) Go.Proofs.Try.f130.results.toList false (.pr (.val (.pair I (.pair I (.pair (.sl I) .unit)))) (.pr (.val (.pair I (.pair I .unit))) (.pr (.val (.sl I)) .un))) (.val .bool) (a0, a1, a2, ()) = go_spec_toTour k a0 a1 a2 := by kernel_rfl
def go_spec_toTour_S (k : Nat) : Spec := ⟨(.pr (.val (.pair I (.pair I (.pair (.sl I) .unit)))) (.pr (.val (.pair I (.pair I .unit))) (.pr (.val (.sl I)) .un))), (.val .bool), false, .inl fun x => go_spec_toTour k x.1 x.2.1 x.2.2.1⟩
theorem go_spec_toTour_F (k : Nat) : Fits Go.Proofs.Try.prog (go_spec_toTour_C k) 130 Go.Proofs.Try.f130 (bodyOf Go.Proofs.Try.f130) (.pr (.val (.pair I (.pair I (.pair (.sl I) .unit)))) (.pr (.val (.pair I (.pair I .unit))) (.pr (.val (.sl I)) .un))) (.val .bool) false :=
  ⟨th0, mixed0, by kernel_rfl, Go.Proofs.Try.func130, rfl, by kernel_rfl, rfl, rfl, rfl, rfl, rfl, rfl⟩
theorem go_spec_toTour_M (k : Nat) : Meets Go.Proofs.Try.prog 130 (go_spec_toTour_S k) :=
  meets_pure (go_spec_toTour_F k) (sigs_all (l := [(129, go_spec_toWalk_S k), (93, go_spec_boCells_S k)]) rfl ⟨go_spec_toWalk_M k, ⟨go_spec_boCells_M k, trivial⟩⟩) rfl fun x => go_spec_toTour_t k x.1 x.2.1 x.2.2.1

/-! ### spec.IsTour -/
def go_spec_IsTour_C (k : Nat) : Ctx := { th := TH, se := SE, sg := [(116, go_spec_boTwo_S k), (130, go_spec_toTour_S k)], mu := [], an := [], dr := [], pre := [], d2 := [], m := 0, fx := [], n := 16, k := k }
def go_spec_IsTour (k : Nat) (a0 : (Int × (Int × ((List Int) × Unit)))) (a1 : (Int × (Int × Unit))) (a2 : (List Int)) : Option (Bool × (Bool × Unit)) :=
  (go_spec_boTwo k a0 a1).bind fun r1 =>
  if (!r1) = true then
    some (false, (false, ()))
  else
    (go_spec_toTour k a0 a1 a2).bind fun r2 =>
    some (r2, (true, ()))
theorem go_spec_IsTour_t (k : Nat) (a0 : (Int × (Int × ((List Int) × Unit)))) (a1 : (Int × (Int × Unit))) (a2 : (List Int)) : runPure (go_spec_IsTour_C k) (bodyOf Go.Proofs.Try.f64) Go.Proofs.Try.f64.results.toList true (.pr (.val (.pair I (.pair I (.pair (.sl I) .unit)))) (.pr (.val (.pair I (.pair I .unit))) (.pr (.val (.sl I)) .un))) (.pr (.val .bool) (.pr (.val .bool) .un)) (a0, a1, a2, ()) = go_spec_IsTour k a0 a1 a2 := by kernel_rfl
def go_spec_IsTour_S (k : Nat) : Spec := ⟨(.pr (.val (.pair I (.pair I (.pair (.sl I) .unit)))) (.pr (.val (.pair I (.pair I .unit))) (.pr (.val (.sl I)) .un))), (.pr (.val .bool) (.pr (.val .bool) .un)), true, .inl fun x => go_spec_IsTour k x.1 x.2.1 x.2.2.1⟩
theorem go_spec_IsTour_F (k : Nat) : Fits Go.Proofs.Try.prog (go_spec_IsTour_C k) 64 Go.Proofs.Try.f64 (bodyOf Go.Proofs.Try.f64) (.pr (.val (.pair I (.pair I (.pair (.sl I) .unit)))) (.pr (.val (.pair I (.pair I .unit))) (.pr (.val (.sl I)) .un))) (.pr (.val .bool) (.pr (.val .bool) .un)) true :=
  ⟨th0, mixed0, by kernel_rfl, Go.Proofs.Try.func64, rfl, by kernel_rfl, rfl, rfl, rfl, rfl, rfl, rfl⟩
theorem go_spec_IsTour_M (k : Nat) : Meets Go.Proofs.Try.prog 64 (go_spec_IsTour_S k) :=
  meets_pure (go_spec_IsTour_F k) (sigs_all (l := [(116, go_spec_boTwo_S k), (130, go_spec_toTour_S k)]) rfl ⟨go_spec_boTwo_M k, ⟨go_spec_toTour_M k, trivial⟩⟩) rfl fun x => go_spec_IsTour_t k x.1 x.2.1 x.2.2.1

/-! ### impl.WalkOfNumbers -/
def go_impl_WalkOfNumbers_C (k : Nat) : Ctx := { th := TH, se := SE, sg := [(109, go_impl_graphOf_S k), (118, go_impl_graph_isWalk_S k)], mu := [], an := [(6, [(2, false), (8, false), (10, false), (35, false), (36, false), (37, false)]), (15, [(2, false), (8, false), (10, false), (13, false), (57, false), (58, false)]), (20, [(8, false), (10, false), (13, false), (65, false), (66, false), (67, false)])], dr := [], pre := [], d2 := [], m := 0, fx := [], n := 96, k := k }
def go_impl_WalkOfNumbers_L0_E (a0 : (Int × (Int × ((List Int) × Unit)))) (a1 : (Int × (Int × Unit))) (a2 : (List Int)) (r1 : ((Option ((Int × (Int × ((List Int) × Unit))) × ((Int × (Int × Unit)) × ((List Int) × ((List (List Int)) × Unit))))) × (Bool × Unit))) (x6 : (Int × Int)) : St :=
  ⟨[(2, .one (.val (.sl I) a2), []), (8, .one (.val (.pt (.pair (.pair I (.pair I (.pair (.sl I) .unit))) (.pair (.pair I (.pair I .unit)) (.pair (.sl I) (.pair (.sl (.sl I)) .unit))))) r1.1), []), (10, .one (.val I x6.1), []), (35, .one (.val (.sl I) a2), []), (36, .one (.val I (a2.length : Int)), []), (37, .one (.val I x6.2), [])], [], []⟩
def go_impl_WalkOfNumbers_L1_E (a0 : (Int × (Int × ((List Int) × Unit)))) (a1 : (Int × (Int × Unit))) (a2 : (List Int)) (r1 : ((Option ((Int × (Int × ((List Int) × Unit))) × ((Int × (Int × Unit)) × ((List Int) × ((List (List Int)) × Unit))))) × (Bool × Unit))) (x6 : (Int × Int)) (x12 : (Int × (List Int))) : St :=
  ⟨[(2, .one (.val (.sl I) a2), []), (8, .one (.val (.pt (.pair (.pair I (.pair I (.pair (.sl I) .unit))) (.pair (.pair I (.pair I .unit)) (.pair (.sl I) (.pair (.sl (.sl I)) .unit))))) r1.1), []), (10, .one (.val I x6.1), []), (13, .one (.own 0), []), (57, .one (.val I ((List.replicate x6.1.toNat (0 : Int)).length : Int)), []), (58, .one (.val I x12.1), [])], [.arr 3 I x12.2], []⟩
def go_impl_WalkOfNumbers_L2_E (a0 : (Int × (Int × ((List Int) × Unit)))) (a1 : (Int × (Int × Unit))) (a2 : (List Int)) (r1 : ((Option ((Int × (Int × ((List Int) × Unit))) × ((Int × (Int × Unit)) × ((List Int) × ((List (List Int)) × Unit))))) × (Bool × Unit))) (x6 : (Int × Int)) (x18 : (Int × (List Int))) : St :=
  ⟨[(8, .one (.val (.pt (.pair (.pair I (.pair I (.pair (.sl I) .unit))) (.pair (.pair I (.pair I .unit)) (.pair (.sl I) (.pair (.sl (.sl I)) .unit))))) r1.1), []), (10, .one (.val I x6.1), []), (13, .one (.own 0), []), (65, .one (.val (.sl I) a2), []), (66, .one (.val I (a2.length : Int)), []), (67, .one (.val I x18.1), [])], [.arr 3 I x18.2], []⟩
def go_impl_WalkOfNumbers_L2_G (k : Nat) (a0 : (Int × (Int × ((List Int) × Unit)))) (a1 : (Int × (Int × Unit))) (a2 : (List Int)) (r1 : ((Option ((Int × (Int × ((List Int) × Unit))) × ((Int × (Int × Unit)) × ((List Int) × ((List (List Int)) × Unit))))) × (Bool × Unit))) (x6 : (Int × Int)) (rec19 : (Int × (List Int)) → Option ((List Int) × (Bool × Unit))) (x18 : (Int × (List Int))) : Option ((List Int) × (Bool × Unit)) :=
  if (decide (x18.1 < (a2.length : Int))) = true then
    if (inb x18.1 a2.length) = true then
    if (decide ((a2.getD x18.1.toNat (0 : Int)) = (0 : Int))) = true then
      rec19 ((IntKind.i64.wrap (x18.1 + (1 : Int))), x18.2)
    else
      if (!(!(decide (x6.1 < (a2.getD x18.1.toNat (0 : Int))))) || (inb (IntKind.i64.wrap ((a2.getD x18.1.toNat (0 : Int)) - (1 : Int))) x18.2.length)) = true then
      if ((decide (x6.1 < (a2.getD x18.1.toNat (0 : Int)))) || (decide ((0 : Int) ≤ (x18.2.getD (IntKind.i64.wrap ((a2.getD x18.1.toNat (0 : Int)) - (1 : Int))).toNat (0 : Int))))) = true then
        some ([], (false, ()))
      else
        if (inb (IntKind.i64.wrap ((a2.getD x18.1.toNat (0 : Int)) - (1 : Int))) x18.2.length) = true then
        rec19 ((IntKind.i64.wrap (x18.1 + (1 : Int))), (x18.2.set (IntKind.i64.wrap ((a2.getD x18.1.toNat (0 : Int)) - (1 : Int))).toNat x18.1))
        else none
      else none
    else none
  else
    (go_impl_graph_isWalk k r1.1 x18.2).bind fun r20 =>
    if (!r20) = true then
      some ([], (false, ()))
    else
      some (x18.2, (true, ()))
def go_impl_WalkOfNumbers_L2 (k : Nat) (a0 : (Int × (Int × ((List Int) × Unit)))) (a1 : (Int × (Int × Unit))) (a2 : (List Int)) (r1 : ((Option ((Int × (Int × ((List Int) × Unit))) × ((Int × (Int × Unit)) × ((List Int) × ((List (List Int)) × Unit))))) × (Bool × Unit))) (x6 : (Int × Int)) : (Int × (List Int)) → Option ((List Int) × (Bool × Unit)) :=
  iter k fun rec19 x18 => go_impl_WalkOfNumbers_L2_G k a0 a1 a2 r1 x6 rec19 x18
theorem go_impl_WalkOfNumbers_L2_t (k : Nat) (a0 : (Int × (Int × ((List Int) × Unit)))) (a1 : (Int × (Int × Unit))) (a2 : (List Int)) (r1 : ((Option ((Int × (Int × ((List Int) × Unit))) × ((Int × (Int × Unit)) × ((List Int) × ((List (List Int)) × Unit))))) × (Bool × Unit))) (x6 : (Int × Int)) (x : (Int × (List Int))) :
    iter k (loopAt (go_impl_WalkOfNumbers_C k) (bodyOf Go.Proofs.Try.f65) [1, 1, 1, 1, 1, 1, 1, 0, 1, 0] [] (finPure (go_impl_WalkOfNumbers_C k) Go.Proofs.Try.f65.results.toList true (.pr (.val (.sl I)) (.pr (.val .bool) .un)))) (go_impl_WalkOfNumbers_L2_E a0 a1 a2 r1 x6 x) = go_impl_WalkOfNumbers_L2 k a0 a1 a2 r1 x6 x := by
  refine iter_tie (G := fun rec x => go_impl_WalkOfNumbers_L2_G k a0 a1 a2 r1 x6 rec x) (go_impl_WalkOfNumbers_L2_E a0 a1 a2 r1 x6) (fun rec x => ?_) k x
  have h : loopAt (go_impl_WalkOfNumbers_C k) (bodyOf Go.Proofs.Try.f65) [1, 1, 1, 1, 1, 1, 1, 0, 1, 0] [] (finPure (go_impl_WalkOfNumbers_C k) Go.Proofs.Try.f65.results.toList true (.pr (.val (.sl I)) (.pr (.val .bool) .un))) rec (go_impl_WalkOfNumbers_L2_E a0 a1 a2 r1 x6 x) = go_impl_WalkOfNumbers_L2_G k a0 a1 a2 r1 x6 (fun y => rec (go_impl_WalkOfNumbers_L2_E a0 a1 a2 r1 x6 y)) x := by kernel_rfl
  rw [h]
def go_impl_WalkOfNumbers_L1_G (k : Nat) (a0 : (Int × (Int × ((List Int) × Unit)))) (a1 : (Int × (Int × Unit))) (a2 : (List Int)) (r1 : ((Option ((Int × (Int × ((List Int) × Unit))) × ((Int × (Int × Unit)) × ((List Int) × ((List (List Int)) × Unit))))) × (Bool × Unit))) (x6 : (Int × Int)) (l_2 : ((Option ((Int × (Int × ((List Int) × Unit))) × ((Int × (Int × Unit)) × ((List Int) × ((List (List Int)) × Unit))))) × (Bool × Unit)) → (Int × Int) → (Int × (List Int)) → Option ((List Int) × (Bool × Unit))) (rec13 : (Int × (List Int)) → Option ((List Int) × (Bool × Unit))) (x12 : (Int × (List Int))) : Option ((List Int) × (Bool × Unit)) :=
  if (decide (x12.1 < ((List.replicate x6.1.toNat (0 : Int)).length : Int))) = true then
    if (inb x12.1 x12.2.length) = true then
    rec13 ((IntKind.i64.wrap (x12.1 + (1 : Int))), (x12.2.set x12.1.toNat (-1 : Int)))
    else none
  else
    l_2 r1 x6 ((0 : Int), x12.2)
def go_impl_WalkOfNumbers_L1 (k : Nat) (a0 : (Int × (Int × ((List Int) × Unit)))) (a1 : (Int × (Int × Unit))) (a2 : (List Int)) (r1 : ((Option ((Int × (Int × ((List Int) × Unit))) × ((Int × (Int × Unit)) × ((List Int) × ((List (List Int)) × Unit))))) × (Bool × Unit))) (x6 : (Int × Int)) : (Int × (List Int)) → Option ((List Int) × (Bool × Unit)) :=
  iter k fun rec13 x12 => go_impl_WalkOfNumbers_L1_G k a0 a1 a2 r1 x6 (fun c0 c1 y => go_impl_WalkOfNumbers_L2 k a0 a1 a2 c0 c1 y) rec13 x12
theorem go_impl_WalkOfNumbers_L1_t (k : Nat) (a0 : (Int × (Int × ((List Int) × Unit)))) (a1 : (Int × (Int × Unit))) (a2 : (List Int)) (r1 : ((Option ((Int × (Int × ((List Int) × Unit))) × ((Int × (Int × Unit)) × ((List Int) × ((List (List Int)) × Unit))))) × (Bool × Unit))) (x6 : (Int × Int)) (x : (Int × (List Int))) :
    iter k (loopAt (go_impl_WalkOfNumbers_C k) (bodyOf Go.Proofs.Try.f65) [1, 1, 1, 1, 1, 1, 0, 1, 0] [] (finPure (go_impl_WalkOfNumbers_C k) Go.Proofs.Try.f65.results.toList true (.pr (.val (.sl I)) (.pr (.val .bool) .un)))) (go_impl_WalkOfNumbers_L1_E a0 a1 a2 r1 x6 x) = go_impl_WalkOfNumbers_L1 k a0 a1 a2 r1 x6 x := by
  refine iter_tie (G := fun rec x => go_impl_WalkOfNumbers_L1_G k a0 a1 a2 r1 x6 (fun c0 c1 y => go_impl_WalkOfNumbers_L2 k a0 a1 a2 c0 c1 y) rec x) (go_impl_WalkOfNumbers_L1_E a0 a1 a2 r1 x6) (fun rec x => ?_) k x
  have h : loopAt (go_impl_WalkOfNumbers_C k) (bodyOf Go.Proofs.Try.f65) [1, 1, 1, 1, 1, 1, 0, 1, 0] [] (finPure (go_impl_WalkOfNumbers_C k) Go.Proofs.Try.f65.results.toList true (.pr (.val (.sl I)) (.pr (.val .bool) .un))) rec (go_impl_WalkOfNumbers_L1_E a0 a1 a2 r1 x6 x) = go_impl_WalkOfNumbers_L1_G k a0 a1 a2 r1 x6 (fun c0 c1 y => iter k (loopAt (go_impl_WalkOfNumbers_C k) (bodyOf Go.Proofs.Try.f65) [1, 1, 1, 1, 1, 1, 1, 0, 1, 0] [] (finPure (go_impl_WalkOfNumbers_C k) Go.Proofs.Try.f65.results.toList true (.pr (.val (.sl I)) (.pr (.val .bool) .un)))) (go_impl_WalkOfNumbers_L2_E a0 a1 a2 c0 c1 y)) (fun y => rec (go_impl_WalkOfNumbers_L1_E a0 a1 a2 r1 x6 y)) x := by kernel_rfl
  have h0 : (fun c0 c1 y => iter k (loopAt (go_impl_WalkOfNumbers_C k) (bodyOf Go.Proofs.Try.f65) [1, 1, 1, 1, 1, 1, 1, 0, 1, 0] [] (finPure (go_impl_WalkOfNumbers_C k) Go.Proofs.Try.f65.results.toList true (.pr (.val (.sl I)) (.pr (.val .bool) .un)))) (go_impl_WalkOfNumbers_L2_E a0 a1 a2 c0 c1 y)) = (fun c0 c1 y => go_impl_WalkOfNumbers_L2 k a0 a1 a2 c0 c1 y) := by
    funext c0 c1 y
    exact go_impl_WalkOfNumbers_L2_t k a0 a1 a2 c0 c1 y
  rw [h, h0]
def go_impl_WalkOfNumbers_L0_G (k : Nat) (a0 : (Int × (Int × ((List Int) × Unit)))) (a1 : (Int × (Int × Unit))) (a2 : (List Int)) (r1 : ((Option ((Int × (Int × ((List Int) × Unit))) × ((Int × (Int × Unit)) × ((List Int) × ((List (List Int)) × Unit))))) × (Bool × Unit))) (l_1 : ((Option ((Int × (Int × ((List Int) × Unit))) × ((Int × (Int × Unit)) × ((List Int) × ((List (List Int)) × Unit))))) × (Bool × Unit)) → (Int × Int) → (Int × (List Int)) → Option ((List Int) × (Bool × Unit))) (rec7 : (Int × Int) → Option ((List Int) × (Bool × Unit))) (x6 : (Int × Int)) : Option ((List Int) × (Bool × Unit)) :=
  if (decide (x6.2 < (a2.length : Int))) = true then
    if (inb x6.2 a2.length) = true then
    if ((decide ((a2.getD x6.2.toNat (0 : Int)) < (0 : Int))) || (decide ((a2.length : Int) < (a2.getD x6.2.toNat (0 : Int))))) = true then
      some ([], (false, ()))
    else
      if (decide ((0 : Int) < (a2.getD x6.2.toNat (0 : Int)))) = true then
        rec7 ((IntKind.i64.wrap (x6.1 + (1 : Int))), (IntKind.i64.wrap (x6.2 + (1 : Int))))
      else
        rec7 (x6.1, (IntKind.i64.wrap (x6.2 + (1 : Int))))
    else none
  else
    if (decide (0 ≤ x6.1 ∧ x6.1 ≤ (LIM : Int))) = true then
    l_1 r1 x6 ((0 : Int), (List.replicate x6.1.toNat (0 : Int)))
    else none
def go_impl_WalkOfNumbers_L0 (k : Nat) (a0 : (Int × (Int × ((List Int) × Unit)))) (a1 : (Int × (Int × Unit))) (a2 : (List Int)) (r1 : ((Option ((Int × (Int × ((List Int) × Unit))) × ((Int × (Int × Unit)) × ((List Int) × ((List (List Int)) × Unit))))) × (Bool × Unit))) : (Int × Int) → Option ((List Int) × (Bool × Unit)) :=
  iter k fun rec7 x6 => go_impl_WalkOfNumbers_L0_G k a0 a1 a2 r1 (fun c0 c1 y => go_impl_WalkOfNumbers_L1 k a0 a1 a2 c0 c1 y) rec7 x6
theorem go_impl_WalkOfNumbers_L0_t (k : Nat) (a0 : (Int × (Int × ((List Int) × Unit)))) (a1 : (Int × (Int × Unit))) (a2 : (List Int)) (r1 : ((Option ((Int × (Int × ((List Int) × Unit))) × ((Int × (Int × Unit)) × ((List Int) × ((List (List Int)) × Unit))))) × (Bool × Unit))) (x : (Int × Int)) :
    iter k (loopAt (go_impl_WalkOfNumbers_C k) (bodyOf Go.Proofs.Try.f65) [1, 1, 1, 1, 0, 1, 0] [] (finPure (go_impl_WalkOfNumbers_C k) Go.Proofs.Try.f65.results.toList true (.pr (.val (.sl I)) (.pr (.val .bool) .un)))) (go_impl_WalkOfNumbers_L0_E a0 a1 a2 r1 x) = go_impl_WalkOfNumbers_L0 k a0 a1 a2 r1 x := by
  refine iter_tie (G := fun rec x => go_impl_WalkOfNumbers_L0_G k a0 a1 a2 r1 (fun c0 c1 y => go_impl_WalkOfNumbers_L1 k a0 a1 a2 c0 c1 y) rec x) (go_impl_WalkOfNumbers_L0_E a0 a1 a2 r1) (fun rec x => ?_) k x
  have h : loopAt (go_impl_WalkOfNumbers_C k) (bodyOf Go.Proofs.Try.f65) [1, 1, 1, 1, 0, 1, 0] [] (finPure (go_impl_WalkOfNumbers_C k) Go.Proofs.Try.f65.results.toList true (.pr (.val (.sl I)) (.pr (.val .bool) .un))) rec (go_impl_WalkOfNumbers_L0_E a0 a1 a2 r1 x) = go_impl_WalkOfNumbers_L0_G k a0 a1 a2 r1 (fun c0 c1 y => iter k (loopAt (go_impl_WalkOfNumbers_C k) (bodyOf Go.Proofs.Try.f65) [1, 1, 1, 1, 1, 1, 0, 1, 0] [] (finPure (go_impl_WalkOfNumbers_C k) Go.Proofs.Try.f65.results.toList true (.pr (.val (.sl I)) (.pr (.val .bool) .un)))) (go_impl_WalkOfNumbers_L1_E a0 a1 a2 c0 c1 y)) (fun y => rec (go_impl_WalkOfNumbers_L0_E a0 a1 a2 r1 y)) x := by kernel_rfl
  have h0 : (fun c0 c1 y => iter k (loopAt (go_impl_WalkOfNumbers_C k) (bodyOf Go.Proofs.Try.f65) [1, 1, 1, 1, 1, 1, 0, 1, 0] [] (finPure (go_impl_WalkOfNumbers_C k) Go.Proofs.Try.f65.results.toList true (.pr (.val (.sl I)) (.pr (.val .bool) .un)))) (go_impl_WalkOfNumbers_L1_E a0 a1 a2 c0 c1 y)) = (fun c0 c1 y => go_impl_WalkOfNumbers_L1 k a0 a1 a2 c0 c1 y) := by
    funext c0 c1 y
    exact go_impl_WalkOfNumbers_L1_t k a0 a1 a2 c0 c1 y
  rw [h, h0]
def go_impl_WalkOfNumbers_T (k : Nat) (a0 : (Int × (Int × ((List Int) × Unit)))) (a1 : (Int × (Int × Unit))) (a2 : (List Int)) (l_0 : ((Option ((Int × (Int × ((List Int) × Unit))) × ((Int × (Int × Unit)) × ((List Int) × ((List (List Int)) × Unit))))) × (Bool × Unit)) → (Int × Int) → Option ((List Int) × (Bool × Unit))) : Option ((List Int) × (Bool × Unit)) :=
  (go_impl_graphOf k a0 a1).bind fun r1 =>
  if ((!r1.2.1) || (!decide ((a2.length : Int) = (IntKind.i64.wrap (a0.1 * a0.2.1))))) = true then
    some ([], (false, ()))
  else
    l_0 r1 ((0 : Int), (0 : Int))
def go_impl_WalkOfNumbers (k : Nat) (a0 : (Int × (Int × ((List Int) × Unit)))) (a1 : (Int × (Int × Unit))) (a2 : (List Int)) : Option ((List Int) × (Bool × Unit)) :=
  go_impl_WalkOfNumbers_T k a0 a1 a2 (fun r1 y => go_impl_WalkOfNumbers_L0 k a0 a1 a2 r1 y)
theorem go_impl_WalkOfNumbers_t (k : Nat) (a0 : (Int × (Int × ((List Int) × Unit)))) (a1 : (Int × (Int × Unit))) (a2 : (List Int)) : runPure (go_impl_WalkOfNumbers_C k) (bodyOf Go.Proofs.Try.f65) Go.Proofs.Try.f65.results.toList true (.pr (.val (.pair I (.pair I (.pair (.sl I) .unit)))) (.pr (.val (.pair I (.pair I .unit))) (.pr (.val (.sl I)) .un))) (.pr (.val (.sl I)) (.pr (.val .bool) .un)) (a0, a1, a2, ()) = go_impl_WalkOfNumbers k a0 a1 a2 := by
  have h : runPure (go_impl_WalkOfNumbers_C k) (bodyOf Go.Proofs.Try.f65) Go.Proofs.Try.f65.results.toList true (.pr (.val (.pair I (.pair I (.pair (.sl I) .unit)))) (.pr (.val (.pair I (.pair I .unit))) (.pr (.val (.sl I)) .un))) (.pr (.val (.sl I)) (.pr (.val .bool) .un)) (a0, a1, a2, ()) = go_impl_WalkOfNumbers_T k a0 a1 a2 (fun r1 y => iter k (loopAt (go_impl_WalkOfNumbers_C k) (bodyOf Go.Proofs.Try.f65) [1, 1, 1, 1, 0, 1, 0] [] (finPure (go_impl_WalkOfNumbers_C k) Go.Proofs.Try.f65.results.toList true (.pr (.val (.sl I)) (.pr (.val .bool) .un)))) (go_impl_WalkOfNumbers_L0_E a0 a1 a2 r1 y)) := by kernel_rfl
  have h0 : (fun r1 y => iter k (loopAt (go_impl_WalkOfNumbers_C k) (bodyOf Go.Proofs.Try.f65) [1, 1, 1, 1, 0, 1, 0] [] (finPure (go_impl_WalkOfNumbers_C k) Go.Proofs.Try.f65.results.toList true (.pr (.val (.sl I)) (.pr (.val .bool) .un)))) (go_impl_WalkOfNumbers_L0_E a0 a1 a2 r1 y)) = (fun r1 y => go_impl_WalkOfNumbers_L0 k a0 a1 a2 r1 y) := by
    funext r1 y
    exact go_impl_WalkOfNumbers_L0_t k a0 a1 a2 r1 y
  rw [h, h0]
  rfl
def go_impl_WalkOfNumbers_S (k : Nat) : Spec := ⟨(.pr (.val (.pair I (.pair I (.pair (.sl I) .unit)))) (.pr (.val (.pair I (.pair I .unit))) (.pr (.val (.sl I)) .un))), (.pr (.val (.sl I)) (.pr (.val .bool) .un)), true, .inl fun x => go_impl_WalkOfNumbers k x.1 x.2.1 x.2.2.1⟩
theorem go_impl_WalkOfNumbers_F (k : Nat) : Fits Go.Proofs.Try.prog (go_impl_WalkOfNumbers_C k) 65 Go.Proofs.Try.f65 (bodyOf Go.Proofs.Try.f65) (.pr (.val (.pair I (.pair I (.pair (.sl I) .unit)))) (.pr (.val (.pair I (.pair I .unit))) (.pr (.val (.sl I)) .un))) (.pr (.val (.sl I)) (.pr (.val .bool) .un)) true :=
  ⟨th0, mixed0, by kernel_rfl, Go.Proofs.Try.func65, rfl, by kernel_rfl, rfl, rfl, rfl, rfl, rfl, rfl⟩
theorem go_impl_WalkOfNumbers_M (k : Nat) : Meets Go.Proofs.Try.prog 65 (go_impl_WalkOfNumbers_S k) :=
  meets_pure (go_impl_WalkOfNumbers_F k) (sigs_all (l := [(109, go_impl_graphOf_S k), (118, go_impl_graph_isWalk_S k)]) rfl ⟨go_impl_graphOf_M k, ⟨go_impl_graph_isWalk_M k, trivial⟩⟩) rfl fun x => go_impl_WalkOfNumbers_t k x.1 x.2.1 x.2.2.1

/-! ### impl.CountCells -/
def go_impl_CountCells_C (k : Nat) : Ctx := { th := TH, se := SE, sg := [(69, go_impl_IsBoard_S k)], mu := [], an := [], dr := [], pre := [], d2 := [], m := 0, fx := [], n := 16, k := k }
def go_impl_CountCells (k : Nat) (a0 : (Int × (Int × ((List Int) × Unit)))) : Option (Int × (Bool × Unit)) :=
  (go_impl_IsBoard k a0).bind fun r1 =>
  if (!r1) = true then
    some ((0 : Int), (false, ()))
  else
    some ((IntKind.i64.wrap ((IntKind.i64.wrap (a0.1 * a0.2.1)) - (a0.2.2.1.length : Int))), (true, ()))
theorem go_impl_CountCells_t (k : Nat) (a0 : (Int × (Int × ((List Int) × Unit)))) : runPure (go_impl_CountCells_C k) (bodyOf Go.Proofs.Try.f66) Go.Proofs.Try.f66.results.toList true (.pr (.val (.pair I (.pair I (.pair (.sl I) .unit)))) .un) (.pr (.val I) (.pr (.val .bool) .un)) (a0, ()) = go_impl_CountCells k a0 := by kernel_rfl
def go_impl_CountCells_S (k : Nat) : Spec := ⟨(.pr (.val (.pair I (.pair I (.pair (.sl I) .unit)))) .un), (.pr (.val I) (.pr (.val .bool) .un)), true, .inl fun x => go_impl_CountCells k x.1⟩
theorem go_impl_CountCells_F (k : Nat) : Fits Go.Proofs.Try.prog (go_impl_CountCells_C k) 66 Go.Proofs.Try.f66 (bodyOf Go.Proofs.Try.f66) (.pr (.val (.pair I (.pair I (.pair (.sl I) .unit)))) .un) (.pr (.val I) (.pr (.val .bool) .un)) true :=
  ⟨th0, mixed0, by kernel_rfl, Go.Proofs.Try.func66, rfl, by kernel_rfl, rfl, rfl, rfl, rfl, rfl, rfl⟩
theorem go_impl_CountCells_M (k : Nat) : Meets Go.Proofs.Try.prog 66 (go_impl_CountCells_S k) :=
  meets_pure (go_impl_CountCells_F k) (sigs_all (l := [(69, go_impl_IsBoard_S k)]) rfl ⟨go_impl_IsBoard_M k, trivial⟩) rfl fun x => go_impl_CountCells_t k x.1

/-! ### spec.WalkOfNumbers -/
def go_spec_WalkOfNumbers_C (k : Nat) : Ctx := { th := TH, se := SE, sg := [(116, go_spec_boTwo_S k), (131, go_spec_l1All_S k), (129, go_spec_toWalk_S k)], mu := [], an := [(5, [(2, false), (3, false), (4, false), (8, false), (37, false), (38, false), (39, false)]), (12, [(2, false), (3, false), (4, false), (8, false), (11, false), (50, false), (51, false), (52, false)]), (20, [(2, false), (3, false), (4, false), (11, false), (68, false), (69, false), (70, false)])], dr := [], pre := [], d2 := [], m := 0, fx := [], n := 89, k := k }
def go_spec_WalkOfNumbers_L0_E (a0 : (Int × (Int × ((List Int) × Unit)))) (a1 : (Int × (Int × Unit))) (a2 : (List Int)) (x7 : (Int × Int)) : St :=
  ⟨[(2, .one (.val (.sl I) a2), []), (3, .one (.val (.pt (.pair I (.pair I (.pair (.sl I) .unit)))) (some a0)), []), (4, .one (.val (.pt (.pair I (.pair I .unit))) (some a1)), []), (8, .one (.val I x7.1), []), (37, .one (.val (.sl I) a2), []), (38, .one (.val I (a2.length : Int)), []), (39, .one (.val I x7.2), [])], [], []⟩
def go_spec_WalkOfNumbers_L1_E (a0 : (Int × (Int × ((List Int) × Unit)))) (a1 : (Int × (Int × Unit))) (a2 : (List Int)) (x7 : (Int × Int)) (x13 : (Int × (List Int))) : St :=
  ⟨[(2, .one (.val (.sl I) a2), []), (3, .one (.val (.pt (.pair I (.pair I (.pair (.sl I) .unit)))) (some a0)), []), (4, .one (.val (.pt (.pair I (.pair I .unit))) (some a1)), []), (8, .one (.val I x7.1), []), (11, .one (.own 0), []), (50, .one (.val (.sl I) a2), []), (51, .one (.val I (a2.length : Int)), []), (52, .one (.val I x13.1), [])], [.arr 3 I x13.2], []⟩
def go_spec_WalkOfNumbers_L2_E (a0 : (Int × (Int × ((List Int) × Unit)))) (a1 : (Int × (Int × Unit))) (a2 : (List Int)) (x13 : (Int × (List Int))) (x17 : (Int)) : St :=
  ⟨[(2, .one (.val (.sl I) a2), []), (3, .one (.val (.pt (.pair I (.pair I (.pair (.sl I) .unit)))) (some a0)), []), (4, .one (.val (.pt (.pair I (.pair I .unit))) (some a1)), []), (11, .one (.own 0), []), (68, .one (.own 0), []), (69, .one (.val I (x13.2.length : Int)), []), (70, .one (.val I x17), [])], [.arr 3 I x13.2], []⟩
def go_spec_WalkOfNumbers_L2_G (k : Nat) (a0 : (Int × (Int × ((List Int) × Unit)))) (a1 : (Int × (Int × Unit))) (a2 : (List Int)) (x13 : (Int × (List Int))) (rec18 : (Int) → Option ((List Int) × (Bool × Unit))) (x17 : (Int)) : Option ((List Int) × (Bool × Unit)) :=
  if (decide (x17 < (x13.2.length : Int))) = true then
    if (inb x17 x13.2.length) = true then
    if (inb (x13.2.getD x17.toNat (0 : Int)) a2.length) = true then
    if (!decide ((a2.getD (x13.2.getD x17.toNat (0 : Int)).toNat (0 : Int)) = (IntKind.i64.wrap (x17 + (1 : Int))))) = true then
      some ([], (false, ()))
    else
      rec18 (IntKind.i64.wrap (x17 + (1 : Int)))
    else none
    else none
  else
    (go_spec_toWalk k a0 a1 x13.2).bind fun r19 =>
    if (!r19) = true then
      some ([], (false, ()))
    else
      some (x13.2, (true, ()))
def go_spec_WalkOfNumbers_L2 (k : Nat) (a0 : (Int × (Int × ((List Int) × Unit)))) (a1 : (Int × (Int × Unit))) (a2 : (List Int)) (x13 : (Int × (List Int))) : (Int) → Option ((List Int) × (Bool × Unit)) :=
  iter k fun rec18 x17 => go_spec_WalkOfNumbers_L2_G k a0 a1 a2 x13 rec18 x17
theorem go_spec_WalkOfNumbers_L2_t (k : Nat) (a0 : (Int × (Int × ((List Int) × Unit)))) (a1 : (Int × (Int × Unit))) (a2 : (List Int)) (x13 : (Int × (List Int))) (x : (Int)) :
    iter k (loopAt (go_spec_WalkOfNumbers_C k) (bodyOf Go.Proofs.Try.f67) [1, 1, 1, 1, 1, 1, 0, 1, 0] [] (finPure (go_spec_WalkOfNumbers_C k) Go.Proofs.Try.f67.results.toList true (.pr (.val (.sl I)) (.pr (.val .bool) .un)))) (go_spec_WalkOfNumbers_L2_E a0 a1 a2 x13 x) = go_spec_WalkOfNumbers_L2 k a0 a1 a2 x13 x := by
  refine iter_tie (G := fun rec x => go_spec_WalkOfNumbers_L2_G k a0 a1 a2 x13 rec x) (go_spec_WalkOfNumbers_L2_E a0 a1 a2 x13) (fun rec x => ?_) k x
  have h : loopAt (go_spec_WalkOfNumbers_C k) (bodyOf Go.Proofs.Try.f67) [1, 1, 1, 1, 1, 1, 0, 1, 0] [] (finPure (go_spec_WalkOfNumbers_C k) Go.Proofs.Try.f67.results.toList true (.pr (.val (.sl I)) (.pr (.val .bool) .un))) rec (go_spec_WalkOfNumbers_L2_E a0 a1 a2 x13 x) = go_spec_WalkOfNumbers_L2_G k a0 a1 a2 x13 (fun y => rec (go_spec_WalkOfNumbers_L2_E a0 a1 a2 x13 y)) x := by kernel_rfl
  rw [h]
def go_spec_WalkOfNumbers_L1_G (k : Nat) (a0 : (Int × (Int × ((List Int) × Unit)))) (a1 : (Int × (Int × Unit))) (a2 : (List Int)) (x7 : (Int × Int)) (l_2 : (Int × (List Int)) → (Int) → Option ((List Int) × (Bool × Unit))) (rec14 : (Int × (List Int)) → Option ((List Int) × (Bool × Unit))) (x13 : (Int × (List Int))) : Option ((List Int) × (Bool × Unit)) :=
  if (decide (x13.1 < (a2.length : Int))) = true then
    if (inb x13.1 a2.length) = true then
    if (decide (x7.1 < (a2.getD x13.1.toNat (0 : Int)))) = true then
      some ([], (false, ()))
    else
      if (decide ((0 : Int) < (a2.getD x13.1.toNat (0 : Int)))) = true then
        if (inb (IntKind.i64.wrap ((a2.getD x13.1.toNat (0 : Int)) - (1 : Int))) x13.2.length) = true then
        rec14 ((IntKind.i64.wrap (x13.1 + (1 : Int))), (x13.2.set (IntKind.i64.wrap ((a2.getD x13.1.toNat (0 : Int)) - (1 : Int))).toNat x13.1))
        else none
      else
        rec14 ((IntKind.i64.wrap (x13.1 + (1 : Int))), x13.2)
    else none
  else
    l_2 x13 (0 : Int)
def go_spec_WalkOfNumbers_L1 (k : Nat) (a0 : (Int × (Int × ((List Int) × Unit)))) (a1 : (Int × (Int × Unit))) (a2 : (List Int)) (x7 : (Int × Int)) : (Int × (List Int)) → Option ((List Int) × (Bool × Unit)) :=
  iter k fun rec14 x13 => go_spec_WalkOfNumbers_L1_G k a0 a1 a2 x7 (fun c0 y => go_spec_WalkOfNumbers_L2 k a0 a1 a2 c0 y) rec14 x13
theorem go_spec_WalkOfNumbers_L1_t (k : Nat) (a0 : (Int × (Int × ((List Int) × Unit)))) (a1 : (Int × (Int × Unit))) (a2 : (List Int)) (x7 : (Int × Int)) (x : (Int × (List Int))) :
    iter k (loopAt (go_spec_WalkOfNumbers_C k) (bodyOf Go.Proofs.Try.f67) [1, 1, 1, 1, 1, 0, 1, 0] [] (finPure (go_spec_WalkOfNumbers_C k) Go.Proofs.Try.f67.results.toList true (.pr (.val (.sl I)) (.pr (.val .bool) .un)))) (go_spec_WalkOfNumbers_L1_E a0 a1 a2 x7 x) = go_spec_WalkOfNumbers_L1 k a0 a1 a2 x7 x := by
  refine iter_tie (G := fun rec x => go_spec_WalkOfNumbers_L1_G k a0 a1 a2 x7 (fun c0 y => go_spec_WalkOfNumbers_L2 k a0 a1 a2 c0 y) rec x) (go_spec_WalkOfNumbers_L1_E a0 a1 a2 x7) (fun rec x => ?_) k x
  have h : loopAt (go_spec_WalkOfNumbers_C k) (bodyOf Go.Proofs.Try.f67) [1, 1, 1, 1, 1, 0, 1, 0] [] (finPure (go_spec_WalkOfNumbers_C k) Go.Proofs.Try.f67.results.toList true (.pr (.val (.sl I)) (.pr (.val .bool) .un))) rec (go_spec_WalkOfNumbers_L1_E a0 a1 a2 x7 x) = go_spec_WalkOfNumbers_L1_G k a0 a1 a2 x7 (fun c0 y => iter k (loopAt (go_spec_WalkOfNumbers_C k) (bodyOf Go.Proofs.Try.f67) [1, 1, 1, 1, 1, 1, 0, 1, 0] [] (finPure (go_spec_WalkOfNumbers_C k) Go.Proofs.Try.f67.results.toList true (.pr (.val (.sl I)) (.pr (.val .bool) .un)))) (go_spec_WalkOfNumbers_L2_E a0 a1 a2 c0 y)) (fun y => rec (go_spec_WalkOfNumbers_L1_E a0 a1 a2 x7 y)) x := by kernel_rfl
  have h0 : (fun c0 y => iter k (loopAt (go_spec_WalkOfNumbers_C k) (bodyOf Go.Proofs.Try.f67) [1, 1, 1, 1, 1, 1, 0, 1, 0] [] (finPure (go_spec_WalkOfNumbers_C k) Go.Proofs.Try.f67.results.toList true (.pr (.val (.sl I)) (.pr (.val .bool) .un)))) (go_spec_WalkOfNumbers_L2_E a0 a1 a2 c0 y)) = (fun c0 y => go_spec_WalkOfNumbers_L2 k a0 a1 a2 c0 y) := by
    funext c0 y
    exact go_spec_WalkOfNumbers_L2_t k a0 a1 a2 c0 y
  rw [h, h0]
def go_spec_WalkOfNumbers_L0_G (k : Nat) (a0 : (Int × (Int × ((List Int) × Unit)))) (a1 : (Int × (Int × Unit))) (a2 : (List Int)) (l_1 : (Int × Int) → (Int × (List Int)) → Option ((List Int) × (Bool × Unit))) (rec8 : (Int × Int) → Option ((List Int) × (Bool × Unit))) (x7 : (Int × Int)) : Option ((List Int) × (Bool × Unit)) :=
  if (decide (x7.2 < (a2.length : Int))) = true then
    if (inb x7.2 a2.length) = true then
    if (decide ((0 : Int) < (a2.getD x7.2.toNat (0 : Int)))) = true then
      rec8 ((IntKind.i64.wrap (x7.1 + (1 : Int))), (IntKind.i64.wrap (x7.2 + (1 : Int))))
    else
      rec8 (x7.1, (IntKind.i64.wrap (x7.2 + (1 : Int))))
    else none
  else
    if (decide (0 ≤ x7.1 ∧ x7.1 ≤ (LIM : Int))) = true then
    l_1 x7 ((0 : Int), (List.replicate x7.1.toNat (0 : Int)))
    else none
def go_spec_WalkOfNumbers_L0 (k : Nat) (a0 : (Int × (Int × ((List Int) × Unit)))) (a1 : (Int × (Int × Unit))) (a2 : (List Int)) : (Int × Int) → Option ((List Int) × (Bool × Unit)) :=
  iter k fun rec8 x7 => go_spec_WalkOfNumbers_L0_G k a0 a1 a2 (fun c0 y => go_spec_WalkOfNumbers_L1 k a0 a1 a2 c0 y) rec8 x7
theorem go_spec_WalkOfNumbers_L0_t (k : Nat) (a0 : (Int × (Int × ((List Int) × Unit)))) (a1 : (Int × (Int × Unit))) (a2 : (List Int)) (x : (Int × Int)) :
    iter k (loopAt (go_spec_WalkOfNumbers_C k) (bodyOf Go.Proofs.Try.f67) [1, 1, 1, 0, 1, 0] [] (finPure (go_spec_WalkOfNumbers_C k) Go.Proofs.Try.f67.results.toList true (.pr (.val (.sl I)) (.pr (.val .bool) .un)))) (go_spec_WalkOfNumbers_L0_E a0 a1 a2 x) = go_spec_WalkOfNumbers_L0 k a0 a1 a2 x := by
  refine iter_tie (G := fun rec x => go_spec_WalkOfNumbers_L0_G k a0 a1 a2 (fun c0 y => go_spec_WalkOfNumbers_L1 k a0 a1 a2 c0 y) rec x) (go_spec_WalkOfNumbers_L0_E a0 a1 a2) (fun rec x => ?_) k x
  have h : loopAt (go_spec_WalkOfNumbers_C k) (bodyOf Go.Proofs.Try.f67) [1, 1, 1, 0, 1, 0] [] (finPure (go_spec_WalkOfNumbers_C k) Go.Proofs.Try.f67.results.toList true (.pr (.val (.sl I)) (.pr (.val .bool) .un))) rec (go_spec_WalkOfNumbers_L0_E a0 a1 a2 x) = go_spec_WalkOfNumbers_L0_G k a0 a1 a2 (fun c0 y => iter k (loopAt (go_spec_WalkOfNumbers_C k) (bodyOf Go.Proofs.Try.f67) [1, 1, 1, 1, 1, 0, 1, 0] [] (finPure (go_spec_WalkOfNumbers_C k) Go.Proofs.Try.f67.results.toList true (.pr (.val (.sl I)) (.pr (.val .bool) .un)))) (go_spec_WalkOfNumbers_L1_E a0 a1 a2 c0 y)) (fun y => rec (go_spec_WalkOfNumbers_L0_E a0 a1 a2 y)) x := by kernel_rfl
  have h0 : (fun c0 y => iter k (loopAt (go_spec_WalkOfNumbers_C k) (bodyOf Go.Proofs.Try.f67) [1, 1, 1, 1, 1, 0, 1, 0] [] (finPure (go_spec_WalkOfNumbers_C k) Go.Proofs.Try.f67.results.toList true (.pr (.val (.sl I)) (.pr (.val .bool) .un)))) (go_spec_WalkOfNumbers_L1_E a0 a1 a2 c0 y)) = (fun c0 y => go_spec_WalkOfNumbers_L1 k a0 a1 a2 c0 y) := by
    funext c0 y
    exact go_spec_WalkOfNumbers_L1_t k a0 a1 a2 c0 y
  rw [h, h0]
def go_spec_WalkOfNumbers_T (k : Nat) (a0 : (Int × (Int × ((List Int) × Unit)))) (a1 : (Int × (Int × Unit))) (a2 : (List Int)) (l_0 : (Int × Int) → Option ((List Int) × (Bool × Unit))) : Option ((List Int) × (Bool × Unit)) :=
  (go_spec_boTwo k a0 a1).bind fun r1 =>
  (if (!((!r1) || (!decide ((a2.length : Int) = (IntKind.i64.wrap (a0.1 * a0.2.1)))))) = true then go_spec_l1All k a2 (0 : Int) (a2.length : Int) else some false).bind fun r2 =>
  if (((!r1) || (!decide ((a2.length : Int) = (IntKind.i64.wrap (a0.1 * a0.2.1))))) || (!r2)) = true then
    some ([], (false, ()))
  else
    l_0 ((0 : Int), (0 : Int))
def go_spec_WalkOfNumbers (k : Nat) (a0 : (Int × (Int × ((List Int) × Unit)))) (a1 : (Int × (Int × Unit))) (a2 : (List Int)) : Option ((List Int) × (Bool × Unit)) :=
  go_spec_WalkOfNumbers_T k a0 a1 a2 (fun y => go_spec_WalkOfNumbers_L0 k a0 a1 a2 y)
theorem go_spec_WalkOfNumbers_t (k : Nat) (a0 : (Int × (Int × ((List Int) × Unit)))) (a1 : (Int × (Int × Unit))) (a2 : (List Int)) : runPure (go_spec_WalkOfNumbers_C k) (bodyOf Go.Proofs.Try.f67) Go.Proofs.Try.f67.results.toList true (.pr (.val (.pair I (.pair I (.pair (.sl I) .unit)))) (.pr (.val (.pair I (.pair I .unit))) (.pr (.val (.sl I)) .un))) (.pr (.val (.sl I)) (.pr (.val .bool) .un)) (a0, a1, a2, ()) = go_spec_WalkOfNumbers k a0 a1 a2 := by
  have h : runPure (go_spec_WalkOfNumbers_C k) (bodyOf Go.Proofs.Try.f67) Go.Proofs.Try.f67.results.toList true (.pr (.val (.pair I (.pair I (.pair (.sl I) .unit)))) (.pr (.val (.pair I (.pair I .unit))) (.pr (.val (.sl I)) .un))) (.pr (.val (.sl I)) (.pr (.val .bool) .un)) (a0, a1, a2, ()) = go_spec_WalkOfNumbers_T k a0 a1 a2 (fun y => iter k (loopAt (go_spec_WalkOfNumbers_C k) (bodyOf Go.Proofs.Try.f67) [1, 1, 1, 0, 1, 0] [] (finPure (go_spec_WalkOfNumbers_C k) Go.Proofs.Try.f67.results.toList true (.pr (.val (.sl I)) (.pr (.val .bool) .un)))) (go_spec_WalkOfNumbers_L0_E a0 a1 a2 y)) := by kernel_rfl
  have h0 : (fun y => iter k (loopAt (go_spec_WalkOfNumbers_C k) (bodyOf Go.Proofs.Try.f67) [1, 1, 1, 0, 1, 0] [] (finPure (go_spec_WalkOfNumbers_C k) Go.Proofs.Try.f67.results.toList true (.pr (.val (.sl I)) (.pr (.val .bool) .un)))) (go_spec_WalkOfNumbers_L0_E a0 a1 a2 y)) = (fun y => go_spec_WalkOfNumbers_L0 k a0 a1 a2 y) := by
    funext y
    exact go_spec_WalkOfNumbers_L0_t k a0 a1 a2 y
  rw [h, h0]
  rfl
def go_spec_WalkOfNumbers_S (k : Nat) : Spec := ⟨(.pr (.val (.pair I (.pair I (.pair (.sl I) .unit)))) (.pr (.val (.pair I (.pair I .unit))) (.pr (.val (.sl I)) .un))), (.pr (.val (.sl I)) (.pr (.val .bool) .un)), true, .inl fun x => go_spec_WalkOfNumbers k x.1 x.2.1 x.2.2.1⟩
theorem go_spec_WalkOfNumbers_F (k : Nat) : Fits Go.Proofs.Try.prog (go_spec_WalkOfNumbers_C k) 67 Go.Proofs.Try.f67 (bodyOf Go.Proofs.Try.f67) (.pr (.val (.pair I (.pair I (.pair (.sl I) .unit)))) (.pr (.val (.pair I (.pair I .unit))) (.pr (.val (.sl I)) .un))) (.pr (.val (.sl I)) (.pr (.val .bool) .un)) true :=
  ⟨th0, mixed0, by kernel_rfl, Go.Proofs.Try.func67, rfl, by kernel_rfl, rfl, rfl, rfl, rfl, rfl, rfl⟩
theorem go_spec_WalkOfNumbers_M (k : Nat) : Meets Go.Proofs.Try.prog 67 (go_spec_WalkOfNumbers_S k) :=
  meets_pure (go_spec_WalkOfNumbers_F k) (sigs_all (l := [(116, go_spec_boTwo_S k), (131, go_spec_l1All_S k), (129, go_spec_toWalk_S k)]) rfl ⟨go_spec_boTwo_M k, ⟨go_spec_l1All_M k, ⟨go_spec_toWalk_M k, trivial⟩⟩⟩) rfl fun x => go_spec_WalkOfNumbers_t k x.1 x.2.1 x.2.2.1

/-! ### spec.ColoursForbid -/
def go_spec_ColoursForbid_C (k : Nat) : Ctx := { th := TH, se := SE, sg := [(116, go_spec_boTwo_S k), (93, go_spec_boCells_S k), (132, go_spec_l1Abs_S k)], mu := [], an := [(5, [(2, false), (7, false), (24, false), (25, false), (26, false)])], dr := [(7, 8)], pre := [], d2 := [], m := 0, fx := [], n := 51, k := k }
def go_spec_ColoursForbid_L0_E (a0 : (Int × (Int × ((List Int) × Unit)))) (a1 : (Int × (Int × Unit))) (r2 : (List Int)) (x7 : (Int × Int)) : St :=
  ⟨[(2, .one (.val (.pt (.pair I (.pair I (.pair (.sl I) .unit)))) (some a0)), []), (7, .one (.val I x7.1), []), (24, .one (.val (.sl I) r2), []), (25, .one (.val I (r2.length : Int)), []), (26, .one (.val I x7.2), [])], [], []⟩
def go_spec_ColoursForbid_L0_G (k : Nat) (a0 : (Int × (Int × ((List Int) × Unit)))) (a1 : (Int × (Int × Unit))) (r2 : (List Int)) (rec8 : (Int × Int) → Option (Bool × (Bool × (Bool × Unit)))) (x7 : (Int × Int)) : Option (Bool × (Bool × (Bool × Unit))) :=
  if (decide (x7.2 < (r2.length : Int))) = true then
    if (inb x7.2 r2.length) = true then
    if (decide (a0.1 ≠ 0)) = true then
    if (decide (a0.1 ≠ 0)) = true then
    if (decide ((Int.tmod (IntKind.i64.wrap ((Int.tmod (r2.getD x7.2.toNat (0 : Int)) a0.1) + (IntKind.i64.wrap (Int.tdiv (r2.getD x7.2.toNat (0 : Int)) a0.1)))) (2 : Int)) = (0 : Int))) = true then
      rec8 ((IntKind.i64.wrap (x7.1 + (1 : Int))), (IntKind.i64.wrap (x7.2 + (1 : Int))))
    else
      rec8 ((IntKind.i64.wrap (x7.1 - (1 : Int))), (IntKind.i64.wrap (x7.2 + (1 : Int))))
    else none
    else none
    else none
  else
    (go_spec_l1Abs k x7.1).bind fun r9 =>
    some ((decide ((1 : Int) < r9)), ((!decide (x7.1 = (0 : Int))), (true, ())))
def go_spec_ColoursForbid_L0 (k : Nat) (a0 : (Int × (Int × ((List Int) × Unit)))) (a1 : (Int × (Int × Unit))) (r2 : (List Int)) : (Int × Int) → Option (Bool × (Bool × (Bool × Unit))) :=
  iter k fun rec8 x7 => go_spec_ColoursForbid_L0_G k a0 a1 r2 rec8 x7
theorem go_spec_ColoursForbid_L0_t (k : Nat) (a0 : (Int × (Int × ((List Int) × Unit)))) (a1 : (Int × (Int × Unit))) (r2 : (List Int)) (x : (Int × Int)) :
    iter k (loopAt (go_spec_ColoursForbid_C k) (bodyOf Go.Proofs.Try.f68) [1, 1, 1, 0, 1, 0] [] (finPure (go_spec_ColoursForbid_C k) Go.Proofs.Try.f68.results.toList true (.pr (.val .bool) (.pr (.val .bool) (.pr (.val .bool) .un))))) (go_spec_ColoursForbid_L0_E a0 a1 r2 x) = go_spec_ColoursForbid_L0 k a0 a1 r2 x := by
  refine iter_tie (G := fun rec x => go_spec_ColoursForbid_L0_G k a0 a1 r2 rec x) (go_spec_ColoursForbid_L0_E a0 a1 r2) (fun rec x => ?_) k x
  have h : loopAt (go_spec_ColoursForbid_C k) (bodyOf Go.Proofs.Try.f68) [1, 1, 1, 0, 1, 0] [] (finPure (go_spec_ColoursForbid_C k) Go.Proofs.Try.f68.results.toList true (.pr (.val .bool) (.pr (.val .bool) (.pr (.val .bool) .un)))) rec (go_spec_ColoursForbid_L0_E a0 a1 r2 x) = go_spec_ColoursForbid_L0_G k a0 a1 r2 (fun y => rec (go_spec_ColoursForbid_L0_E a0 a1 r2 y)) x := by kernel_rfl
  rw [h]
def go_spec_ColoursForbid_T (k : Nat) (a0 : (Int × (Int × ((List Int) × Unit)))) (a1 : (Int × (Int × Unit))) (l_0 : (List Int) → (Int × Int) → Option (Bool × (Bool × (Bool × Unit)))) : Option (Bool × (Bool × (Bool × Unit))) :=
  (go_spec_boTwo k a0 a1).bind fun r1 =>
  if (!(!(!r1)) || true) = true then
  if ((!r1) || (decide ((Int.tmod (IntKind.i64.wrap (a1.1 + a1.2.1)) (2 : Int)) = (0 : Int)))) = true then
    some (false, (false, (false, ())))
  else
    (go_spec_boCells k a0).bind fun r2 =>
    l_0 r2 ((0 : Int), (0 : Int))
  else none
def go_spec_ColoursForbid (k : Nat) (a0 : (Int × (Int × ((List Int) × Unit)))) (a1 : (Int × (Int × Unit))) : Option (Bool × (Bool × (Bool × Unit))) :=
  go_spec_ColoursForbid_T k a0 a1 (fun r2 y => go_spec_ColoursForbid_L0 k a0 a1 r2 y)
theorem go_spec_ColoursForbid_t (k : Nat) (a0 : (Int × (Int × ((List Int) × Unit)))) (a1 : (Int × (Int × Unit))) : runPure (go_spec_ColoursForbid_C k) (bodyOf Go.Proofs.Try.f68) Go.Proofs.Try.f68.results.toList true (.pr (.val (.pair I (.pair I (.pair (.sl I) .unit)))) (.pr (.val (.pair I (.pair I .unit))) .un)) (.pr (.val .bool) (.pr (.val .bool) (.pr (.val .bool) .un))) (a0, a1, ()) = go_spec_ColoursForbid k a0 a1 := by
  have h : runPure (go_spec_ColoursForbid_C k) (bodyOf Go.Proofs.Try.f68) Go.Proofs.Try.f68.results.toList true (.pr (.val (.pair I (.pair I (.pair (.sl I) .unit)))) (.pr (.val (.pair I (.pair I .unit))) .un)) (.pr (.val .bool) (.pr (.val .bool) (.pr (.val .bool) .un))) (a0, a1, ()) = go_spec_ColoursForbid_T k a0 a1 (fun r2 y => iter k (loopAt (go_spec_ColoursForbid_C k) (bodyOf Go.Proofs.Try.f68) [1, 1, 1, 0, 1, 0] [] (finPure (go_spec_ColoursForbid_C k) Go.Proofs.Try.f68.results.toList true (.pr (.val .bool) (.pr (.val .bool) (.pr (.val .bool) .un))))) (go_spec_ColoursForbid_L0_E a0 a1 r2 y)) := by kernel_rfl
  have h0 : (fun r2 y => iter k (loopAt (go_spec_ColoursForbid_C k) (bodyOf Go.Proofs.Try.f68) [1, 1, 1, 0, 1, 0] [] (finPure (go_spec_ColoursForbid_C k) Go.Proofs.Try.f68.results.toList true (.pr (.val .bool) (.pr (.val .bool) (.pr (.val .bool) .un))))) (go_spec_ColoursForbid_L0_E a0 a1 r2 y)) = (fun r2 y => go_spec_ColoursForbid_L0 k a0 a1 r2 y) := by
    funext r2 y
    exact go_spec_ColoursForbid_L0_t k a0 a1 r2 y
  rw [h, h0]
  rfl
def go_spec_ColoursForbid_S (k : Nat) : Spec := ⟨(.pr (.val (.pair I (.pair I (.pair (.sl I) .unit)))) (.pr (.val (.pair I (.pair I .unit))) .un)), (.pr (.val .bool) (.pr (.val .bool) (.pr (.val .bool) .un))), true, .inl fun x => go_spec_ColoursForbid k x.1 x.2.1⟩
theorem go_spec_ColoursForbid_F (k : Nat) : Fits Go.Proofs.Try.prog (go_spec_ColoursForbid_C k) 68 Go.Proofs.Try.f68 (bodyOf Go.Proofs.Try.f68) (.pr (.val (.pair I (.pair I (.pair (.sl I) .unit)))) (.pr (.val (.pair I (.pair I .unit))) .un)) (.pr (.val .bool) (.pr (.val .bool) (.pr (.val .bool) .un))) true :=
  ⟨th0, mixed0, by kernel_rfl, Go.Proofs.Try.func68, rfl, by kernel_rfl, rfl, rfl, rfl, rfl, rfl, rfl⟩
theorem go_spec_ColoursForbid_M (k : Nat) : Meets Go.Proofs.Try.prog 68 (go_spec_ColoursForbid_S k) :=
  meets_pure (go_spec_ColoursForbid_F k) (sigs_all (l := [(116, go_spec_boTwo_S k), (93, go_spec_boCells_S k), (132, go_spec_l1Abs_S k)]) rfl ⟨go_spec_boTwo_M k, ⟨go_spec_boCells_M k, ⟨go_spec_l1Abs_M k, trivial⟩⟩⟩) rfl fun x => go_spec_ColoursForbid_t k x.1 x.2.1

/-! ### laws.FnWalksOnwardOfAll -/
def go_laws_FnWalksOnwardOfAll_C (k : Nat) : Ctx := { th := TH, se := SE, sg := [(58, go_impl_FewestOnward_S k), (59, go_spec_FewestOnward_S k), (39, go_laws_ySame_S k), (47, go_impl_IsWalk_S k), (60, go_impl_LeapsFrom_S k), (61, go_laws_yHas_S k), (53, go_impl_NumbersOfWalk_S k), (62, go_spec_NumbersOfWalk_S k), (63, go_spec_IsWalk_S k), (41, go_impl_IsTour_S k), (64, go_spec_IsTour_S k), (65, go_impl_WalkOfNumbers_S k), (66, go_impl_CountCells_S k), (67, go_spec_WalkOfNumbers_S k), (43, go_impl_ColoursForbid_S k), (68, go_spec_ColoursForbid_S k), (69, go_impl_IsBoard_S k), (70, go_impl_IsLeaper_S k)], mu := [], an := [(13, [(5, false), (8, false), (14, false), (15, false), (17, false), (18, false), (20, false), (21, false), (23, false), (131, false), (132, false), (133, false)]), (32, [(8, false), (17, false), (18, false), (20, false), (21, false), (33, false), (271, false), (272, false), (273, false)])], dr := [(9, 13)], pre := [], d2 := [], m := 0, fx := [], n := 378, k := k }
def go_laws_FnWalksOnwardOfAll_L0_E (a0 : (Int × (Int × ((List Int) × Unit)))) (a1 : (Int × (Int × Unit))) (a2 : Int) (a3 : (Int × (Int × ((List Int) × Unit)))) (a4 : (Int × (Int × Unit))) (a5 : (List Int)) (a6 : (Int × (Int × ((List Int) × Unit)))) (a7 : (Int × (Int × Unit))) (a8 : (List Int)) (a9 : (Int × (Int × ((List Int) × Unit)))) (a10 : (Int × (Int × Unit))) (r1 : ((List Int) × (Bool × Unit))) (r5 : ((List Int) × (Bool × Unit))) (x9 : (Int)) : St :=
  ⟨[(5, .one (.val (.sl I) a5), []), (8, .one (.val (.sl I) a8), []), (14, .one (.val (.pt (.pair I (.pair I (.pair (.sl I) .unit)))) (some a3)), []), (15, .one (.val (.pt (.pair I (.pair I .unit))) (some a4)), []), (17, .one (.val (.pt (.pair I (.pair I (.pair (.sl I) .unit)))) (some a6)), []), (18, .one (.val (.pt (.pair I (.pair I .unit))) (some a7)), []), (20, .one (.val (.pt (.pair I (.pair I (.pair (.sl I) .unit)))) (some a9)), []), (21, .one (.val (.pt (.pair I (.pair I .unit))) (some a10)), []), (23, .one (.val (.sl I) r1.1), []), (131, .one (.val (.sl I) r5.1), []), (132, .one (.val I (r5.1.length : Int)), []), (133, .one (.val I x9), [])], [], []⟩
def go_laws_FnWalksOnwardOfAll_L1_E (a0 : (Int × (Int × ((List Int) × Unit)))) (a1 : (Int × (Int × Unit))) (a2 : Int) (a3 : (Int × (Int × ((List Int) × Unit)))) (a4 : (Int × (Int × Unit))) (a5 : (List Int)) (a6 : (Int × (Int × ((List Int) × Unit)))) (a7 : (Int × (Int × Unit))) (a8 : (List Int)) (a9 : (Int × (Int × ((List Int) × Unit)))) (a10 : (Int × (Int × Unit))) (r12 : ((List Int) × (Bool × Unit))) (x24 : (Int)) : St :=
  ⟨[(8, .one (.val (.sl I) a8), []), (17, .one (.val (.pt (.pair I (.pair I (.pair (.sl I) .unit)))) (some a6)), []), (18, .one (.val (.pt (.pair I (.pair I .unit))) (some a7)), []), (20, .one (.val (.pt (.pair I (.pair I (.pair (.sl I) .unit)))) (some a9)), []), (21, .one (.val (.pt (.pair I (.pair I .unit))) (some a10)), []), (33, .one (.val (.sl I) r12.1), []), (271, .one (.val (.sl I) a5), []), (272, .one (.val I (a5.length : Int)), []), (273, .one (.val I x24), [])], [], []⟩
def go_laws_FnWalksOnwardOfAll_L2_E (a0 : (Int × (Int × ((List Int) × Unit)))) (a1 : (Int × (Int × Unit))) (a2 : Int) (a3 : (Int × (Int × ((List Int) × Unit)))) (a4 : (Int × (Int × Unit))) (a5 : (List Int)) (a6 : (Int × (Int × ((List Int) × Unit)))) (a7 : (Int × (Int × Unit))) (a8 : (List Int)) (a9 : (Int × (Int × ((List Int) × Unit)))) (a10 : (Int × (Int × Unit))) (r52 : ((List Int) × (Bool × Unit))) (x64 : (Int)) : St :=
  ⟨[(8, .one (.val (.sl I) a8), []), (17, .one (.val (.pt (.pair I (.pair I (.pair (.sl I) .unit)))) (some a6)), []), (18, .one (.val (.pt (.pair I (.pair I .unit))) (some a7)), []), (20, .one (.val (.pt (.pair I (.pair I (.pair (.sl I) .unit)))) (some a9)), []), (21, .one (.val (.pt (.pair I (.pair I .unit))) (some a10)), []), (33, .one (.val (.sl I) r52.1), []), (271, .one (.val (.sl I) a5), []), (272, .one (.val I (a5.length : Int)), []), (273, .one (.val I x64), [])], [], []⟩
def go_laws_FnWalksOnwardOfAll_L2_G (k : Nat) (a0 : (Int × (Int × ((List Int) × Unit)))) (a1 : (Int × (Int × Unit))) (a2 : Int) (a3 : (Int × (Int × ((List Int) × Unit)))) (a4 : (Int × (Int × Unit))) (a5 : (List Int)) (a6 : (Int × (Int × ((List Int) × Unit)))) (a7 : (Int × (Int × Unit))) (a8 : (List Int)) (a9 : (Int × (Int × ((List Int) × Unit)))) (a10 : (Int × (Int × Unit))) (r52 : ((List Int) × (Bool × Unit))) (rec65 : (Int) → Option Bool) (x64 : (Int)) : Option Bool :=
  if (decide (x64 < (a5.length : Int))) = true then
    if (inb x64 a5.length) = true then
    if (inb (a5.getD x64.toNat (0 : Int)) r52.1.length) = true then
    if (!decide ((r52.1.getD (a5.getD x64.toNat (0 : Int)).toNat (0 : Int)) = (IntKind.i64.wrap (x64 + (1 : Int))))) = true then
      some false
    else
      rec65 (IntKind.i64.wrap (x64 + (1 : Int)))
    else none
    else none
  else
    (go_impl_WalkOfNumbers k a6 a7 a8).bind fun r66 =>
    (go_spec_WalkOfNumbers k a6 a7 a8).bind fun r67 =>
    (if (!(r66.2.1 != r67.2.1)) = true then go_laws_ySame k r66.1 r67.1 else some false).bind fun r68 =>
    if ((r66.2.1 != r67.2.1) || (!r68)) = true then
      some false
    else
      if r66.2.1 = true then
        (go_impl_NumbersOfWalk k a6 a7 r66.1).bind fun r69 =>
        (if (!(!r69.2.1)) = true then go_laws_ySame k r69.1 a8 else some false).bind fun r70 =>
        if ((!r69.2.1) || (!r70)) = true then
          some false
        else
          (go_impl_ColoursForbid k a9 a10).bind fun r71 =>
          (go_spec_ColoursForbid k a9 a10).bind fun r72 =>
          (if ((((r71.2.2.1 == r72.2.2.1) && (r71.1 == r72.1)) && (r71.2.1 == r72.2.1)) && ((!r71.1) || r71.2.1)) = true then go_impl_IsBoard k a9 else some false).bind fun r73 =>
          (if (r73 && ((((r71.2.2.1 == r72.2.2.1) && (r71.1 == r72.1)) && (r71.2.1 == r72.2.1)) && ((!r71.1) || r71.2.1))) = true then go_impl_IsLeaper k a10 else some false).bind fun r74 =>
          if (!((r73 && r74) && ((((r71.2.2.1 == r72.2.2.1) && (r71.1 == r72.1)) && (r71.2.1 == r72.2.1)) && ((!r71.1) || r71.2.1))) || true) = true then
          some (((((r71.2.2.1 == r72.2.2.1) && (r71.1 == r72.1)) && (r71.2.1 == r72.2.1)) && ((!r71.1) || r71.2.1)) && (r71.2.2.1 == ((r73 && r74) && (!decide ((Int.tmod (IntKind.i64.wrap (a10.1 + a10.2.1)) (2 : Int)) = (0 : Int))))))
          else none
      else
        (go_impl_ColoursForbid k a9 a10).bind fun r75 =>
        (go_spec_ColoursForbid k a9 a10).bind fun r76 =>
        (if ((((r75.2.2.1 == r76.2.2.1) && (r75.1 == r76.1)) && (r75.2.1 == r76.2.1)) && ((!r75.1) || r75.2.1)) = true then go_impl_IsBoard k a9 else some false).bind fun r77 =>
        (if (r77 && ((((r75.2.2.1 == r76.2.2.1) && (r75.1 == r76.1)) && (r75.2.1 == r76.2.1)) && ((!r75.1) || r75.2.1))) = true then go_impl_IsLeaper k a10 else some false).bind fun r78 =>
        if (!((r77 && r78) && ((((r75.2.2.1 == r76.2.2.1) && (r75.1 == r76.1)) && (r75.2.1 == r76.2.1)) && ((!r75.1) || r75.2.1))) || true) = true then
        some (((((r75.2.2.1 == r76.2.2.1) && (r75.1 == r76.1)) && (r75.2.1 == r76.2.1)) && ((!r75.1) || r75.2.1)) && (r75.2.2.1 == ((r77 && r78) && (!decide ((Int.tmod (IntKind.i64.wrap (a10.1 + a10.2.1)) (2 : Int)) = (0 : Int))))))
        else none
def go_laws_FnWalksOnwardOfAll_L2 (k : Nat) (a0 : (Int × (Int × ((List Int) × Unit)))) (a1 : (Int × (Int × Unit))) (a2 : Int) (a3 : (Int × (Int × ((List Int) × Unit)))) (a4 : (Int × (Int × Unit))) (a5 : (List Int)) (a6 : (Int × (Int × ((List Int) × Unit)))) (a7 : (Int × (Int × Unit))) (a8 : (List Int)) (a9 : (Int × (Int × ((List Int) × Unit)))) (a10 : (Int × (Int × Unit))) (r52 : ((List Int) × (Bool × Unit))) : (Int) → Option Bool :=
  iter k fun rec65 x64 => go_laws_FnWalksOnwardOfAll_L2_G k a0 a1 a2 a3 a4 a5 a6 a7 a8 a9 a10 r52 rec65 x64
theorem go_laws_FnWalksOnwardOfAll_L2_t (k : Nat) (a0 : (Int × (Int × ((List Int) × Unit)))) (a1 : (Int × (Int × Unit))) (a2 : Int) (a3 : (Int × (Int × ((List Int) × Unit)))) (a4 : (Int × (Int × Unit))) (a5 : (List Int)) (a6 : (Int × (Int × ((List Int) × Unit)))) (a7 : (Int × (Int × Unit))) (a8 : (List Int)) (a9 : (Int × (Int × ((List Int) × Unit)))) (a10 : (Int × (Int × Unit))) (r52 : ((List Int) × (Bool × Unit))) (x : (Int)) :
    iter k (loopAt (go_laws_FnWalksOnwardOfAll_C k) (bodyOf Go.Proofs.Try.f13) [1, 1, 1, 1, 1, 1, 1, 1, 1, 1, 1, 1, 1, 0, 1, 0, 1, 1, 1, 1, 0] [] (finPure (go_laws_FnWalksOnwardOfAll_C k) Go.Proofs.Try.f13.results.toList false (.val .bool))) (go_laws_FnWalksOnwardOfAll_L2_E a0 a1 a2 a3 a4 a5 a6 a7 a8 a9 a10 r52 x) = go_laws_FnWalksOnwardOfAll_L2 k a0 a1 a2 a3 a4 a5 a6 a7 a8 a9 a10 r52 x := by
  refine iter_tie (G := fun rec x => go_laws_FnWalksOnwardOfAll_L2_G k a0 a1 a2 a3 a4 a5 a6 a7 a8 a9 a10 r52 rec x) (go_laws_FnWalksOnwardOfAll_L2_E a0 a1 a2 a3 a4 a5 a6 a7 a8 a9 a10 r52) (fun rec x => ?_) k x
  have h : loopAt (go_laws_FnWalksOnwardOfAll_C k) (bodyOf Go.Proofs.Try.f13) [1, 1, 1, 1, 1, 1, 1, 1, 1, 1, 1, 1, 1, 0, 1, 0, 1, 1, 1, 1, 0] [] (finPure (go_laws_FnWalksOnwardOfAll_C k) Go.Proofs.Try.f13.results.toList false (.val .bool)) rec (go_laws_FnWalksOnwardOfAll_L2_E a0 a1 a2 a3 a4 a5 a6 a7 a8 a9 a10 r52 x) = go_laws_FnWalksOnwardOfAll_L2_G k a0 a1 a2 a3 a4 a5 a6 a7 a8 a9 a10 r52 (fun y => rec (go_laws_FnWalksOnwardOfAll_L2_E a0 a1 a2 a3 a4 a5 a6 a7 a8 a9 a10 r52 y)) x := by kernel_rfl
  rw [h]
def go_laws_FnWalksOnwardOfAll_L1_G (k : Nat) (a0 : (Int × (Int × ((List Int) × Unit)))) (a1 : (Int × (Int × Unit))) (a2 : Int) (a3 : (Int × (Int × ((List Int) × Unit)))) (a4 : (Int × (Int × Unit))) (a5 : (List Int)) (a6 : (Int × (Int × ((List Int) × Unit)))) (a7 : (Int × (Int × Unit))) (a8 : (List Int)) (a9 : (Int × (Int × ((List Int) × Unit)))) (a10 : (Int × (Int × Unit))) (r12 : ((List Int) × (Bool × Unit))) (rec25 : (Int) → Option Bool) (x24 : (Int)) : Option Bool :=
  if (decide (x24 < (a5.length : Int))) = true then
    if (inb x24 a5.length) = true then
    if (inb (a5.getD x24.toNat (0 : Int)) r12.1.length) = true then
    if (!decide ((r12.1.getD (a5.getD x24.toNat (0 : Int)).toNat (0 : Int)) = (IntKind.i64.wrap (x24 + (1 : Int))))) = true then
      some false
    else
      rec25 (IntKind.i64.wrap (x24 + (1 : Int)))
    else none
    else none
  else
    (go_impl_WalkOfNumbers k a6 a7 a8).bind fun r26 =>
    (go_spec_WalkOfNumbers k a6 a7 a8).bind fun r27 =>
    (if (!(r26.2.1 != r27.2.1)) = true then go_laws_ySame k r26.1 r27.1 else some false).bind fun r28 =>
    if ((r26.2.1 != r27.2.1) || (!r28)) = true then
      some false
    else
      if r26.2.1 = true then
        (go_impl_NumbersOfWalk k a6 a7 r26.1).bind fun r29 =>
        (if (!(!r29.2.1)) = true then go_laws_ySame k r29.1 a8 else some false).bind fun r30 =>
        if ((!r29.2.1) || (!r30)) = true then
          some false
        else
          (go_impl_ColoursForbid k a9 a10).bind fun r31 =>
          (go_spec_ColoursForbid k a9 a10).bind fun r32 =>
          (if ((((r31.2.2.1 == r32.2.2.1) && (r31.1 == r32.1)) && (r31.2.1 == r32.2.1)) && ((!r31.1) || r31.2.1)) = true then go_impl_IsBoard k a9 else some false).bind fun r33 =>
          (if (r33 && ((((r31.2.2.1 == r32.2.2.1) && (r31.1 == r32.1)) && (r31.2.1 == r32.2.1)) && ((!r31.1) || r31.2.1))) = true then go_impl_IsLeaper k a10 else some false).bind fun r34 =>
          if (!((r33 && r34) && ((((r31.2.2.1 == r32.2.2.1) && (r31.1 == r32.1)) && (r31.2.1 == r32.2.1)) && ((!r31.1) || r31.2.1))) || true) = true then
          some (((((r31.2.2.1 == r32.2.2.1) && (r31.1 == r32.1)) && (r31.2.1 == r32.2.1)) && ((!r31.1) || r31.2.1)) && (r31.2.2.1 == ((r33 && r34) && (!decide ((Int.tmod (IntKind.i64.wrap (a10.1 + a10.2.1)) (2 : Int)) = (0 : Int))))))
          else none
      else
        (go_impl_ColoursForbid k a9 a10).bind fun r35 =>
        (go_spec_ColoursForbid k a9 a10).bind fun r36 =>
        (if ((((r35.2.2.1 == r36.2.2.1) && (r35.1 == r36.1)) && (r35.2.1 == r36.2.1)) && ((!r35.1) || r35.2.1)) = true then go_impl_IsBoard k a9 else some false).bind fun r37 =>
        (if (r37 && ((((r35.2.2.1 == r36.2.2.1) && (r35.1 == r36.1)) && (r35.2.1 == r36.2.1)) && ((!r35.1) || r35.2.1))) = true then go_impl_IsLeaper k a10 else some false).bind fun r38 =>
        if (!((r37 && r38) && ((((r35.2.2.1 == r36.2.2.1) && (r35.1 == r36.1)) && (r35.2.1 == r36.2.1)) && ((!r35.1) || r35.2.1))) || true) = true then
        some (((((r35.2.2.1 == r36.2.2.1) && (r35.1 == r36.1)) && (r35.2.1 == r36.2.1)) && ((!r35.1) || r35.2.1)) && (r35.2.2.1 == ((r37 && r38) && (!decide ((Int.tmod (IntKind.i64.wrap (a10.1 + a10.2.1)) (2 : Int)) = (0 : Int))))))
        else none
def go_laws_FnWalksOnwardOfAll_L1 (k : Nat) (a0 : (Int × (Int × ((List Int) × Unit)))) (a1 : (Int × (Int × Unit))) (a2 : Int) (a3 : (Int × (Int × ((List Int) × Unit)))) (a4 : (Int × (Int × Unit))) (a5 : (List Int)) (a6 : (Int × (Int × ((List Int) × Unit)))) (a7 : (Int × (Int × Unit))) (a8 : (List Int)) (a9 : (Int × (Int × ((List Int) × Unit)))) (a10 : (Int × (Int × Unit))) (r12 : ((List Int) × (Bool × Unit))) : (Int) → Option Bool :=
  iter k fun rec25 x24 => go_laws_FnWalksOnwardOfAll_L1_G k a0 a1 a2 a3 a4 a5 a6 a7 a8 a9 a10 r12 rec25 x24
theorem go_laws_FnWalksOnwardOfAll_L1_t (k : Nat) (a0 : (Int × (Int × ((List Int) × Unit)))) (a1 : (Int × (Int × Unit))) (a2 : Int) (a3 : (Int × (Int × ((List Int) × Unit)))) (a4 : (Int × (Int × Unit))) (a5 : (List Int)) (a6 : (Int × (Int × ((List Int) × Unit)))) (a7 : (Int × (Int × Unit))) (a8 : (List Int)) (a9 : (Int × (Int × ((List Int) × Unit)))) (a10 : (Int × (Int × Unit))) (r12 : ((List Int) × (Bool × Unit))) (x : (Int)) :
    iter k (loopAt (go_laws_FnWalksOnwardOfAll_C k) (bodyOf Go.Proofs.Try.f13) [1, 1, 1, 1, 1, 1, 1, 1, 1, 1, 1, 1, 1, 0, 1, 0, 1, 1, 1, 1, 0] [] (finPure (go_laws_FnWalksOnwardOfAll_C k) Go.Proofs.Try.f13.results.toList false (.val .bool))) (go_laws_FnWalksOnwardOfAll_L1_E a0 a1 a2 a3 a4 a5 a6 a7 a8 a9 a10 r12 x) = go_laws_FnWalksOnwardOfAll_L1 k a0 a1 a2 a3 a4 a5 a6 a7 a8 a9 a10 r12 x := by
  refine iter_tie (G := fun rec x => go_laws_FnWalksOnwardOfAll_L1_G k a0 a1 a2 a3 a4 a5 a6 a7 a8 a9 a10 r12 rec x) (go_laws_FnWalksOnwardOfAll_L1_E a0 a1 a2 a3 a4 a5 a6 a7 a8 a9 a10 r12) (fun rec x => ?_) k x
  have h : loopAt (go_laws_FnWalksOnwardOfAll_C k) (bodyOf Go.Proofs.Try.f13) [1, 1, 1, 1, 1, 1, 1, 1, 1, 1, 1, 1, 1, 0, 1, 0, 1, 1, 1, 1, 0] [] (finPure (go_laws_FnWalksOnwardOfAll_C k) Go.Proofs.Try.f13.results.toList false (.val .bool)) rec (go_laws_FnWalksOnwardOfAll_L1_E a0 a1 a2 a3 a4 a5 a6 a7 a8 a9 a10 r12 x) = go_laws_FnWalksOnwardOfAll_L1_G k a0 a1 a2 a3 a4 a5 a6 a7 a8 a9 a10 r12 (fun y => rec (go_laws_FnWalksOnwardOfAll_L1_E a0 a1 a2 a3 a4 a5 a6 a7 a8 a9 a10 r12 y)) x := by kernel_rfl
  rw [h]
def go_laws_FnWalksOnwardOfAll_L0_G (k : Nat) (a0 : (Int × (Int × ((List Int) × Unit)))) (a1 : (Int × (Int × Unit))) (a2 : Int) (a3 : (Int × (Int × ((List Int) × Unit)))) (a4 : (Int × (Int × Unit))) (a5 : (List Int)) (a6 : (Int × (Int × ((List Int) × Unit)))) (a7 : (Int × (Int × Unit))) (a8 : (List Int)) (a9 : (Int × (Int × ((List Int) × Unit)))) (a10 : (Int × (Int × Unit))) (r1 : ((List Int) × (Bool × Unit))) (r5 : ((List Int) × (Bool × Unit))) (l_1 : ((List Int) × (Bool × Unit)) → (Int) → Option Bool) (rec10 : (Int) → Option Bool) (x9 : (Int)) : Option Bool :=
  if (decide (x9 < (r5.1.length : Int))) = true then
    if (inb x9 r5.1.length) = true then
    (go_laws_yHas k r1.1 (r5.1.getD x9.toNat (0 : Int))).bind fun r11 =>
    if (!r11) = true then
      some false
    else
      rec10 (IntKind.i64.wrap (x9 + (1 : Int)))
    else none
  else
    (go_impl_NumbersOfWalk k a3 a4 a5).bind fun r12 =>
    (go_spec_NumbersOfWalk k a3 a4 a5).bind fun r13 =>
    (go_impl_IsWalk k a3 a4 a5).bind fun r14 =>
    (go_spec_IsWalk k a3 a4 a5).bind fun r15 =>
    (go_impl_IsTour k a3 a4 a5).bind fun r16 =>
    (go_spec_IsTour k a3 a4 a5).bind fun r17 =>
    (if (!(r12.2.1 != r13.2.1)) = true then go_laws_ySame k r12.1 r13.1 else some false).bind fun r18 =>
    if ((((((((r12.2.1 != r13.2.1) || (!r18)) || (r14.2.1 != r15.2.1)) || (r14.1 != r15.1)) || (r16.2.1 != r17.2.1)) || (r16.1 != r17.1)) || (r12.2.1 != (r14.2.1 && r14.1))) || (r16.1 && (!r14.1))) = true then
      some false
    else
      if r12.2.1 = true then
        (go_impl_WalkOfNumbers k a3 a4 r12.1).bind fun r19 =>
        (go_impl_CountCells k a3).bind fun r20 =>
        (if (!(!r19.2.1)) = true then go_laws_ySame k r19.1 a5 else some false).bind fun r21 =>
        if (((((!r19.2.1) || (!r21)) || (!decide ((r12.1.length : Int) = (IntKind.i64.wrap (a3.1 * a3.2.1))))) || (!r20.2.1)) || (r16.1 != (decide ((a5.length : Int) = r20.1)))) = true then
          some false
        else
          l_1 r12 (0 : Int)
      else
        (go_impl_WalkOfNumbers k a6 a7 a8).bind fun r39 =>
        (go_spec_WalkOfNumbers k a6 a7 a8).bind fun r40 =>
        (if (!(r39.2.1 != r40.2.1)) = true then go_laws_ySame k r39.1 r40.1 else some false).bind fun r41 =>
        if ((r39.2.1 != r40.2.1) || (!r41)) = true then
          some false
        else
          if r39.2.1 = true then
            (go_impl_NumbersOfWalk k a6 a7 r39.1).bind fun r42 =>
            (if (!(!r42.2.1)) = true then go_laws_ySame k r42.1 a8 else some false).bind fun r43 =>
            if ((!r42.2.1) || (!r43)) = true then
              some false
            else
              (go_impl_ColoursForbid k a9 a10).bind fun r44 =>
              (go_spec_ColoursForbid k a9 a10).bind fun r45 =>
              (if ((((r44.2.2.1 == r45.2.2.1) && (r44.1 == r45.1)) && (r44.2.1 == r45.2.1)) && ((!r44.1) || r44.2.1)) = true then go_impl_IsBoard k a9 else some false).bind fun r46 =>
              (if (r46 && ((((r44.2.2.1 == r45.2.2.1) && (r44.1 == r45.1)) && (r44.2.1 == r45.2.1)) && ((!r44.1) || r44.2.1))) = true then go_impl_IsLeaper k a10 else some false).bind fun r47 =>
              if (!((r46 && r47) && ((((r44.2.2.1 == r45.2.2.1) && (r44.1 == r45.1)) && (r44.2.1 == r45.2.1)) && ((!r44.1) || r44.2.1))) || true) = true then
              some (((((r44.2.2.1 == r45.2.2.1) && (r44.1 == r45.1)) && (r44.2.1 == r45.2.1)) && ((!r44.1) || r44.2.1)) && (r44.2.2.1 == ((r46 && r47) && (!decide ((Int.tmod (IntKind.i64.wrap (a10.1 + a10.2.1)) (2 : Int)) = (0 : Int))))))
              else none
          else
            (go_impl_ColoursForbid k a9 a10).bind fun r48 =>
            (go_spec_ColoursForbid k a9 a10).bind fun r49 =>
            (if ((((r48.2.2.1 == r49.2.2.1) && (r48.1 == r49.1)) && (r48.2.1 == r49.2.1)) && ((!r48.1) || r48.2.1)) = true then go_impl_IsBoard k a9 else some false).bind fun r50 =>
            (if (r50 && ((((r48.2.2.1 == r49.2.2.1) && (r48.1 == r49.1)) && (r48.2.1 == r49.2.1)) && ((!r48.1) || r48.2.1))) = true then go_impl_IsLeaper k a10 else some false).bind fun r51 =>
            if (!((r50 && r51) && ((((r48.2.2.1 == r49.2.2.1) && (r48.1 == r49.1)) && (r48.2.1 == r49.2.1)) && ((!r48.1) || r48.2.1))) || true) = true then
            some (((((r48.2.2.1 == r49.2.2.1) && (r48.1 == r49.1)) && (r48.2.1 == r49.2.1)) && ((!r48.1) || r48.2.1)) && (r48.2.2.1 == ((r50 && r51) && (!decide ((Int.tmod (IntKind.i64.wrap (a10.1 + a10.2.1)) (2 : Int)) = (0 : Int))))))
            else none
def go_laws_FnWalksOnwardOfAll_L0 (k : Nat) (a0 : (Int × (Int × ((List Int) × Unit)))) (a1 : (Int × (Int × Unit))) (a2 : Int) (a3 : (Int × (Int × ((List Int) × Unit)))) (a4 : (Int × (Int × Unit))) (a5 : (List Int)) (a6 : (Int × (Int × ((List Int) × Unit)))) (a7 : (Int × (Int × Unit))) (a8 : (List Int)) (a9 : (Int × (Int × ((List Int) × Unit)))) (a10 : (Int × (Int × Unit))) (r1 : ((List Int) × (Bool × Unit))) (r5 : ((List Int) × (Bool × Unit))) : (Int) → Option Bool :=
  iter k fun rec10 x9 => go_laws_FnWalksOnwardOfAll_L0_G k a0 a1 a2 a3 a4 a5 a6 a7 a8 a9 a10 r1 r5 (fun c0 y => go_laws_FnWalksOnwardOfAll_L1 k a0 a1 a2 a3 a4 a5 a6 a7 a8 a9 a10 c0 y) rec10 x9
theorem go_laws_FnWalksOnwardOfAll_L0_t (k : Nat) (a0 : (Int × (Int × ((List Int) × Unit)))) (a1 : (Int × (Int × Unit))) (a2 : Int) (a3 : (Int × (Int × ((List Int) × Unit)))) (a4 : (Int × (Int × Unit))) (a5 : (List Int)) (a6 : (Int × (Int × ((List Int) × Unit)))) (a7 : (Int × (Int × Unit))) (a8 : (List Int)) (a9 : (Int × (Int × ((List Int) × Unit)))) (a10 : (Int × (Int × Unit))) (r1 : ((List Int) × (Bool × Unit))) (r5 : ((List Int) × (Bool × Unit))) (x : (Int)) :
    iter k (loopAt (go_laws_FnWalksOnwardOfAll_C k) (bodyOf Go.Proofs.Try.f13) [1, 1, 1, 1, 1, 0, 1, 0, 1, 1, 1, 1, 0] [] (finPure (go_laws_FnWalksOnwardOfAll_C k) Go.Proofs.Try.f13.results.toList false (.val .bool))) (go_laws_FnWalksOnwardOfAll_L0_E a0 a1 a2 a3 a4 a5 a6 a7 a8 a9 a10 r1 r5 x) = go_laws_FnWalksOnwardOfAll_L0 k a0 a1 a2 a3 a4 a5 a6 a7 a8 a9 a10 r1 r5 x := by
  refine iter_tie (G := fun rec x => go_laws_FnWalksOnwardOfAll_L0_G k a0 a1 a2 a3 a4 a5 a6 a7 a8 a9 a10 r1 r5 (fun c0 y => go_laws_FnWalksOnwardOfAll_L1 k a0 a1 a2 a3 a4 a5 a6 a7 a8 a9 a10 c0 y) rec x) (go_laws_FnWalksOnwardOfAll_L0_E a0 a1 a2 a3 a4 a5 a6 a7 a8 a9 a10 r1 r5) (fun rec x => ?_) k x
  have h : loopAt (go_laws_FnWalksOnwardOfAll_C k) (bodyOf Go.Proofs.Try.f13) [1, 1, 1, 1, 1, 0, 1, 0, 1, 1, 1, 1, 0] [] (finPure (go_laws_FnWalksOnwardOfAll_C k) Go.Proofs.Try.f13.results.toList false (.val .bool)) rec (go_laws_FnWalksOnwardOfAll_L0_E a0 a1 a2 a3 a4 a5 a6 a7 a8 a9 a10 r1 r5 x) = go_laws_FnWalksOnwardOfAll_L0_G k a0 a1 a2 a3 a4 a5 a6 a7 a8 a9 a10 r1 r5 (fun c0 y => iter k (loopAt (go_laws_FnWalksOnwardOfAll_C k) (bodyOf Go.Proofs.Try.f13) [1, 1, 1, 1, 1, 1, 1, 1, 1, 1, 1, 1, 1, 0, 1, 0, 1, 1, 1, 1, 0] [] (finPure (go_laws_FnWalksOnwardOfAll_C k) Go.Proofs.Try.f13.results.toList false (.val .bool))) (go_laws_FnWalksOnwardOfAll_L1_E a0 a1 a2 a3 a4 a5 a6 a7 a8 a9 a10 c0 y)) (fun y => rec (go_laws_FnWalksOnwardOfAll_L0_E a0 a1 a2 a3 a4 a5 a6 a7 a8 a9 a10 r1 r5 y)) x := by kernel_rfl
  have h0 : (fun c0 y => iter k (loopAt (go_laws_FnWalksOnwardOfAll_C k) (bodyOf Go.Proofs.Try.f13) [1, 1, 1, 1, 1, 1, 1, 1, 1, 1, 1, 1, 1, 0, 1, 0, 1, 1, 1, 1, 0] [] (finPure (go_laws_FnWalksOnwardOfAll_C k) Go.Proofs.Try.f13.results.toList false (.val .bool))) (go_laws_FnWalksOnwardOfAll_L1_E a0 a1 a2 a3 a4 a5 a6 a7 a8 a9 a10 c0 y)) = (fun c0 y => go_laws_FnWalksOnwardOfAll_L1 k a0 a1 a2 a3 a4 a5 a6 a7 a8 a9 a10 c0 y) := by
    funext c0 y
    exact go_laws_FnWalksOnwardOfAll_L1_t k a0 a1 a2 a3 a4 a5 a6 a7 a8 a9 a10 c0 y
  rw [h, h0]
def go_laws_FnWalksOnwardOfAll_T (k : Nat) (a0 : (Int × (Int × ((List Int) × Unit)))) (a1 : (Int × (Int × Unit))) (a2 : Int) (a3 : (Int × (Int × ((List Int) × Unit)))) (a4 : (Int × (Int × Unit))) (a5 : (List Int)) (a6 : (Int × (Int × ((List Int) × Unit)))) (a7 : (Int × (Int × Unit))) (a8 : (List Int)) (a9 : (Int × (Int × ((List Int) × Unit)))) (a10 : (Int × (Int × Unit))) (l_0 : ((List Int) × (Bool × Unit)) → ((List Int) × (Bool × Unit)) → (Int) → Option Bool) (l_2 : ((List Int) × (Bool × Unit)) → (Int) → Option Bool) : Option Bool :=
  if ((decide ((10000 : Int) < (a5.length : Int))) || (decide ((10000 : Int) < (a8.length : Int)))) = true then
    some true
  else
    (go_impl_FewestOnward k a0 a1 a2).bind fun r1 =>
    (go_spec_FewestOnward k a0 a1 a2).bind fun r2 =>
    (if (!(r1.2.1 != r2.2.1)) = true then go_laws_ySame k r1.1 r2.1 else some false).bind fun r3 =>
    if ((r1.2.1 != r2.2.1) || (!r3)) = true then
      some false
    else
      if r1.2.1 = true then
        (go_impl_IsWalk k a0 a1 r1.1).bind fun r4 =>
        if (inb (IntKind.i64.wrap ((r1.1.length : Int) - (1 : Int))) r1.1.length) = true then
        (go_impl_LeapsFrom k a0 a1 (r1.1.getD (IntKind.i64.wrap ((r1.1.length : Int) - (1 : Int))).toNat (0 : Int))).bind fun r5 =>
        if (!(!((!r4.2.1) || (!r4.1))) || (inb (0 : Int) r1.1.length)) = true then
        if ((((!r4.2.1) || (!r4.1)) || (!decide ((r1.1.getD (0 : Int).toNat (0 : Int)) = a2))) || (!r5.2.1)) = true then
          some false
        else
          l_0 r1 r5 (0 : Int)
        else none
        else none
      else
        (go_impl_NumbersOfWalk k a3 a4 a5).bind fun r52 =>
        (go_spec_NumbersOfWalk k a3 a4 a5).bind fun r53 =>
        (go_impl_IsWalk k a3 a4 a5).bind fun r54 =>
        (go_spec_IsWalk k a3 a4 a5).bind fun r55 =>
        (go_impl_IsTour k a3 a4 a5).bind fun r56 =>
        (go_spec_IsTour k a3 a4 a5).bind fun r57 =>
        (if (!(r52.2.1 != r53.2.1)) = true then go_laws_ySame k r52.1 r53.1 else some false).bind fun r58 =>
        if ((((((((r52.2.1 != r53.2.1) || (!r58)) || (r54.2.1 != r55.2.1)) || (r54.1 != r55.1)) || (r56.2.1 != r57.2.1)) || (r56.1 != r57.1)) || (r52.2.1 != (r54.2.1 && r54.1))) || (r56.1 && (!r54.1))) = true then
          some false
        else
          if r52.2.1 = true then
            (go_impl_WalkOfNumbers k a3 a4 r52.1).bind fun r59 =>
            (go_impl_CountCells k a3).bind fun r60 =>
            (if (!(!r59.2.1)) = true then go_laws_ySame k r59.1 a5 else some false).bind fun r61 =>
            if (((((!r59.2.1) || (!r61)) || (!decide ((r52.1.length : Int) = (IntKind.i64.wrap (a3.1 * a3.2.1))))) || (!r60.2.1)) || (r56.1 != (decide ((a5.length : Int) = r60.1)))) = true then
              some false
            else
              l_2 r52 (0 : Int)
          else
            (go_impl_WalkOfNumbers k a6 a7 a8).bind fun r79 =>
            (go_spec_WalkOfNumbers k a6 a7 a8).bind fun r80 =>
            (if (!(r79.2.1 != r80.2.1)) = true then go_laws_ySame k r79.1 r80.1 else some false).bind fun r81 =>
            if ((r79.2.1 != r80.2.1) || (!r81)) = true then
              some false
            else
              if r79.2.1 = true then
                (go_impl_NumbersOfWalk k a6 a7 r79.1).bind fun r82 =>
                (if (!(!r82.2.1)) = true then go_laws_ySame k r82.1 a8 else some false).bind fun r83 =>
                if ((!r82.2.1) || (!r83)) = true then
                  some false
                else
                  (go_impl_ColoursForbid k a9 a10).bind fun r84 =>
                  (go_spec_ColoursForbid k a9 a10).bind fun r85 =>
                  (if ((((r84.2.2.1 == r85.2.2.1) && (r84.1 == r85.1)) && (r84.2.1 == r85.2.1)) && ((!r84.1) || r84.2.1)) = true then go_impl_IsBoard k a9 else some false).bind fun r86 =>
                  (if (r86 && ((((r84.2.2.1 == r85.2.2.1) && (r84.1 == r85.1)) && (r84.2.1 == r85.2.1)) && ((!r84.1) || r84.2.1))) = true then go_impl_IsLeaper k a10 else some false).bind fun r87 =>
                  if (!((r86 && r87) && ((((r84.2.2.1 == r85.2.2.1) && (r84.1 == r85.1)) && (r84.2.1 == r85.2.1)) && ((!r84.1) || r84.2.1))) || true) = true then
                  some (((((r84.2.2.1 == r85.2.2.1) && (r84.1 == r85.1)) && (r84.2.1 == r85.2.1)) && ((!r84.1) || r84.2.1)) && (r84.2.2.1 == ((r86 && r87) && (!decide ((Int.tmod (IntKind.i64.wrap (a10.1 + a10.2.1)) (2 : Int)) = (0 : Int))))))
                  else none
              else
                (go_impl_ColoursForbid k a9 a10).bind fun r88 =>
                (go_spec_ColoursForbid k a9 a10).bind fun r89 =>
                (if ((((r88.2.2.1 == r89.2.2.1) && (r88.1 == r89.1)) && (r88.2.1 == r89.2.1)) && ((!r88.1) || r88.2.1)) = true then go_impl_IsBoard k a9 else some false).bind fun r90 =>
                (if (r90 && ((((r88.2.2.1 == r89.2.2.1) && (r88.1 == r89.1)) && (r88.2.1 == r89.2.1)) && ((!r88.1) || r88.2.1))) = true then go_impl_IsLeaper k a10 else some false).bind fun r91 =>
                if (!((r90 && r91) && ((((r88.2.2.1 == r89.2.2.1) && (r88.1 == r89.1)) && (r88.2.1 == r89.2.1)) && ((!r88.1) || r88.2.1))) || true) = true then
                some (((((r88.2.2.1 == r89.2.2.1) && (r88.1 == r89.1)) && (r88.2.1 == r89.2.1)) && ((!r88.1) || r88.2.1)) && (r88.2.2.1 == ((r90 && r91) && (!decide ((Int.tmod (IntKind.i64.wrap (a10.1 + a10.2.1)) (2 : Int)) = (0 : Int))))))
                else none
def go_laws_FnWalksOnwardOfAll (k : Nat) (a0 : (Int × (Int × ((List Int) × Unit)))) (a1 : (Int × (Int × Unit))) (a2 : Int) (a3 : (Int × (Int × ((List Int) × Unit)))) (a4 : (Int × (Int × Unit))) (a5 : (List Int)) (a6 : (Int × (Int × ((List Int) × Unit)))) (a7 : (Int × (Int × Unit))) (a8 : (List Int)) (a9 : (Int × (Int × ((List Int) × Unit)))) (a10 : (Int × (Int × Unit))) : Option Bool :=
  go_laws_FnWalksOnwardOfAll_T k a0 a1 a2 a3 a4 a5 a6 a7 a8 a9 a10 (fun r1 r5 y => go_laws_FnWalksOnwardOfAll_L0 k a0 a1 a2 a3 a4 a5 a6 a7 a8 a9 a10 r1 r5 y) (fun r52 y => go_laws_FnWalksOnwardOfAll_L2 k a0 a1 a2 a3 a4 a5 a6 a7 a8 a9 a10 r52 y)
theorem go_laws_FnWalksOnwardOfAll_t (k : Nat) (a0 : (Int × (Int × ((List Int) × Unit)))) (a1 : (Int × (Int × Unit))) (a2 : Int) (a3 : (Int × (Int × ((List Int) × Unit)))) (a4 : (Int × (Int × Unit))) (a5 : (List Int)) (a6 : (Int × (Int × ((List Int) × Unit)))) (a7 : (Int × (Int × Unit))) (a8 : (List Int)) (a9 : (Int × (Int × ((List Int) × Unit)))) (a10 : (Int × (Int × Unit))) : runPure (go_laws_FnWalksOnwardOfAll_C k) (bodyOf Go.Proofs.Try.f13) Go.Proofs.Try.f13.results.toList false (.pr (.val (.pair I (.pair I (.pair (.sl I) .unit)))) (.pr (.val (.pair I (.pair I .unit))) (.pr (.val I) (.pr (.val (.pair I (.pair I (.pair (.sl I) .unit)))) (.pr (.val (.pair I (.pair I .unit))) (.pr (.val (.sl I)) (.pr (.val (.pair I (.pair I (.pair (.sl I) .unit)))) (.pr (.val (.pair I (.pair I .unit))) (.pr (.val (.sl I)) (.pr (.val (.pair I (.pair I (.pair (.sl I) .unit)))) (.pr (.val (.pair I (.pair I .unit))) .un))))))))))) (.val .bool) (a0, a1, a2, a3, a4, a5, a6, a7, a8, a9, a10, ()) = go_laws_FnWalksOnwardOfAll k a0 a1 a2 a3 a4 a5 a6 a7 a8 a9 a10 := by
  have h : runPure (go_laws_FnWalksOnwardOfAll_C k) (bodyOf Go.Proofs.Try.f13) Go.Proofs.Try.f13.results.toList false (.pr (.val (.pair I (.pair I (.pair (.sl I) .unit)))) (.pr (.val (.pair I (.pair I .unit))) (.pr (.val I) (.pr (.val (.pair I (.pair I (.pair (.sl I) .unit)))) (.pr (.val (.pair I (.pair I .unit))) (.pr (.val (.sl I)) (.pr (.val (.pair I (.pair I (.pair (.sl I) .unit)))) (.pr (.val (.pair I (.pair I .unit))) (.pr (.val (.sl I)) (.pr (.val (.pair I (.pair I (.pair (.sl I) .unit)))) (.pr (.val (.pair I (.pair I .unit))) .un))))))))))) (.val .bool) (a0, a1, a2, a3, a4, a5, a6, a7, a8, a9, a10, ()) = go_laws_FnWalksOnwardOfAll_T k a0 a1 a2 a3 a4 a5 a6 a7 a8 a9 a10 (fun r1 r5 y => iter k (loopAt (go_laws_FnWalksOnwardOfAll_C k) (bodyOf Go.Proofs.Try.f13) [1, 1, 1, 1, 1, 0, 1, 0, 1, 1, 1, 1, 0] [] (finPure (go_laws_FnWalksOnwardOfAll_C k) Go.Proofs.Try.f13.results.toList false (.val .bool))) (go_laws_FnWalksOnwardOfAll_L0_E a0 a1 a2 a3 a4 a5 a6 a7 a8 a9 a10 r1 r5 y)) (fun r52 y => iter k (loopAt (go_laws_FnWalksOnwardOfAll_C k) (bodyOf Go.Proofs.Try.f13) [1, 1, 1, 1, 1, 1, 1, 1, 1, 1, 1, 1, 1, 0, 1, 0, 1, 1, 1, 1, 0] [] (finPure (go_laws_FnWalksOnwardOfAll_C k) Go.Proofs.Try.f13.results.toList false (.val .bool))) (go_laws_FnWalksOnwardOfAll_L2_E a0 a1 a2 a3 a4 a5 a6 a7 a8 a9 a10 r52 y)) := by kernel_rfl
  have h0 : (fun r1 r5 y => iter k (loopAt (go_laws_FnWalksOnwardOfAll_C k) (bodyOf Go.Proofs.Try.f13) [1, 1, 1, 1, 1, 0, 1, 0, 1, 1, 1, 1, 0] [] (finPure (go_laws_FnWalksOnwardOfAll_C k) Go.Proofs.Try.f13.results.toList false (.val .bool))) (go_laws_FnWalksOnwardOfAll_L0_E a0 a1 a2 a3 a4 a5 a6 a7 a8 a9 a10 r1 r5 y)) = (fun r1 r5 y => go_laws_FnWalksOnwardOfAll_L0 k a0 a1 a2 a3 a4 a5 a6 a7 a8 a9 a10 r1 r5 y) := by
    funext r1 r5 y
    exact go_laws_FnWalksOnwardOfAll_L0_t k a0 a1 a2 a3 a4 a5 a6 a7 a8 a9 a10 r1 r5 y
  have h1 : (fun r52 y => iter k (loopAt (go_laws_FnWalksOnwardOfAll_C k) (bodyOf Go.Proofs.Try.f13) [1, 1, 1, 1, 1, 1, 1, 1, 1, 1, 1, 1, 1, 0, 1, 0, 1, 1, 1, 1, 0] [] (finPure (go_laws_FnWalksOnwardOfAll_C k) Go.Proofs.Try.f13.results.toList false (.val .bool))) (go_laws_FnWalksOnwardOfAll_L2_E a0 a1 a2 a3 a4 a5 a6 a7 a8 a9 a10 r52 y)) = (fun r52 y => go_laws_FnWalksOnwardOfAll_L2 k a0 a1 a2 a3 a4 a5 a6 a7 a8 a9 a10 r52 y) := by
    funext r52 y
    exact go_laws_FnWalksOnwardOfAll_L2_t k a0 a1 a2 a3 a4 a5 a6 a7 a8 a9 a10 r52 y
  rw [h, h0, h1]
  rfl
def go_laws_FnWalksOnwardOfAll_S (k : Nat) : Spec := ⟨(.pr (.val (.pair I (.pair I (.pair (.sl I) .unit)))) (.pr (.val (.pair I (.pair I .unit))) (.pr (.val I) (.pr (.val (.pair I (.pair I (.pair (.sl I) .unit)))) (.pr (.val (.pair I (.pair I .unit))) (.pr (.val (.sl I)) (.pr (.val (.pair I (.pair I (.pair (.sl I) .unit)))) (.pr (.val (.pair I (.pair I .unit))) (.pr (.val (.sl I)) (.pr (.val (.pair I (.pair I (.pair (.sl I) .unit)))) (.pr (.val (.pair I (.pair I .unit))) .un))))))))))), (.val .bool), false, .inl fun x => go_laws_FnWalksOnwardOfAll k x.1 x.2.1 x.2.2.1 x.2.2.2.1 x.2.2.2.2.1 x.2.2.2.2.2.1 x.2.2.2.2.2.2.1 x.2.2.2.2.2.2.2.1 x.2.2.2.2.2.2.2.2.1 x.2.2.2.2.2.2.2.2.2.1 x.2.2.2.2.2.2.2.2.2.2.1⟩
theorem go_laws_FnWalksOnwardOfAll_F (k : Nat) : Fits Go.Proofs.Try.prog (go_laws_FnWalksOnwardOfAll_C k) 13 Go.Proofs.Try.f13 (bodyOf Go.Proofs.Try.f13) (.pr (.val (.pair I (.pair I (.pair (.sl I) .unit)))) (.pr (.val (.pair I (.pair I .unit))) (.pr (.val I) (.pr (.val (.pair I (.pair I (.pair (.sl I) .unit)))) (.pr (.val (.pair I (.pair I .unit))) (.pr (.val (.sl I)) (.pr (.val (.pair I (.pair I (.pair (.sl I) .unit)))) (.pr (.val (.pair I (.pair I .unit))) (.pr (.val (.sl I)) (.pr (.val (.pair I (.pair I (.pair (.sl I) .unit)))) (.pr (.val (.pair I (.pair I .unit))) .un))))))))))) (.val .bool) false :=
  ⟨th0, mixed0, by kernel_rfl, Go.Proofs.Try.func13, rfl, by kernel_rfl, rfl, rfl, rfl, rfl, rfl, rfl⟩
theorem go_laws_FnWalksOnwardOfAll_M (k : Nat) : Meets Go.Proofs.Try.prog 13 (go_laws_FnWalksOnwardOfAll_S k) :=
  meets_pure (go_laws_FnWalksOnwardOfAll_F k) (sigs_all (l := [(58, go_impl_FewestOnward_S k), (59, go_spec_FewestOnward_S k), (39, go_laws_ySame_S k), (47, go_impl_IsWalk_S k), (60, go_impl_LeapsFrom_S k), (61, go_laws_yHas_S k), (53, go_impl_NumbersOfWalk_S k), (62, go_spec_NumbersOfWalk_S k), (63, go_spec_IsWalk_S k), (41, go_impl_IsTour_S k), (64, go_spec_IsTour_S k), (65, go_impl_WalkOfNumbers_S k), (66, go_impl_CountCells_S k), (67, go_spec_WalkOfNumbers_S k), (43, go_impl_ColoursForbid_S k), (68, go_spec_ColoursForbid_S k), (69, go_impl_IsBoard_S k), (70, go_impl_IsLeaper_S k)]) rfl ⟨go_impl_FewestOnward_M k, ⟨go_spec_FewestOnward_M k, ⟨go_laws_ySame_M k, ⟨go_impl_IsWalk_M k, ⟨go_impl_LeapsFrom_M k, ⟨go_laws_yHas_M k, ⟨go_impl_NumbersOfWalk_M k, ⟨go_spec_NumbersOfWalk_M k, ⟨go_spec_IsWalk_M k, ⟨go_impl_IsTour_M k, ⟨go_spec_IsTour_M k, ⟨go_impl_WalkOfNumbers_M k, ⟨go_impl_CountCells_M k, ⟨go_spec_WalkOfNumbers_M k, ⟨go_impl_ColoursForbid_M k, ⟨go_spec_ColoursForbid_M k, ⟨go_impl_IsBoard_M k, ⟨go_impl_IsLeaper_M k, trivial⟩⟩⟩⟩⟩⟩⟩⟩⟩⟩⟩⟩⟩⟩⟩⟩⟩⟩) rfl fun x => go_laws_FnWalksOnwardOfAll_t k x.1 x.2.1 x.2.2.1 x.2.2.2.1 x.2.2.2.2.1 x.2.2.2.2.2.1 x.2.2.2.2.2.2.1 x.2.2.2.2.2.2.2.1 x.2.2.2.2.2.2.2.2.1 x.2.2.2.2.2.2.2.2.2.1 x.2.2.2.2.2.2.2.2.2.2.1

end
end Go.Lg
