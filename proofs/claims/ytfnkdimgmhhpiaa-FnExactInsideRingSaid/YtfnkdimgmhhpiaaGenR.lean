/-
  Printed by program: what the functions of the code compute (go_laws_FnExactIsUncrossed, go_laws_FnExactIsRing, go_laws_FnExactPointsOnRing, go_laws_FnExactTwiceArea, go_laws_FnExactPointsInside, go_laws_FnExactInsideRing).
-/
import Derived.Test.YtfnkdimgmhhpiaaGenW
set_option linter.unusedVariables false
namespace Go.Lg
open Go.RowKit
noncomputable section
/-! ### spec.crCross -/
def go_spec_crCross_C (k : Nat) : Ctx := { th := TH, se := SE, sg := [], mu := [], an := [], dr := [(2, 30)], pre := [], d2 := [], m := 0, fx := [], n := 43, k := k }
def go_spec_crCross (k : Nat) (a0 : (Int × (Int × ((List Int) × Unit)))) (a1 : Int) (a2 : Int) (a3 : Int) : Option Int :=
  if (decide (a0.1 ≠ 0)) = true then
  if (decide (a0.1 ≠ 0)) = true then
  if (decide (a0.1 ≠ 0)) = true then
  if (decide (a0.1 ≠ 0)) = true then
  if (decide (a0.1 ≠ 0)) = true then
  if (decide (a0.1 ≠ 0)) = true then
  if (decide (a0.1 ≠ 0)) = true then
  if (decide (a0.1 ≠ 0)) = true then
  some (IntKind.i64.wrap ((IntKind.i64.wrap ((IntKind.i64.wrap ((Int.tmod a2 a0.1) - (Int.tmod a1 a0.1))) * (IntKind.i64.wrap ((IntKind.i64.wrap (Int.tdiv a3 a0.1)) - (IntKind.i64.wrap (Int.tdiv a1 a0.1)))))) - (IntKind.i64.wrap ((IntKind.i64.wrap ((IntKind.i64.wrap (Int.tdiv a2 a0.1)) - (IntKind.i64.wrap (Int.tdiv a1 a0.1)))) * (IntKind.i64.wrap ((Int.tmod a3 a0.1) - (Int.tmod a1 a0.1)))))))
  else none
  else none
  else none
  else none
  else none
  else none
  else none
  else none
theorem go_spec_crCross_t (k : Nat) (a0 : (Int × (Int × ((List Int) × Unit)))) (a1 : Int) (a2 : Int) (a3 : Int) : runPure (go_spec_crCross_C k) (bodyOf Go.Proofs.Try.f90) Go.Proofs.Try.f90.results.toList false (.pr (.val (.pair I (.pair I (.pair (.sl I) .unit)))) (.pr (.val I) (.pr (.val I) (.pr (.val I) .un)))) (.val I) (a0, a1, a2, a3, ()) = go_spec_crCross k a0 a1 a2 a3 := by kernel_rfl
def go_spec_crCross_S (k : Nat) : Spec := ⟨(.pr (.val (.pair I (.pair I (.pair (.sl I) .unit)))) (.pr (.val I) (.pr (.val I) (.pr (.val I) .un)))), (.val I), false, .inl fun x => go_spec_crCross k x.1 x.2.1 x.2.2.1 x.2.2.2.1⟩
theorem go_spec_crCross_F (k : Nat) : Fits Go.Proofs.Try.prog (go_spec_crCross_C k) 90 Go.Proofs.Try.f90 (bodyOf Go.Proofs.Try.f90) (.pr (.val (.pair I (.pair I (.pair (.sl I) .unit)))) (.pr (.val I) (.pr (.val I) (.pr (.val I) .un)))) (.val I) false :=
  ⟨th0, mixed0, by kernel_rfl, Go.Proofs.Try.func90, rfl, by kernel_rfl, rfl, rfl, rfl, rfl, rfl, rfl⟩
theorem go_spec_crCross_M (k : Nat) : Meets Go.Proofs.Try.prog 90 (go_spec_crCross_S k) :=
  meets_pure (go_spec_crCross_F k) (sigs_all (l := []) rfl trivial) rfl fun x => go_spec_crCross_t k x.1 x.2.1 x.2.2.1 x.2.2.2.1

/-! ### spec.crOn -/
def go_spec_crOn_C (k : Nat) : Ctx := { th := TH, se := SE, sg := [(90, go_spec_crCross_S k)], mu := [], an := [], dr := [(2, 39)], pre := [], d2 := [], m := 0, fx := [], n := 54, k := k }
def go_spec_crOn (k : Nat) (a0 : (Int × (Int × ((List Int) × Unit)))) (a1 : Int) (a2 : Int) (a3 : Int) : Option Bool :=
  (go_spec_crCross k a0 a1 a2 a3).bind fun r1 =>
  if (!(decide (r1 = (0 : Int))) || (decide (a0.1 ≠ 0))) = true then
  if (!(decide (r1 = (0 : Int))) || (decide (a0.1 ≠ 0))) = true then
  if (!(decide (r1 = (0 : Int))) || (decide (a0.1 ≠ 0))) = true then
  if (!(decide (r1 = (0 : Int))) || (decide (a0.1 ≠ 0))) = true then
  if (!((decide (r1 = (0 : Int))) && (decide ((IntKind.i64.wrap ((IntKind.i64.wrap ((Int.tmod a1 a0.1) - (Int.tmod a3 a0.1))) * (IntKind.i64.wrap ((Int.tmod a2 a0.1) - (Int.tmod a3 a0.1))))) ≤ (0 : Int)))) || (decide (a0.1 ≠ 0))) = true then
  if (!((decide (r1 = (0 : Int))) && (decide ((IntKind.i64.wrap ((IntKind.i64.wrap ((Int.tmod a1 a0.1) - (Int.tmod a3 a0.1))) * (IntKind.i64.wrap ((Int.tmod a2 a0.1) - (Int.tmod a3 a0.1))))) ≤ (0 : Int)))) || (decide (a0.1 ≠ 0))) = true then
  if (!((decide (r1 = (0 : Int))) && (decide ((IntKind.i64.wrap ((IntKind.i64.wrap ((Int.tmod a1 a0.1) - (Int.tmod a3 a0.1))) * (IntKind.i64.wrap ((Int.tmod a2 a0.1) - (Int.tmod a3 a0.1))))) ≤ (0 : Int)))) || (decide (a0.1 ≠ 0))) = true then
  if (!((decide (r1 = (0 : Int))) && (decide ((IntKind.i64.wrap ((IntKind.i64.wrap ((Int.tmod a1 a0.1) - (Int.tmod a3 a0.1))) * (IntKind.i64.wrap ((Int.tmod a2 a0.1) - (Int.tmod a3 a0.1))))) ≤ (0 : Int)))) || (decide (a0.1 ≠ 0))) = true then
  some (((decide (r1 = (0 : Int))) && (decide ((IntKind.i64.wrap ((IntKind.i64.wrap ((Int.tmod a1 a0.1) - (Int.tmod a3 a0.1))) * (IntKind.i64.wrap ((Int.tmod a2 a0.1) - (Int.tmod a3 a0.1))))) ≤ (0 : Int)))) && (decide ((IntKind.i64.wrap ((IntKind.i64.wrap ((IntKind.i64.wrap (Int.tdiv a1 a0.1)) - (IntKind.i64.wrap (Int.tdiv a3 a0.1)))) * (IntKind.i64.wrap ((IntKind.i64.wrap (Int.tdiv a2 a0.1)) - (IntKind.i64.wrap (Int.tdiv a3 a0.1)))))) ≤ (0 : Int))))
  else none
  else none
  else none
  else none
  else none
  else none
  else none
  else none
theorem go_spec_crOn_t (k : Nat) (a0 : (Int × (Int × ((List Int) × Unit)))) (a1 : Int) (a2 : Int) (a3 : Int) : runPure (go_spec_crOn_C k) (bodyOf Go.Proofs.Try.f89) Go.Proofs.Try.f89.results.toList false (.pr (.val (.pair I (.pair I (.pair (.sl I) .unit)))) (.pr (.val I) (.pr (.val I) (.pr (.val I) .un)))) (.val .bool) (a0, a1, a2, a3, ()) = go_spec_crOn k a0 a1 a2 a3 := by kernel_rfl
def go_spec_crOn_S (k : Nat) : Spec := ⟨(.pr (.val (.pair I (.pair I (.pair (.sl I) .unit)))) (.pr (.val I) (.pr (.val I) (.pr (.val I) .un)))), (.val .bool), false, .inl fun x => go_spec_crOn k x.1 x.2.1 x.2.2.1 x.2.2.2.1⟩
theorem go_spec_crOn_F (k : Nat) : Fits Go.Proofs.Try.prog (go_spec_crOn_C k) 89 Go.Proofs.Try.f89 (bodyOf Go.Proofs.Try.f89) (.pr (.val (.pair I (.pair I (.pair (.sl I) .unit)))) (.pr (.val I) (.pr (.val I) (.pr (.val I) .un)))) (.val .bool) false :=
  ⟨th0, mixed0, by kernel_rfl, Go.Proofs.Try.func89, rfl, by kernel_rfl, rfl, rfl, rfl, rfl, rfl, rfl⟩
theorem go_spec_crOn_M (k : Nat) : Meets Go.Proofs.Try.prog 89 (go_spec_crOn_S k) :=
  meets_pure (go_spec_crOn_F k) (sigs_all (l := [(90, go_spec_crCross_S k)]) rfl ⟨go_spec_crCross_M k, trivial⟩) rfl fun x => go_spec_crOn_t k x.1 x.2.1 x.2.2.1 x.2.2.2.1

/-! ### spec.l1Sign -/
def go_spec_l1Sign_C (k : Nat) : Ctx := { th := TH, se := SE, sg := [], mu := [], an := [], dr := [], pre := [], d2 := [], m := 0, fx := [], n := 9, k := k }
def go_spec_l1Sign (k : Nat) (a0 : Int) : Option Int :=
  if (decide ((0 : Int) < a0)) = true then
    some (1 : Int)
  else
    if (decide (a0 < (0 : Int))) = true then
      some (-1 : Int)
    else
      some (0 : Int)
theorem go_spec_l1Sign_t (k : Nat) (a0 : Int) : runPure (go_spec_l1Sign_C k) (bodyOf Go.Proofs.Try.f122) Go.Proofs.Try.f122.results.toList false (.pr (.val I) .un) (.val I) (a0, ()) = go_spec_l1Sign k a0 := by kernel_rfl
def go_spec_l1Sign_S (k : Nat) : Spec := ⟨(.pr (.val I) .un), (.val I), false, .inl fun x => go_spec_l1Sign k x.1⟩
theorem go_spec_l1Sign_F (k : Nat) : Fits Go.Proofs.Try.prog (go_spec_l1Sign_C k) 122 Go.Proofs.Try.f122 (bodyOf Go.Proofs.Try.f122) (.pr (.val I) .un) (.val I) false :=
  ⟨th0, mixed0, by kernel_rfl, Go.Proofs.Try.func122, rfl, by kernel_rfl, rfl, rfl, rfl, rfl, rfl, rfl⟩
theorem go_spec_l1Sign_M (k : Nat) : Meets Go.Proofs.Try.prog 122 (go_spec_l1Sign_S k) :=
  meets_pure (go_spec_l1Sign_F k) (sigs_all (l := []) rfl trivial) rfl fun x => go_spec_l1Sign_t k x.1

/-! ### spec.crDo -/
def go_spec_crDo_C (k : Nat) : Ctx := { th := TH, se := SE, sg := [(89, go_spec_crOn_S k), (90, go_spec_crCross_S k), (122, go_spec_l1Sign_S k)], mu := [], an := [(4, [(1, false), (2, false), (3, false), (4, false), (5, false), (35, false), (36, false), (37, false)]), (10, [(1, false), (2, false), (3, false), (4, false), (5, false), (59, false), (60, false), (61, false)])], dr := [(15, 25)], pre := [], d2 := [], m := 0, fx := [], n := 111, k := k }
def go_spec_crDo_L0_E (a0 : (Int × (Int × ((List Int) × Unit)))) (a1 : Int) (a2 : Int) (a3 : Int) (a4 : Int) (x4 : (Int)) : St :=
  ⟨[(1, .one (.val I a1), []), (2, .one (.val I a2), []), (3, .one (.val I a3), []), (4, .one (.val I a4), []), (5, .one (.val (.pt (.pair I (.pair I (.pair (.sl I) .unit)))) (some a0)), []), (35, .one (.val (.sl I) [a3, a4]), []), (36, .one (.val I ([a3, a4].length : Int)), []), (37, .one (.val I x4), [])], [], []⟩
def go_spec_crDo_L1_E (a0 : (Int × (Int × ((List Int) × Unit)))) (a1 : Int) (a2 : Int) (a3 : Int) (a4 : Int) (x10 : (Int)) : St :=
  ⟨[(1, .one (.val I a1), []), (2, .one (.val I a2), []), (3, .one (.val I a3), []), (4, .one (.val I a4), []), (5, .one (.val (.pt (.pair I (.pair I (.pair (.sl I) .unit)))) (some a0)), []), (59, .one (.val (.sl I) [a1, a2]), []), (60, .one (.val I ([a1, a2].length : Int)), []), (61, .one (.val I x10), [])], [], []⟩
def go_spec_crDo_L1_G (k : Nat) (a0 : (Int × (Int × ((List Int) × Unit)))) (a1 : Int) (a2 : Int) (a3 : Int) (a4 : Int) (rec11 : (Int) → Option Bool) (x10 : (Int)) : Option Bool :=
  if (decide (x10 < ([a1, a2].length : Int))) = true then
    if (inb x10 [a1, a2].length) = true then
    (go_spec_crOn k a0 a3 a4 ([a1, a2].getD x10.toNat (0 : Int))).bind fun r12 =>
    if ((r12 && (!decide (([a1, a2].getD x10.toNat (0 : Int)) = a3))) && (!decide (([a1, a2].getD x10.toNat (0 : Int)) = a4))) = true then
      some true
    else
      rec11 (IntKind.i64.wrap (x10 + (1 : Int)))
    else none
  else
    (go_spec_crCross k a0 a1 a2 a3).bind fun r13 =>
    (go_spec_l1Sign k r13).bind fun r14 =>
    (go_spec_crCross k a0 a1 a2 a4).bind fun r15 =>
    (go_spec_l1Sign k r15).bind fun r16 =>
    (if (decide ((IntKind.i64.wrap (r14 * r16)) < (0 : Int))) = true then go_spec_crCross k a0 a3 a4 a1 else some (0 : Int)).bind fun r17 =>
    (if (decide ((IntKind.i64.wrap (r14 * r16)) < (0 : Int))) = true then go_spec_l1Sign k r17 else some (0 : Int)).bind fun r18 =>
    (if (decide ((IntKind.i64.wrap (r14 * r16)) < (0 : Int))) = true then go_spec_crCross k a0 a3 a4 a2 else some (0 : Int)).bind fun r19 =>
    (if (decide ((IntKind.i64.wrap (r14 * r16)) < (0 : Int))) = true then go_spec_l1Sign k r19 else some (0 : Int)).bind fun r20 =>
    some ((decide ((IntKind.i64.wrap (r14 * r16)) < (0 : Int))) && (decide ((IntKind.i64.wrap (r18 * r20)) < (0 : Int))))
def go_spec_crDo_L1 (k : Nat) (a0 : (Int × (Int × ((List Int) × Unit)))) (a1 : Int) (a2 : Int) (a3 : Int) (a4 : Int) : (Int) → Option Bool :=
  iter k fun rec11 x10 => go_spec_crDo_L1_G k a0 a1 a2 a3 a4 rec11 x10
theorem go_spec_crDo_L1_t (k : Nat) (a0 : (Int × (Int × ((List Int) × Unit)))) (a1 : Int) (a2 : Int) (a3 : Int) (a4 : Int) (x : (Int)) :
    iter k (loopAt (go_spec_crDo_C k) (bodyOf Go.Proofs.Try.f74) [1, 1, 1, 0, 1, 0] [] (finPure (go_spec_crDo_C k) Go.Proofs.Try.f74.results.toList false (.val .bool))) (go_spec_crDo_L1_E a0 a1 a2 a3 a4 x) = go_spec_crDo_L1 k a0 a1 a2 a3 a4 x := by
  refine iter_tie (G := fun rec x => go_spec_crDo_L1_G k a0 a1 a2 a3 a4 rec x) (go_spec_crDo_L1_E a0 a1 a2 a3 a4) (fun rec x => ?_) k x
  have h : loopAt (go_spec_crDo_C k) (bodyOf Go.Proofs.Try.f74) [1, 1, 1, 0, 1, 0] [] (finPure (go_spec_crDo_C k) Go.Proofs.Try.f74.results.toList false (.val .bool)) rec (go_spec_crDo_L1_E a0 a1 a2 a3 a4 x) = go_spec_crDo_L1_G k a0 a1 a2 a3 a4 (fun y => rec (go_spec_crDo_L1_E a0 a1 a2 a3 a4 y)) x := by kernel_rfl
  rw [h]
def go_spec_crDo_L0_G (k : Nat) (a0 : (Int × (Int × ((List Int) × Unit)))) (a1 : Int) (a2 : Int) (a3 : Int) (a4 : Int) (l_1 : (Int) → Option Bool) (rec5 : (Int) → Option Bool) (x4 : (Int)) : Option Bool :=
  if (decide (x4 < ([a3, a4].length : Int))) = true then
    if (inb x4 [a3, a4].length) = true then
    (go_spec_crOn k a0 a1 a2 ([a3, a4].getD x4.toNat (0 : Int))).bind fun r6 =>
    if ((r6 && (!decide (([a3, a4].getD x4.toNat (0 : Int)) = a1))) && (!decide (([a3, a4].getD x4.toNat (0 : Int)) = a2))) = true then
      some true
    else
      rec5 (IntKind.i64.wrap (x4 + (1 : Int)))
    else none
  else
    l_1 (0 : Int)
def go_spec_crDo_L0 (k : Nat) (a0 : (Int × (Int × ((List Int) × Unit)))) (a1 : Int) (a2 : Int) (a3 : Int) (a4 : Int) : (Int) → Option Bool :=
  iter k fun rec5 x4 => go_spec_crDo_L0_G k a0 a1 a2 a3 a4 (fun y => go_spec_crDo_L1 k a0 a1 a2 a3 a4 y) rec5 x4
theorem go_spec_crDo_L0_t (k : Nat) (a0 : (Int × (Int × ((List Int) × Unit)))) (a1 : Int) (a2 : Int) (a3 : Int) (a4 : Int) (x : (Int)) :
    iter k (loopAt (go_spec_crDo_C k) (bodyOf Go.Proofs.Try.f74) [1, 1, 0, 1, 0] [] (finPure (go_spec_crDo_C k) Go.Proofs.Try.f74.results.toList false (.val .bool))) (go_spec_crDo_L0_E a0 a1 a2 a3 a4 x) = go_spec_crDo_L0 k a0 a1 a2 a3 a4 x := by
  refine iter_tie (G := fun rec x => go_spec_crDo_L0_G k a0 a1 a2 a3 a4 (fun y => go_spec_crDo_L1 k a0 a1 a2 a3 a4 y) rec x) (go_spec_crDo_L0_E a0 a1 a2 a3 a4) (fun rec x => ?_) k x
  have h : loopAt (go_spec_crDo_C k) (bodyOf Go.Proofs.Try.f74) [1, 1, 0, 1, 0] [] (finPure (go_spec_crDo_C k) Go.Proofs.Try.f74.results.toList false (.val .bool)) rec (go_spec_crDo_L0_E a0 a1 a2 a3 a4 x) = go_spec_crDo_L0_G k a0 a1 a2 a3 a4 (fun y => iter k (loopAt (go_spec_crDo_C k) (bodyOf Go.Proofs.Try.f74) [1, 1, 1, 0, 1, 0] [] (finPure (go_spec_crDo_C k) Go.Proofs.Try.f74.results.toList false (.val .bool))) (go_spec_crDo_L1_E a0 a1 a2 a3 a4 y)) (fun y => rec (go_spec_crDo_L0_E a0 a1 a2 a3 a4 y)) x := by kernel_rfl
  have h0 : (fun y => iter k (loopAt (go_spec_crDo_C k) (bodyOf Go.Proofs.Try.f74) [1, 1, 1, 0, 1, 0] [] (finPure (go_spec_crDo_C k) Go.Proofs.Try.f74.results.toList false (.val .bool))) (go_spec_crDo_L1_E a0 a1 a2 a3 a4 y)) = (fun y => go_spec_crDo_L1 k a0 a1 a2 a3 a4 y) := by
    funext y
    exact go_spec_crDo_L1_t k a0 a1 a2 a3 a4 y
  rw [h, h0]
def go_spec_crDo_T (k : Nat) (a0 : (Int × (Int × ((List Int) × Unit)))) (a1 : Int) (a2 : Int) (a3 : Int) (a4 : Int) (l_0 : (Int) → Option Bool) : Option Bool :=
  if (((decide (a1 = a3)) && (decide (a2 = a4))) || ((decide (a1 = a4)) && (decide (a2 = a3)))) = true then
    some true
  else
    l_0 (0 : Int)
def go_spec_crDo (k : Nat) (a0 : (Int × (Int × ((List Int) × Unit)))) (a1 : Int) (a2 : Int) (a3 : Int) (a4 : Int) : Option Bool :=
  go_spec_crDo_T k a0 a1 a2 a3 a4 (fun y => go_spec_crDo_L0 k a0 a1 a2 a3 a4 y)
theorem go_spec_crDo_t (k : Nat) (a0 : (Int × (Int × ((List Int) × Unit)))) (a1 : Int) (a2 : Int) (a3 : Int) (a4 : Int) : runPure (go_spec_crDo_C k) (bodyOf Go.Proofs.Try.f74) Go.Proofs.Try.f74.results.toList false (.pr (.val (.pair I (.pair I (.pair (.sl I) .unit)))) (.pr (.val I) (.pr (.val I) (.pr (.val I) (.pr (.val I) .un))))) (.val .bool) (a0, a1, a2, a3, a4, ()) = go_spec_crDo k a0 a1 a2 a3 a4 := by
  have h : runPure (go_spec_crDo_C k) (bodyOf Go.Proofs.Try.f74) Go.Proofs.Try.f74.results.toList false (.pr (.val (.pair I (.pair I (.pair (.sl I) .unit)))) (.pr (.val I) (.pr (.val I) (.pr (.val I) (.pr (.val I) .un))))) (.val .bool) (a0, a1, a2, a3, a4, ()) = go_spec_crDo_T k a0 a1 a2 a3 a4 (fun y => iter k (loopAt (go_spec_crDo_C k) (bodyOf Go.Proofs.Try.f74) [1, 1, 0, 1, 0] [] (finPure (go_spec_crDo_C k) Go.Proofs.Try.f74.results.toList false (.val .bool))) (go_spec_crDo_L0_E a0 a1 a2 a3 a4 y)) := by kernel_rfl
  have h0 : (fun y => iter k (loopAt (go_spec_crDo_C k) (bodyOf Go.Proofs.Try.f74) [1, 1, 0, 1, 0] [] (finPure (go_spec_crDo_C k) Go.Proofs.Try.f74.results.toList false (.val .bool))) (go_spec_crDo_L0_E a0 a1 a2 a3 a4 y)) = (fun y => go_spec_crDo_L0 k a0 a1 a2 a3 a4 y) := by
    funext y
    exact go_spec_crDo_L0_t k a0 a1 a2 a3 a4 y
  rw [h, h0]
  rfl
def go_spec_crDo_S (k : Nat) : Spec := ⟨(.pr (.val (.pair I (.pair I (.pair (.sl I) .unit)))) (.pr (.val I) (.pr (.val I) (.pr (.val I) (.pr (.val I) .un))))), (.val .bool), false, .inl fun x => go_spec_crDo k x.1 x.2.1 x.2.2.1 x.2.2.2.1 x.2.2.2.2.1⟩
theorem go_spec_crDo_F (k : Nat) : Fits Go.Proofs.Try.prog (go_spec_crDo_C k) 74 Go.Proofs.Try.f74 (bodyOf Go.Proofs.Try.f74) (.pr (.val (.pair I (.pair I (.pair (.sl I) .unit)))) (.pr (.val I) (.pr (.val I) (.pr (.val I) (.pr (.val I) .un))))) (.val .bool) false :=
  ⟨th0, mixed0, by kernel_rfl, Go.Proofs.Try.func74, rfl, by kernel_rfl, rfl, rfl, rfl, rfl, rfl, rfl⟩
theorem go_spec_crDo_M (k : Nat) : Meets Go.Proofs.Try.prog 74 (go_spec_crDo_S k) :=
  meets_pure (go_spec_crDo_F k) (sigs_all (l := [(89, go_spec_crOn_S k), (90, go_spec_crCross_S k), (122, go_spec_l1Sign_S k)]) rfl ⟨go_spec_crOn_M k, ⟨go_spec_crCross_M k, ⟨go_spec_l1Sign_M k, trivial⟩⟩⟩) rfl fun x => go_spec_crDo_t k x.1 x.2.1 x.2.2.1 x.2.2.2.1 x.2.2.2.2.1

/-! ### spec.crCount -/
def go_spec_crCount_C (k : Nat) : Ctx := { th := TH, se := SE, sg := [(74, go_spec_crDo_S k)], mu := [], an := [(3, [(1, false), (2, false), (5, false), (6, false)]), (6, [(1, false), (2, false), (5, false), (6, false), (7, false)])], dr := [(8, 19)], pre := [], d2 := [], m := 0, fx := [], n := 42, k := k }
def go_spec_crCount_L0_E (a0 : (Int × (Int × ((List Int) × Unit)))) (a1 : (List Int)) (x23 : (Int × Int)) : St :=
  ⟨[(1, .one (.val (.sl I) a1), []), (2, .one (.val (.pt (.pair I (.pair I (.pair (.sl I) .unit)))) (some a0)), []), (5, .one (.val I x23.1), []), (6, .one (.val I x23.2), [])], [], []⟩
def go_spec_crCount_L1_E (a0 : (Int × (Int × ((List Int) × Unit)))) (a1 : (List Int)) (x23 : (Int × Int)) (x31 : (Int × Int)) : St :=
  ⟨[(1, .one (.val (.sl I) a1), []), (2, .one (.val (.pt (.pair I (.pair I (.pair (.sl I) .unit)))) (some a0)), []), (5, .one (.val I x31.1), []), (6, .one (.val I x23.2), []), (7, .one (.val I x31.2), [])], [], []⟩
def go_spec_crCount_L1_G (k : Nat) (a0 : (Int × (Int × ((List Int) × Unit)))) (a1 : (List Int)) (x23 : (Int × Int)) (rec24 : (Int × Int) → Option Int) (rec32 : (Int × Int) → Option Int) (x31 : (Int × Int)) : Option Int :=
  if (decide (x31.2 < x23.2)) = true then
    if (inb (IntKind.i64.wrap (x23.2 - (1 : Int))) a1.length) = true then
    if (inb x23.2 a1.length) = true then
    if (inb (IntKind.i64.wrap (x31.2 - (1 : Int))) a1.length) = true then
    if (inb x31.2 a1.length) = true then
    (go_spec_crDo k a0 (a1.getD (IntKind.i64.wrap (x23.2 - (1 : Int))).toNat (0 : Int)) (a1.getD x23.2.toNat (0 : Int)) (a1.getD (IntKind.i64.wrap (x31.2 - (1 : Int))).toNat (0 : Int)) (a1.getD x31.2.toNat (0 : Int))).bind fun r33 =>
    if r33 = true then
      rec32 ((IntKind.i64.wrap (x31.1 + (1 : Int))), (IntKind.i64.wrap (x31.2 + (1 : Int))))
    else
      rec32 (x31.1, (IntKind.i64.wrap (x31.2 + (1 : Int))))
    else none
    else none
    else none
    else none
  else
    rec24 (x31.1, (IntKind.i64.wrap (x23.2 + (1 : Int))))
def go_spec_crCount_L1 (k : Nat) (a0 : (Int × (Int × ((List Int) × Unit)))) (a1 : (List Int)) (rec24 : (Int × Int) → Option Int) (x23 : (Int × Int)) : (Int × Int) → Option Int :=
  iter k fun rec32 x31 => go_spec_crCount_L1_G k a0 a1 x23 rec24 rec32 x31
theorem go_spec_crCount_L1_t (k : Nat) (a0 : (Int × (Int × ((List Int) × Unit)))) (a1 : (List Int)) (s0 : St → Option Int) (x23 : (Int × Int)) (x : (Int × Int)) :
    iter k (loopAt (go_spec_crCount_C k) (bodyOf Go.Proofs.Try.f54) [1, 1, 0, 1, 0, 0, 1, 0, 0, 1, 0] [s0] (finPure (go_spec_crCount_C k) Go.Proofs.Try.f54.results.toList false (.val I))) (go_spec_crCount_L1_E a0 a1 x23 x) = go_spec_crCount_L1 k a0 a1 (fun y => s0 (go_spec_crCount_L0_E a0 a1 y)) x23 x := by
  refine iter_tie (G := fun rec x => go_spec_crCount_L1_G k a0 a1 x23 (fun y => s0 (go_spec_crCount_L0_E a0 a1 y)) rec x) (go_spec_crCount_L1_E a0 a1 x23) (fun rec x => ?_) k x
  have h : loopAt (go_spec_crCount_C k) (bodyOf Go.Proofs.Try.f54) [1, 1, 0, 1, 0, 0, 1, 0, 0, 1, 0] [s0] (finPure (go_spec_crCount_C k) Go.Proofs.Try.f54.results.toList false (.val I)) rec (go_spec_crCount_L1_E a0 a1 x23 x) = go_spec_crCount_L1_G k a0 a1 x23 (fun y => s0 (go_spec_crCount_L0_E a0 a1 y)) (fun y => rec (go_spec_crCount_L1_E a0 a1 x23 y)) x := by kernel_rfl
  rw [h]
def go_spec_crCount_L0_G (k : Nat) (a0 : (Int × (Int × ((List Int) × Unit)))) (a1 : (List Int)) (l_1 : (Int × Int) → (Int × Int) → Option Int) (rec24 : (Int × Int) → Option Int) (x23 : (Int × Int)) : Option Int :=
  if (decide (x23.2 < (a1.length : Int))) = true then
    l_1 x23 (x23.1, (1 : Int))
  else
    some x23.1
def go_spec_crCount_L0 (k : Nat) (a0 : (Int × (Int × ((List Int) × Unit)))) (a1 : (List Int)) : (Int × Int) → Option Int :=
  iter k fun rec24 x23 => go_spec_crCount_L0_G k a0 a1 (fun c0 y => go_spec_crCount_L1 k a0 a1 rec24 c0 y) rec24 x23
theorem go_spec_crCount_L0_t (k : Nat) (a0 : (Int × (Int × ((List Int) × Unit)))) (a1 : (List Int)) (x : (Int × Int)) :
    iter k (loopAt (go_spec_crCount_C k) (bodyOf Go.Proofs.Try.f54) [1, 1, 0, 1, 0] [] (finPure (go_spec_crCount_C k) Go.Proofs.Try.f54.results.toList false (.val I))) (go_spec_crCount_L0_E a0 a1 x) = go_spec_crCount_L0 k a0 a1 x := by
  refine iter_tie (G := fun rec x => go_spec_crCount_L0_G k a0 a1 (fun c0 y => go_spec_crCount_L1 k a0 a1 rec c0 y) rec x) (go_spec_crCount_L0_E a0 a1) (fun rec x => ?_) k x
  have h : loopAt (go_spec_crCount_C k) (bodyOf Go.Proofs.Try.f54) [1, 1, 0, 1, 0] [] (finPure (go_spec_crCount_C k) Go.Proofs.Try.f54.results.toList false (.val I)) rec (go_spec_crCount_L0_E a0 a1 x) = go_spec_crCount_L0_G k a0 a1 (fun c0 y => iter k (loopAt (go_spec_crCount_C k) (bodyOf Go.Proofs.Try.f54) [1, 1, 0, 1, 0, 0, 1, 0, 0, 1, 0] [rec] (finPure (go_spec_crCount_C k) Go.Proofs.Try.f54.results.toList false (.val I))) (go_spec_crCount_L1_E a0 a1 c0 y)) (fun y => rec (go_spec_crCount_L0_E a0 a1 y)) x := by kernel_rfl
  have h0 : (fun c0 y => iter k (loopAt (go_spec_crCount_C k) (bodyOf Go.Proofs.Try.f54) [1, 1, 0, 1, 0, 0, 1, 0, 0, 1, 0] [rec] (finPure (go_spec_crCount_C k) Go.Proofs.Try.f54.results.toList false (.val I))) (go_spec_crCount_L1_E a0 a1 c0 y)) = (fun c0 y => go_spec_crCount_L1 k a0 a1 (fun y => rec (go_spec_crCount_L0_E a0 a1 y)) c0 y) := by
    funext c0 y
    exact go_spec_crCount_L1_t k a0 a1 rec c0 y
  rw [h, h0]
def go_spec_crCount_T (k : Nat) (a0 : (Int × (Int × ((List Int) × Unit)))) (a1 : (List Int)) (l_0 : (Int × Int) → Option Int) : Option Int :=
  l_0 ((0 : Int), (1 : Int))
def go_spec_crCount (k : Nat) (a0 : (Int × (Int × ((List Int) × Unit)))) (a1 : (List Int)) : Option Int :=
  go_spec_crCount_T k a0 a1 (fun y => go_spec_crCount_L0 k a0 a1 y)
theorem go_spec_crCount_t (k : Nat) (a0 : (Int × (Int × ((List Int) × Unit)))) (a1 : (List Int)) : runPure (go_spec_crCount_C k) (bodyOf Go.Proofs.Try.f54) Go.Proofs.Try.f54.results.toList false (.pr (.val (.pair I (.pair I (.pair (.sl I) .unit)))) (.pr (.val (.sl I)) .un)) (.val I) (a0, a1, ()) = go_spec_crCount k a0 a1 := by
  have h : runPure (go_spec_crCount_C k) (bodyOf Go.Proofs.Try.f54) Go.Proofs.Try.f54.results.toList false (.pr (.val (.pair I (.pair I (.pair (.sl I) .unit)))) (.pr (.val (.sl I)) .un)) (.val I) (a0, a1, ()) = go_spec_crCount_T k a0 a1 (fun y => iter k (loopAt (go_spec_crCount_C k) (bodyOf Go.Proofs.Try.f54) [1, 1, 0, 1, 0] [] (finPure (go_spec_crCount_C k) Go.Proofs.Try.f54.results.toList false (.val I))) (go_spec_crCount_L0_E a0 a1 y)) := by kernel_rfl
  have h0 : (fun y => iter k (loopAt (go_spec_crCount_C k) (bodyOf Go.Proofs.Try.f54) [1, 1, 0, 1, 0] [] (finPure (go_spec_crCount_C k) Go.Proofs.Try.f54.results.toList false (.val I))) (go_spec_crCount_L0_E a0 a1 y)) = (fun y => go_spec_crCount_L0 k a0 a1 y) := by
    funext y
    exact go_spec_crCount_L0_t k a0 a1 y
  rw [h, h0]
  rfl
def go_spec_crCount_S (k : Nat) : Spec := ⟨(.pr (.val (.pair I (.pair I (.pair (.sl I) .unit)))) (.pr (.val (.sl I)) .un)), (.val I), false, .inl fun x => go_spec_crCount k x.1 x.2.1⟩
theorem go_spec_crCount_F (k : Nat) : Fits Go.Proofs.Try.prog (go_spec_crCount_C k) 54 Go.Proofs.Try.f54 (bodyOf Go.Proofs.Try.f54) (.pr (.val (.pair I (.pair I (.pair (.sl I) .unit)))) (.pr (.val (.sl I)) .un)) (.val I) false :=
  ⟨th0, mixed0, by kernel_rfl, Go.Proofs.Try.func54, rfl, by kernel_rfl, rfl, rfl, rfl, rfl, rfl, rfl⟩
theorem go_spec_crCount_M (k : Nat) : Meets Go.Proofs.Try.prog 54 (go_spec_crCount_S k) :=
  meets_pure (go_spec_crCount_F k) (sigs_all (l := [(74, go_spec_crDo_S k)]) rfl ⟨go_spec_crDo_M k, trivial⟩) rfl fun x => go_spec_crCount_t k x.1 x.2.1

/-! ### spec.IsUncrossed -/
def go_spec_IsUncrossed_C (k : Nat) : Ctx := { th := TH, se := SE, sg := [(52, go_spec_boTwo_S k), (53, go_spec_toWalk_S k), (54, go_spec_crCount_S k)], mu := [], an := [], dr := [], pre := [], d2 := [], m := 0, fx := [], n := 23, k := k }
def go_spec_IsUncrossed (k : Nat) (a0 : (Int × (Int × ((List Int) × Unit)))) (a1 : (Int × (Int × Unit))) (a2 : (List Int)) : Option (Bool × (Bool × Unit)) :=
  (go_spec_boTwo k a0 a1).bind fun r1 =>
  (if (!(!r1)) = true then go_spec_toWalk k a0 a1 a2 else some false).bind fun r2 =>
  if ((!r1) || (!r2)) = true then
    some (false, (false, ()))
  else
    (go_spec_crCount k a0 a2).bind fun r3 =>
    some ((decide (r3 = (0 : Int))), (true, ()))
theorem go_spec_IsUncrossed_t (k : Nat) (a0 : (Int × (Int × ((List Int) × Unit)))) (a1 : (Int × (Int × Unit))) (a2 : (List Int)) : runPure (go_spec_IsUncrossed_C k) (bodyOf Go.Proofs.Try.f16) Go.Proofs.Try.f16.results.toList true (.pr (.val (.pair I (.pair I (.pair (.sl I) .unit)))) (.pr (.val (.pair I (.pair I .unit))) (.pr (.val (.sl I)) .un))) (.pr (.val .bool) (.pr (.val .bool) .un)) (a0, a1, a2, ()) = go_spec_IsUncrossed k a0 a1 a2 := by kernel_rfl
def go_spec_IsUncrossed_S (k : Nat) : Spec := ⟨(.pr (.val (.pair I (.pair I (.pair (.sl I) .unit)))) (.pr (.val (.pair I (.pair I .unit))) (.pr (.val (.sl I)) .un))), (.pr (.val .bool) (.pr (.val .bool) .un)), true, .inl fun x => go_spec_IsUncrossed k x.1 x.2.1 x.2.2.1⟩
theorem go_spec_IsUncrossed_F (k : Nat) : Fits Go.Proofs.Try.prog (go_spec_IsUncrossed_C k) 16 Go.Proofs.Try.f16 (bodyOf Go.Proofs.Try.f16) (.pr (.val (.pair I (.pair I (.pair (.sl I) .unit)))) (.pr (.val (.pair I (.pair I .unit))) (.pr (.val (.sl I)) .un))) (.pr (.val .bool) (.pr (.val .bool) .un)) true :=
  ⟨th0, mixed0, by kernel_rfl, Go.Proofs.Try.func16, rfl, by kernel_rfl, rfl, rfl, rfl, rfl, rfl, rfl⟩
theorem go_spec_IsUncrossed_M (k : Nat) : Meets Go.Proofs.Try.prog 16 (go_spec_IsUncrossed_S k) :=
  meets_pure (go_spec_IsUncrossed_F k) (sigs_all (l := [(52, go_spec_boTwo_S k), (53, go_spec_toWalk_S k), (54, go_spec_crCount_S k)]) rfl ⟨go_spec_boTwo_M k, ⟨go_spec_toWalk_M k, ⟨go_spec_crCount_M k, trivial⟩⟩⟩) rfl fun x => go_spec_IsUncrossed_t k x.1 x.2.1 x.2.2.1

/-! ### impl.walkGraph -/
def go_impl_walkGraph_C (k : Nat) : Ctx := { th := TH, se := SE, sg := [(70, go_impl_graphOf_S k), (106, go_impl_graph_isWalk_S k)], mu := [], an := [], dr := [], pre := [], d2 := [], m := 0, fx := [], n := 25, k := k }
def go_impl_walkGraph (k : Nat) (a0 : (Int × (Int × ((List Int) × Unit)))) (a1 : (Int × (Int × Unit))) (a2 : (List Int)) : Option ((Option ((Int × (Int × ((List Int) × Unit))) × ((Int × (Int × Unit)) × ((List Int) × ((List (List Int)) × Unit))))) × (Bool × Unit)) :=
  (go_impl_graphOf k a0 a1).bind fun r1 =>
  (if (!(!r1.2.1)) = true then go_impl_graph_isWalk k r1.1 a2 else some false).bind fun r2 =>
  if ((!r1.2.1) || (!r2)) = true then
    some (none, (false, ()))
  else
    some (r1.1, (true, ()))
theorem go_impl_walkGraph_t (k : Nat) (a0 : (Int × (Int × ((List Int) × Unit)))) (a1 : (Int × (Int × Unit))) (a2 : (List Int)) : runPure (go_impl_walkGraph_C k) (bodyOf Go.Proofs.Try.f55) Go.Proofs.Try.f55.results.toList true (.pr (.val (.pair I (.pair I (.pair (.sl I) .unit)))) (.pr (.val (.pair I (.pair I .unit))) (.pr (.val (.sl I)) .un))) (.pr (.val (.pt (.pair (.pair I (.pair I (.pair (.sl I) .unit))) (.pair (.pair I (.pair I .unit)) (.pair (.sl I) (.pair (.sl (.sl I)) .unit)))))) (.pr (.val .bool) .un)) (a0, a1, a2, ()) = go_impl_walkGraph k a0 a1 a2 := by kernel_rfl
def go_impl_walkGraph_S (k : Nat) : Spec := ⟨(.pr (.val (.pair I (.pair I (.pair (.sl I) .unit)))) (.pr (.val (.pair I (.pair I .unit))) (.pr (.val (.sl I)) .un))), (.pr (.val (.pt (.pair (.pair I (.pair I (.pair (.sl I) .unit))) (.pair (.pair I (.pair I .unit)) (.pair (.sl I) (.pair (.sl (.sl I)) .unit)))))) (.pr (.val .bool) .un)), true, .inl fun x => go_impl_walkGraph k x.1 x.2.1 x.2.2.1⟩
theorem go_impl_walkGraph_F (k : Nat) : Fits Go.Proofs.Try.prog (go_impl_walkGraph_C k) 55 Go.Proofs.Try.f55 (bodyOf Go.Proofs.Try.f55) (.pr (.val (.pair I (.pair I (.pair (.sl I) .unit)))) (.pr (.val (.pair I (.pair I .unit))) (.pr (.val (.sl I)) .un))) (.pr (.val (.pt (.pair (.pair I (.pair I (.pair (.sl I) .unit))) (.pair (.pair I (.pair I .unit)) (.pair (.sl I) (.pair (.sl (.sl I)) .unit)))))) (.pr (.val .bool) .un)) true :=
  ⟨th0, mixed0, by kernel_rfl, Go.Proofs.Try.func55, rfl, by kernel_rfl, rfl, rfl, rfl, rfl, rfl, rfl⟩
theorem go_impl_walkGraph_M (k : Nat) : Meets Go.Proofs.Try.prog 55 (go_impl_walkGraph_S k) :=
  meets_pure (go_impl_walkGraph_F k) (sigs_all (l := [(70, go_impl_graphOf_S k), (106, go_impl_graph_isWalk_S k)]) rfl ⟨go_impl_graphOf_M k, ⟨go_impl_graph_isWalk_M k, trivial⟩⟩) rfl fun x => go_impl_walkGraph_t k x.1 x.2.1 x.2.2.1

/-! ### (impl.Board).at -/
def go_impl_Board_at_C (k : Nat) : Ctx := { th := TH, se := SE, sg := [], mu := [], an := [], dr := [(1, 8)], pre := [], d2 := [], m := 0, fx := [], n := 14, k := k }
def go_impl_Board_at (k : Nat) (a0 : (Int × (Int × ((List Int) × Unit)))) (a1 : Int) : Option (Int × (Int × Unit)) :=
  if (decide (a0.1 ≠ 0)) = true then
  if (decide (a0.1 ≠ 0)) = true then
  some ((Int.tmod a1 a0.1), ((IntKind.i64.wrap (Int.tdiv a1 a0.1)), ()))
  else none
  else none
theorem go_impl_Board_at_t (k : Nat) (a0 : (Int × (Int × ((List Int) × Unit)))) (a1 : Int) : runPure (go_impl_Board_at_C k) (bodyOf Go.Proofs.Try.f92) Go.Proofs.Try.f92.results.toList false (.pr (.val (.pair I (.pair I (.pair (.sl I) .unit)))) (.pr (.val I) .un)) (.val (.pair I (.pair I .unit))) (a0, a1, ()) = go_impl_Board_at k a0 a1 := by kernel_rfl
def go_impl_Board_at_S (k : Nat) : Spec := ⟨(.pr (.val (.pair I (.pair I (.pair (.sl I) .unit)))) (.pr (.val I) .un)), (.val (.pair I (.pair I .unit))), false, .inl fun x => go_impl_Board_at k x.1 x.2.1⟩
theorem go_impl_Board_at_F (k : Nat) : Fits Go.Proofs.Try.prog (go_impl_Board_at_C k) 92 Go.Proofs.Try.f92 (bodyOf Go.Proofs.Try.f92) (.pr (.val (.pair I (.pair I (.pair (.sl I) .unit)))) (.pr (.val I) .un)) (.val (.pair I (.pair I .unit))) false :=
  ⟨th0, mixed0, by kernel_rfl, Go.Proofs.Try.func92, rfl, by kernel_rfl, rfl, rfl, rfl, rfl, rfl, rfl⟩
theorem go_impl_Board_at_M (k : Nat) : Meets Go.Proofs.Try.prog 92 (go_impl_Board_at_S k) :=
  meets_pure (go_impl_Board_at_F k) (sigs_all (l := []) rfl trivial) rfl fun x => go_impl_Board_at_t k x.1 x.2.1

/-! ### impl.turn -/
def go_impl_turn_C (k : Nat) : Ctx := { th := TH, se := SE, sg := [], mu := [], an := [], dr := [], pre := [], d2 := [], m := 0, fx := [], n := 30, k := k }
def go_impl_turn (k : Nat) (a0 : (Int × (Int × Unit))) (a1 : (Int × (Int × Unit))) (a2 : (Int × (Int × Unit))) : Option Int :=
  some (IntKind.i64.wrap ((IntKind.i64.wrap ((IntKind.i64.wrap (a1.1 - a0.1)) * (IntKind.i64.wrap (a2.2.1 - a0.2.1)))) - (IntKind.i64.wrap ((IntKind.i64.wrap (a1.2.1 - a0.2.1)) * (IntKind.i64.wrap (a2.1 - a0.1))))))
theorem go_impl_turn_t (k : Nat) (a0 : (Int × (Int × Unit))) (a1 : (Int × (Int × Unit))) (a2 : (Int × (Int × Unit))) : runPure (go_impl_turn_C k) (bodyOf Go.Proofs.Try.f128) Go.Proofs.Try.f128.results.toList false (.pr (.val (.pair I (.pair I .unit))) (.pr (.val (.pair I (.pair I .unit))) (.pr (.val (.pair I (.pair I .unit))) .un))) (.val I) (a0, a1, a2, ()) = go_impl_turn k a0 a1 a2 := by kernel_rfl
def go_impl_turn_S (k : Nat) : Spec := ⟨(.pr (.val (.pair I (.pair I .unit))) (.pr (.val (.pair I (.pair I .unit))) (.pr (.val (.pair I (.pair I .unit))) .un))), (.val I), false, .inl fun x => go_impl_turn k x.1 x.2.1 x.2.2.1⟩
theorem go_impl_turn_F (k : Nat) : Fits Go.Proofs.Try.prog (go_impl_turn_C k) 128 Go.Proofs.Try.f128 (bodyOf Go.Proofs.Try.f128) (.pr (.val (.pair I (.pair I .unit))) (.pr (.val (.pair I (.pair I .unit))) (.pr (.val (.pair I (.pair I .unit))) .un))) (.val I) false :=
  ⟨th0, mixed0, by kernel_rfl, Go.Proofs.Try.func128, rfl, by kernel_rfl, rfl, rfl, rfl, rfl, rfl, rfl⟩
theorem go_impl_turn_M (k : Nat) : Meets Go.Proofs.Try.prog 128 (go_impl_turn_S k) :=
  meets_pure (go_impl_turn_F k) (sigs_all (l := []) rfl trivial) rfl fun x => go_impl_turn_t k x.1 x.2.1 x.2.2.1

/-! ### impl.between -/
def go_impl_between_C (k : Nat) : Ctx := { th := TH, se := SE, sg := [], mu := [], an := [], dr := [], pre := [], d2 := [], m := 0, fx := [], n := 45, k := k }
def go_impl_between (k : Nat) (a0 : (Int × (Int × Unit))) (a1 : (Int × (Int × Unit))) (a2 : (Int × (Int × Unit))) : Option Bool :=
  some ((((decide ((min a0.1 a1.1) ≤ a2.1)) && (decide (a2.1 ≤ (max a0.1 a1.1)))) && (decide ((min a0.2.1 a1.2.1) ≤ a2.2.1))) && (decide (a2.2.1 ≤ (max a0.2.1 a1.2.1))))
theorem go_impl_between_t (k : Nat) (a0 : (Int × (Int × Unit))) (a1 : (Int × (Int × Unit))) (a2 : (Int × (Int × Unit))) : runPure (go_impl_between_C k) (bodyOf Go.Proofs.Try.f129) Go.Proofs.Try.f129.results.toList false (.pr (.val (.pair I (.pair I .unit))) (.pr (.val (.pair I (.pair I .unit))) (.pr (.val (.pair I (.pair I .unit))) .un))) (.val .bool) (a0, a1, a2, ()) = go_impl_between k a0 a1 a2 := by kernel_rfl
def go_impl_between_S (k : Nat) : Spec := ⟨(.pr (.val (.pair I (.pair I .unit))) (.pr (.val (.pair I (.pair I .unit))) (.pr (.val (.pair I (.pair I .unit))) .un))), (.val .bool), false, .inl fun x => go_impl_between k x.1 x.2.1 x.2.2.1⟩
theorem go_impl_between_F (k : Nat) : Fits Go.Proofs.Try.prog (go_impl_between_C k) 129 Go.Proofs.Try.f129 (bodyOf Go.Proofs.Try.f129) (.pr (.val (.pair I (.pair I .unit))) (.pr (.val (.pair I (.pair I .unit))) (.pr (.val (.pair I (.pair I .unit))) .un))) (.val .bool) false :=
  ⟨th0, mixed0, by kernel_rfl, Go.Proofs.Try.func129, rfl, by kernel_rfl, rfl, rfl, rfl, rfl, rfl, rfl⟩
theorem go_impl_between_M (k : Nat) : Meets Go.Proofs.Try.prog 129 (go_impl_between_S k) :=
  meets_pure (go_impl_between_F k) (sigs_all (l := []) rfl trivial) rfl fun x => go_impl_between_t k x.1 x.2.1 x.2.2.1

/-! ### impl.sign -/
def go_impl_sign_C (k : Nat) : Ctx := { th := TH, se := SE, sg := [], mu := [], an := [], dr := [], pre := [], d2 := [], m := 0, fx := [], n := 9, k := k }
def go_impl_sign (k : Nat) (a0 : Int) : Option Int :=
  if (decide ((0 : Int) < a0)) = true then
    some (1 : Int)
  else
    if (decide (a0 < (0 : Int))) = true then
      some (-1 : Int)
    else
      some (0 : Int)
theorem go_impl_sign_t (k : Nat) (a0 : Int) : runPure (go_impl_sign_C k) (bodyOf Go.Proofs.Try.f145) Go.Proofs.Try.f145.results.toList false (.pr (.val I) .un) (.val I) (a0, ()) = go_impl_sign k a0 := by kernel_rfl
def go_impl_sign_S (k : Nat) : Spec := ⟨(.pr (.val I) .un), (.val I), false, .inl fun x => go_impl_sign k x.1⟩
theorem go_impl_sign_F (k : Nat) : Fits Go.Proofs.Try.prog (go_impl_sign_C k) 145 Go.Proofs.Try.f145 (bodyOf Go.Proofs.Try.f145) (.pr (.val I) .un) (.val I) false :=
  ⟨th0, mixed0, by kernel_rfl, Go.Proofs.Try.func145, rfl, by kernel_rfl, rfl, rfl, rfl, rfl, rfl, rfl⟩
theorem go_impl_sign_M (k : Nat) : Meets Go.Proofs.Try.prog 145 (go_impl_sign_S k) :=
  meets_pure (go_impl_sign_F k) (sigs_all (l := []) rfl trivial) rfl fun x => go_impl_sign_t k x.1

/-! ### impl.inLine$1 -/
def go_impl_inLine_1_C (k : Nat) : Ctx := { th := TH, se := SE, sg := [], mu := [], an := [], dr := [], pre := [], d2 := [], m := 0, fx := [], n := 21, k := k }
def go_impl_inLine_1 (k : Nat) (a0 : (Int × (Int × Unit))) (a1 : (Int × (Int × Unit))) (a2 : Int) (a3 : Int) : Option Int :=
  some (IntKind.i64.wrap ((IntKind.i64.wrap ((IntKind.i64.wrap (a0.1 - a1.1)) * a2)) + (IntKind.i64.wrap ((IntKind.i64.wrap (a0.2.1 - a1.2.1)) * a3))))
theorem go_impl_inLine_1_t (k : Nat) (a0 : (Int × (Int × Unit))) (a1 : (Int × (Int × Unit))) (a2 : Int) (a3 : Int) : runPure (go_impl_inLine_1_C k) (bodyOf Go.Proofs.Try.f162) Go.Proofs.Try.f162.results.toList false (.pr (.val (.pair I (.pair I .unit))) (.pr (.ref (.pair I (.pair I .unit))) (.pr (.ref I) (.pr (.ref I) .un)))) (.val I) (a0, a1, a2, a3, ()) = go_impl_inLine_1 k a0 a1 a2 a3 := by kernel_rfl
def go_impl_inLine_1_S (k : Nat) : Spec := ⟨(.pr (.val (.pair I (.pair I .unit))) (.pr (.ref (.pair I (.pair I .unit))) (.pr (.ref I) (.pr (.ref I) .un)))), (.val I), false, .inl fun x => go_impl_inLine_1 k x.1 x.2.1 x.2.2.1 x.2.2.2.1⟩
theorem go_impl_inLine_1_F (k : Nat) : Fits Go.Proofs.Try.prog (go_impl_inLine_1_C k) 162 Go.Proofs.Try.f162 (bodyOf Go.Proofs.Try.f162) (.pr (.val (.pair I (.pair I .unit))) (.pr (.ref (.pair I (.pair I .unit))) (.pr (.ref I) (.pr (.ref I) .un)))) (.val I) false :=
  ⟨th0, mixed0, by kernel_rfl, Go.Proofs.Try.func162, rfl, by kernel_rfl, rfl, rfl, rfl, rfl, rfl, rfl⟩
theorem go_impl_inLine_1_M (k : Nat) : Meets Go.Proofs.Try.prog 162 (go_impl_inLine_1_S k) :=
  meets_pure (go_impl_inLine_1_F k) (sigs_all (l := []) rfl trivial) rfl fun x => go_impl_inLine_1_t k x.1 x.2.1 x.2.2.1 x.2.2.2.1

/-! ### impl.inLine -/
def go_impl_inLine_C (k : Nat) : Ctx := { th := TH, se := SE, sg := [(162, go_impl_inLine_1_S k)], mu := [4], an := [], dr := [(1, 13), (3, 15)], pre := [], d2 := [], m := 0, fx := [], n := 47, k := k }
def go_impl_inLine (k : Nat) (a0 : (Int × (Int × Unit))) (a1 : (Int × (Int × Unit))) (a2 : (Int × (Int × Unit))) (a3 : (Int × (Int × Unit))) : Option Bool :=
  (go_impl_inLine_1 k a2 (a0.1, (a0.2.1, ())) (IntKind.i64.wrap (a1.1 - a0.1)) (IntKind.i64.wrap (a1.2.1 - a0.2.1))).bind fun r1 =>
  (go_impl_inLine_1 k a3 (a0.1, (a0.2.1, ())) (IntKind.i64.wrap (a1.1 - a0.1)) (IntKind.i64.wrap (a1.2.1 - a0.2.1))).bind fun r2 =>
  (go_impl_inLine_1 k a2 (a0.1, (a0.2.1, ())) (IntKind.i64.wrap (a1.1 - a0.1)) (IntKind.i64.wrap (a1.2.1 - a0.2.1))).bind fun r3 =>
  (go_impl_inLine_1 k a3 (a0.1, (a0.2.1, ())) (IntKind.i64.wrap (a1.1 - a0.1)) (IntKind.i64.wrap (a1.2.1 - a0.2.1))).bind fun r4 =>
  (go_impl_inLine_1 k a1 (a0.1, (a0.2.1, ())) (IntKind.i64.wrap (a1.1 - a0.1)) (IntKind.i64.wrap (a1.2.1 - a0.2.1))).bind fun r5 =>
  some (decide ((max (min r1 r2) (0 : Int)) < (min (max r3 r4) r5)))
theorem go_impl_inLine_t (k : Nat) (a0 : (Int × (Int × Unit))) (a1 : (Int × (Int × Unit))) (a2 : (Int × (Int × Unit))) (a3 : (Int × (Int × Unit))) : runPure (go_impl_inLine_C k) (bodyOf Go.Proofs.Try.f146) Go.Proofs.Try.f146.results.toList false (.pr (.val (.pair I (.pair I .unit))) (.pr (.val (.pair I (.pair I .unit))) (.pr (.val (.pair I (.pair I .unit))) (.pr (.val (.pair I (.pair I .unit))) .un)))) (.val .bool) (a0, a1, a2, a3, ()) = go_impl_inLine k a0 a1 a2 a3 := by kernel_rfl
def go_impl_inLine_S (k : Nat) : Spec := ⟨(.pr (.val (.pair I (.pair I .unit))) (.pr (.val (.pair I (.pair I .unit))) (.pr (.val (.pair I (.pair I .unit))) (.pr (.val (.pair I (.pair I .unit))) .un)))), (.val .bool), false, .inl fun x => go_impl_inLine k x.1 x.2.1 x.2.2.1 x.2.2.2.1⟩
theorem go_impl_inLine_F (k : Nat) : Fits Go.Proofs.Try.prog (go_impl_inLine_C k) 146 Go.Proofs.Try.f146 (bodyOf Go.Proofs.Try.f146) (.pr (.val (.pair I (.pair I .unit))) (.pr (.val (.pair I (.pair I .unit))) (.pr (.val (.pair I (.pair I .unit))) (.pr (.val (.pair I (.pair I .unit))) .un)))) (.val .bool) false :=
  ⟨th0, mixed0, by kernel_rfl, Go.Proofs.Try.func146, rfl, by kernel_rfl, rfl, rfl, rfl, rfl, rfl, rfl⟩
theorem go_impl_inLine_M (k : Nat) : Meets Go.Proofs.Try.prog 146 (go_impl_inLine_S k) :=
  meets_pure (go_impl_inLine_F k) (sigs_all (l := [(162, go_impl_inLine_1_S k)]) rfl ⟨go_impl_inLine_1_M k, trivial⟩) rfl fun x => go_impl_inLine_t k x.1 x.2.1 x.2.2.1 x.2.2.2.1

/-! ### impl.crosses -/
def go_impl_crosses_C (k : Nat) : Ctx := { th := TH, se := SE, sg := [(128, go_impl_turn_S k), (145, go_impl_sign_S k), (146, go_impl_inLine_S k), (129, go_impl_between_S k)], mu := [], an := [], dr := [(1, 8), (4, 8)], pre := [], d2 := [], m := 0, fx := [], n := 110, k := k }
def go_impl_crosses (k : Nat) (a0 : (Int × (Int × Unit))) (a1 : (Int × (Int × Unit))) (a2 : (Int × (Int × Unit))) (a3 : (Int × (Int × Unit))) : Option Bool :=
  (go_impl_turn k a0 a1 a2).bind fun r1 =>
  (go_impl_sign k r1).bind fun r2 =>
  (go_impl_turn k a0 a1 a3).bind fun r3 =>
  (go_impl_sign k r3).bind fun r4 =>
  if ((decide (r2 = (0 : Int))) && (decide (r4 = (0 : Int)))) = true then
    (go_impl_inLine k a0 a1 a2 a3).bind fun r5 =>
    some r5
  else
    (go_impl_turn k a2 a3 a0).bind fun r6 =>
    (go_impl_sign k r6).bind fun r7 =>
    (go_impl_turn k a2 a3 a1).bind fun r8 =>
    (go_impl_sign k r8).bind fun r9 =>
    if ((((decide (a0.1 = a2.1) && decide (a0.2.1 = a2.2.1)) || (decide (a0.1 = a3.1) && decide (a0.2.1 = a3.2.1))) || (decide (a1.1 = a2.1) && decide (a1.2.1 = a2.2.1))) || (decide (a1.1 = a3.1) && decide (a1.2.1 = a3.2.1))) = true then
      some false
    else
      if ((decide ((IntKind.i64.wrap (r2 * r4)) < (0 : Int))) && (decide ((IntKind.i64.wrap (r7 * r9)) < (0 : Int)))) = true then
        some true
      else
        (if (decide (r2 = (0 : Int))) = true then go_impl_between k a0 a1 a2 else some false).bind fun r10 =>
        (if ((decide (r4 = (0 : Int))) && (!((decide (r2 = (0 : Int))) && r10))) = true then go_impl_between k a0 a1 a3 else some false).bind fun r11 =>
        (if ((decide (r7 = (0 : Int))) && (!(((decide (r2 = (0 : Int))) && r10) || ((decide (r4 = (0 : Int))) && r11)))) = true then go_impl_between k a2 a3 a0 else some false).bind fun r12 =>
        (if ((decide (r9 = (0 : Int))) && (!((((decide (r2 = (0 : Int))) && r10) || ((decide (r4 = (0 : Int))) && r11)) || ((decide (r7 = (0 : Int))) && r12)))) = true then go_impl_between k a2 a3 a1 else some false).bind fun r13 =>
        some (((((decide (r2 = (0 : Int))) && r10) || ((decide (r4 = (0 : Int))) && r11)) || ((decide (r7 = (0 : Int))) && r12)) || ((decide (r9 = (0 : Int))) && r13))
theorem go_impl_crosses_t (k : Nat) (a0 : (Int × (Int × Unit))) (a1 : (Int × (Int × Unit))) (a2 : (Int × (Int × Unit))) (a3 : (Int × (Int × Unit))) : runPure (go_impl_crosses_C k) (bodyOf Go.Proofs.Try.f123) Go.Proofs.Try.f123.results.toList false (.pr (.val (.pair I (.pair I .unit))) (.pr (.val (.pair I (.pair I .unit))) (.pr (.val (.pair I (.pair I .unit))) (.pr (.val (.pair I (.pair I .unit))) .un)))) (.val .bool) (a0, a1, a2, a3, ()) = go_impl_crosses k a0 a1 a2 a3 := by kernel_rfl
def go_impl_crosses_S (k : Nat) : Spec := ⟨(.pr (.val (.pair I (.pair I .unit))) (.pr (.val (.pair I (.pair I .unit))) (.pr (.val (.pair I (.pair I .unit))) (.pr (.val (.pair I (.pair I .unit))) .un)))), (.val .bool), false, .inl fun x => go_impl_crosses k x.1 x.2.1 x.2.2.1 x.2.2.2.1⟩
theorem go_impl_crosses_F (k : Nat) : Fits Go.Proofs.Try.prog (go_impl_crosses_C k) 123 Go.Proofs.Try.f123 (bodyOf Go.Proofs.Try.f123) (.pr (.val (.pair I (.pair I .unit))) (.pr (.val (.pair I (.pair I .unit))) (.pr (.val (.pair I (.pair I .unit))) (.pr (.val (.pair I (.pair I .unit))) .un)))) (.val .bool) false :=
  ⟨th0, mixed0, by kernel_rfl, Go.Proofs.Try.func123, rfl, by kernel_rfl, rfl, rfl, rfl, rfl, rfl, rfl⟩
theorem go_impl_crosses_M (k : Nat) : Meets Go.Proofs.Try.prog 123 (go_impl_crosses_S k) :=
  meets_pure (go_impl_crosses_F k) (sigs_all (l := [(128, go_impl_turn_S k), (145, go_impl_sign_S k), (146, go_impl_inLine_S k), (129, go_impl_between_S k)]) rfl ⟨go_impl_turn_M k, ⟨go_impl_sign_M k, ⟨go_impl_inLine_M k, ⟨go_impl_between_M k, trivial⟩⟩⟩⟩) rfl fun x => go_impl_crosses_t k x.1 x.2.1 x.2.2.1 x.2.2.2.1

/-! ### (*impl.graph).cross -/
def go_impl_graph_cross_C (k : Nat) : Ctx := { th := TH, se := SE, sg := [(92, go_impl_Board_at_S k), (123, go_impl_crosses_S k)], mu := [], an := [], dr := [(1, 23)], pre := [], d2 := [], m := 0, fx := [], n := 36, k := k }
def go_impl_graph_cross (k : Nat) (a0 : (Option ((Int × (Int × ((List Int) × Unit))) × ((Int × (Int × Unit)) × ((List Int) × ((List (List Int)) × Unit)))))) (a1 : Int) (a2 : Int) (a3 : Int) (a4 : Int) : Option Bool :=
  if a0.isSome = true then
  (go_impl_Board_at k (a0.getD (((0 : Int), ((0 : Int), ([], ()))), (((0 : Int), ((0 : Int), ())), ([], ([], ()))))).1 a1).bind fun r1 =>
  if a0.isSome = true then
  (go_impl_Board_at k (a0.getD (((0 : Int), ((0 : Int), ([], ()))), (((0 : Int), ((0 : Int), ())), ([], ([], ()))))).1 a2).bind fun r2 =>
  if a0.isSome = true then
  (go_impl_Board_at k (a0.getD (((0 : Int), ((0 : Int), ([], ()))), (((0 : Int), ((0 : Int), ())), ([], ([], ()))))).1 a3).bind fun r3 =>
  if a0.isSome = true then
  (go_impl_Board_at k (a0.getD (((0 : Int), ((0 : Int), ([], ()))), (((0 : Int), ((0 : Int), ())), ([], ([], ()))))).1 a4).bind fun r4 =>
  (go_impl_crosses k r1 r2 r3 r4).bind fun r5 =>
  some r5
  else none
  else none
  else none
  else none
theorem go_impl_graph_cross_t (k : Nat) (a0 : (Option ((Int × (Int × ((List Int) × Unit))) × ((Int × (Int × Unit)) × ((List Int) × ((List (List Int)) × Unit)))))) (a1 : Int) (a2 : Int) (a3 : Int) (a4 : Int) : runPure (go_impl_graph_cross_C k) (bodyOf Go.Proofs.Try.f77) Go.Proofs.Try.f77.results.toList false (.pr (.val (.pt (.pair (.pair I (.pair I (.pair (.sl I) .unit))) (.pair (.pair I (.pair I .unit)) (.pair (.sl I) (.pair (.sl (.sl I)) .unit)))))) (.pr (.val I) (.pr (.val I) (.pr (.val I) (.pr (.val I) .un))))) (.val .bool) (a0, a1, a2, a3, a4, ()) = go_impl_graph_cross k a0 a1 a2 a3 a4 := by kernel_rfl
def go_impl_graph_cross_S (k : Nat) : Spec := ⟨(.pr (.val (.pt (.pair (.pair I (.pair I (.pair (.sl I) .unit))) (.pair (.pair I (.pair I .unit)) (.pair (.sl I) (.pair (.sl (.sl I)) .unit)))))) (.pr (.val I) (.pr (.val I) (.pr (.val I) (.pr (.val I) .un))))), (.val .bool), false, .inl fun x => go_impl_graph_cross k x.1 x.2.1 x.2.2.1 x.2.2.2.1 x.2.2.2.2.1⟩
theorem go_impl_graph_cross_F (k : Nat) : Fits Go.Proofs.Try.prog (go_impl_graph_cross_C k) 77 Go.Proofs.Try.f77 (bodyOf Go.Proofs.Try.f77) (.pr (.val (.pt (.pair (.pair I (.pair I (.pair (.sl I) .unit))) (.pair (.pair I (.pair I .unit)) (.pair (.sl I) (.pair (.sl (.sl I)) .unit)))))) (.pr (.val I) (.pr (.val I) (.pr (.val I) (.pr (.val I) .un))))) (.val .bool) false :=
  ⟨th0, mixed0, by kernel_rfl, Go.Proofs.Try.func77, rfl, by kernel_rfl, rfl, rfl, rfl, rfl, rfl, rfl⟩
theorem go_impl_graph_cross_M (k : Nat) : Meets Go.Proofs.Try.prog 77 (go_impl_graph_cross_S k) :=
  meets_pure (go_impl_graph_cross_F k) (sigs_all (l := [(92, go_impl_Board_at_S k), (123, go_impl_crosses_S k)]) rfl ⟨go_impl_Board_at_M k, ⟨go_impl_crosses_M k, trivial⟩⟩) rfl fun x => go_impl_graph_cross_t k x.1 x.2.1 x.2.2.1 x.2.2.2.1 x.2.2.2.2.1

/-! ### (*impl.graph).crossings -/
def go_impl_graph_crossings_C (k : Nat) : Ctx := { th := TH, se := SE, sg := [(77, go_impl_graph_cross_S k)], mu := [], an := [(3, [(0, false), (1, false), (5, false), (6, false)]), (6, [(0, false), (1, false), (5, false), (6, false), (7, false)])], dr := [(8, 19)], pre := [], d2 := [], m := 0, fx := [], n := 42, k := k }
def go_impl_graph_crossings_L0_E (a0 : (Option ((Int × (Int × ((List Int) × Unit))) × ((Int × (Int × Unit)) × ((List Int) × ((List (List Int)) × Unit)))))) (a1 : (List Int)) (x23 : (Int × Int)) : St :=
  ⟨[(0, .one (.val (.pt (.pair (.pair I (.pair I (.pair (.sl I) .unit))) (.pair (.pair I (.pair I .unit)) (.pair (.sl I) (.pair (.sl (.sl I)) .unit))))) a0), []), (1, .one (.val (.sl I) a1), []), (5, .one (.val I x23.1), []), (6, .one (.val I x23.2), [])], [], []⟩
def go_impl_graph_crossings_L1_E (a0 : (Option ((Int × (Int × ((List Int) × Unit))) × ((Int × (Int × Unit)) × ((List Int) × ((List (List Int)) × Unit)))))) (a1 : (List Int)) (x23 : (Int × Int)) (x31 : (Int × Int)) : St :=
  ⟨[(0, .one (.val (.pt (.pair (.pair I (.pair I (.pair (.sl I) .unit))) (.pair (.pair I (.pair I .unit)) (.pair (.sl I) (.pair (.sl (.sl I)) .unit))))) a0), []), (1, .one (.val (.sl I) a1), []), (5, .one (.val I x31.1), []), (6, .one (.val I x23.2), []), (7, .one (.val I x31.2), [])], [], []⟩
def go_impl_graph_crossings_L1_G (k : Nat) (a0 : (Option ((Int × (Int × ((List Int) × Unit))) × ((Int × (Int × Unit)) × ((List Int) × ((List (List Int)) × Unit)))))) (a1 : (List Int)) (x23 : (Int × Int)) (rec24 : (Int × Int) → Option Int) (rec32 : (Int × Int) → Option Int) (x31 : (Int × Int)) : Option Int :=
  if (decide (x31.2 < x23.2)) = true then
    if (inb (IntKind.i64.wrap (x23.2 - (1 : Int))) a1.length) = true then
    if (inb x23.2 a1.length) = true then
    if (inb (IntKind.i64.wrap (x31.2 - (1 : Int))) a1.length) = true then
    if (inb x31.2 a1.length) = true then
    (go_impl_graph_cross k a0 (a1.getD (IntKind.i64.wrap (x23.2 - (1 : Int))).toNat (0 : Int)) (a1.getD x23.2.toNat (0 : Int)) (a1.getD (IntKind.i64.wrap (x31.2 - (1 : Int))).toNat (0 : Int)) (a1.getD x31.2.toNat (0 : Int))).bind fun r33 =>
    if r33 = true then
      rec32 ((IntKind.i64.wrap (x31.1 + (1 : Int))), (IntKind.i64.wrap (x31.2 + (1 : Int))))
    else
      rec32 (x31.1, (IntKind.i64.wrap (x31.2 + (1 : Int))))
    else none
    else none
    else none
    else none
  else
    rec24 (x31.1, (IntKind.i64.wrap (x23.2 + (1 : Int))))
def go_impl_graph_crossings_L1 (k : Nat) (a0 : (Option ((Int × (Int × ((List Int) × Unit))) × ((Int × (Int × Unit)) × ((List Int) × ((List (List Int)) × Unit)))))) (a1 : (List Int)) (rec24 : (Int × Int) → Option Int) (x23 : (Int × Int)) : (Int × Int) → Option Int :=
  iter k fun rec32 x31 => go_impl_graph_crossings_L1_G k a0 a1 x23 rec24 rec32 x31
theorem go_impl_graph_crossings_L1_t (k : Nat) (a0 : (Option ((Int × (Int × ((List Int) × Unit))) × ((Int × (Int × Unit)) × ((List Int) × ((List (List Int)) × Unit)))))) (a1 : (List Int)) (s0 : St → Option Int) (x23 : (Int × Int)) (x : (Int × Int)) :
    iter k (loopAt (go_impl_graph_crossings_C k) (bodyOf Go.Proofs.Try.f56) [1, 1, 0, 1, 0, 0, 1, 0, 0, 1, 0] [s0] (finPure (go_impl_graph_crossings_C k) Go.Proofs.Try.f56.results.toList false (.val I))) (go_impl_graph_crossings_L1_E a0 a1 x23 x) = go_impl_graph_crossings_L1 k a0 a1 (fun y => s0 (go_impl_graph_crossings_L0_E a0 a1 y)) x23 x := by
  refine iter_tie (G := fun rec x => go_impl_graph_crossings_L1_G k a0 a1 x23 (fun y => s0 (go_impl_graph_crossings_L0_E a0 a1 y)) rec x) (go_impl_graph_crossings_L1_E a0 a1 x23) (fun rec x => ?_) k x
  have h : loopAt (go_impl_graph_crossings_C k) (bodyOf Go.Proofs.Try.f56) [1, 1, 0, 1, 0, 0, 1, 0, 0, 1, 0] [s0] (finPure (go_impl_graph_crossings_C k) Go.Proofs.Try.f56.results.toList false (.val I)) rec (go_impl_graph_crossings_L1_E a0 a1 x23 x) = go_impl_graph_crossings_L1_G k a0 a1 x23 (fun y => s0 (go_impl_graph_crossings_L0_E a0 a1 y)) (fun y => rec (go_impl_graph_crossings_L1_E a0 a1 x23 y)) x := by kernel_rfl
  rw [h]
def go_impl_graph_crossings_L0_G (k : Nat) (a0 : (Option ((Int × (Int × ((List Int) × Unit))) × ((Int × (Int × Unit)) × ((List Int) × ((List (List Int)) × Unit)))))) (a1 : (List Int)) (l_1 : (Int × Int) → (Int × Int) → Option Int) (rec24 : (Int × Int) → Option Int) (x23 : (Int × Int)) : Option Int :=
  if (decide (x23.2 < (a1.length : Int))) = true then
    l_1 x23 (x23.1, (1 : Int))
  else
    some x23.1
def go_impl_graph_crossings_L0 (k : Nat) (a0 : (Option ((Int × (Int × ((List Int) × Unit))) × ((Int × (Int × Unit)) × ((List Int) × ((List (List Int)) × Unit)))))) (a1 : (List Int)) : (Int × Int) → Option Int :=
  iter k fun rec24 x23 => go_impl_graph_crossings_L0_G k a0 a1 (fun c0 y => go_impl_graph_crossings_L1 k a0 a1 rec24 c0 y) rec24 x23
theorem go_impl_graph_crossings_L0_t (k : Nat) (a0 : (Option ((Int × (Int × ((List Int) × Unit))) × ((Int × (Int × Unit)) × ((List Int) × ((List (List Int)) × Unit)))))) (a1 : (List Int)) (x : (Int × Int)) :
    iter k (loopAt (go_impl_graph_crossings_C k) (bodyOf Go.Proofs.Try.f56) [1, 1, 0, 1, 0] [] (finPure (go_impl_graph_crossings_C k) Go.Proofs.Try.f56.results.toList false (.val I))) (go_impl_graph_crossings_L0_E a0 a1 x) = go_impl_graph_crossings_L0 k a0 a1 x := by
  refine iter_tie (G := fun rec x => go_impl_graph_crossings_L0_G k a0 a1 (fun c0 y => go_impl_graph_crossings_L1 k a0 a1 rec c0 y) rec x) (go_impl_graph_crossings_L0_E a0 a1) (fun rec x => ?_) k x
  have h : loopAt (go_impl_graph_crossings_C k) (bodyOf Go.Proofs.Try.f56) [1, 1, 0, 1, 0] [] (finPure (go_impl_graph_crossings_C k) Go.Proofs.Try.f56.results.toList false (.val I)) rec (go_impl_graph_crossings_L0_E a0 a1 x) = go_impl_graph_crossings_L0_G k a0 a1 (fun c0 y => iter k (loopAt (go_impl_graph_crossings_C k) (bodyOf Go.Proofs.Try.f56) [1, 1, 0, 1, 0, 0, 1, 0, 0, 1, 0] [rec] (finPure (go_impl_graph_crossings_C k) Go.Proofs.Try.f56.results.toList false (.val I))) (go_impl_graph_crossings_L1_E a0 a1 c0 y)) (fun y => rec (go_impl_graph_crossings_L0_E a0 a1 y)) x := by kernel_rfl
  have h0 : (fun c0 y => iter k (loopAt (go_impl_graph_crossings_C k) (bodyOf Go.Proofs.Try.f56) [1, 1, 0, 1, 0, 0, 1, 0, 0, 1, 0] [rec] (finPure (go_impl_graph_crossings_C k) Go.Proofs.Try.f56.results.toList false (.val I))) (go_impl_graph_crossings_L1_E a0 a1 c0 y)) = (fun c0 y => go_impl_graph_crossings_L1 k a0 a1 (fun y => rec (go_impl_graph_crossings_L0_E a0 a1 y)) c0 y) := by
    funext c0 y
    exact go_impl_graph_crossings_L1_t k a0 a1 rec c0 y
  rw [h, h0]
def go_impl_graph_crossings_T (k : Nat) (a0 : (Option ((Int × (Int × ((List Int) × Unit))) × ((Int × (Int × Unit)) × ((List Int) × ((List (List Int)) × Unit)))))) (a1 : (List Int)) (l_0 : (Int × Int) → Option Int) : Option Int :=
  l_0 ((0 : Int), (1 : Int))
def go_impl_graph_crossings (k : Nat) (a0 : (Option ((Int × (Int × ((List Int) × Unit))) × ((Int × (Int × Unit)) × ((List Int) × ((List (List Int)) × Unit)))))) (a1 : (List Int)) : Option Int :=
  go_impl_graph_crossings_T k a0 a1 (fun y => go_impl_graph_crossings_L0 k a0 a1 y)
theorem go_impl_graph_crossings_t (k : Nat) (a0 : (Option ((Int × (Int × ((List Int) × Unit))) × ((Int × (Int × Unit)) × ((List Int) × ((List (List Int)) × Unit)))))) (a1 : (List Int)) : runPure (go_impl_graph_crossings_C k) (bodyOf Go.Proofs.Try.f56) Go.Proofs.Try.f56.results.toList false (.pr (.val (.pt (.pair (.pair I (.pair I (.pair (.sl I) .unit))) (.pair (.pair I (.pair I .unit)) (.pair (.sl I) (.pair (.sl (.sl I)) .unit)))))) (.pr (.val (.sl I)) .un)) (.val I) (a0, a1, ()) = go_impl_graph_crossings k a0 a1 := by
  have h : runPure (go_impl_graph_crossings_C k) (bodyOf Go.Proofs.Try.f56) Go.Proofs.Try.f56.results.toList false (.pr (.val (.pt (.pair (.pair I (.pair I (.pair (.sl I) .unit))) (.pair (.pair I (.pair I .unit)) (.pair (.sl I) (.pair (.sl (.sl I)) .unit)))))) (.pr (.val (.sl I)) .un)) (.val I) (a0, a1, ()) = go_impl_graph_crossings_T k a0 a1 (fun y => iter k (loopAt (go_impl_graph_crossings_C k) (bodyOf Go.Proofs.Try.f56) [1, 1, 0, 1, 0] [] (finPure (go_impl_graph_crossings_C k) Go.Proofs.Try.f56.results.toList false (.val I))) (go_impl_graph_crossings_L0_E a0 a1 y)) := by kernel_rfl
  have h0 : (fun y => iter k (loopAt (go_impl_graph_crossings_C k) (bodyOf Go.Proofs.Try.f56) [1, 1, 0, 1, 0] [] (finPure (go_impl_graph_crossings_C k) Go.Proofs.Try.f56.results.toList false (.val I))) (go_impl_graph_crossings_L0_E a0 a1 y)) = (fun y => go_impl_graph_crossings_L0 k a0 a1 y) := by
    funext y
    exact go_impl_graph_crossings_L0_t k a0 a1 y
  rw [h, h0]
  rfl
def go_impl_graph_crossings_S (k : Nat) : Spec := ⟨(.pr (.val (.pt (.pair (.pair I (.pair I (.pair (.sl I) .unit))) (.pair (.pair I (.pair I .unit)) (.pair (.sl I) (.pair (.sl (.sl I)) .unit)))))) (.pr (.val (.sl I)) .un)), (.val I), false, .inl fun x => go_impl_graph_crossings k x.1 x.2.1⟩
theorem go_impl_graph_crossings_F (k : Nat) : Fits Go.Proofs.Try.prog (go_impl_graph_crossings_C k) 56 Go.Proofs.Try.f56 (bodyOf Go.Proofs.Try.f56) (.pr (.val (.pt (.pair (.pair I (.pair I (.pair (.sl I) .unit))) (.pair (.pair I (.pair I .unit)) (.pair (.sl I) (.pair (.sl (.sl I)) .unit)))))) (.pr (.val (.sl I)) .un)) (.val I) false :=
  ⟨th0, mixed0, by kernel_rfl, Go.Proofs.Try.func56, rfl, by kernel_rfl, rfl, rfl, rfl, rfl, rfl, rfl⟩
theorem go_impl_graph_crossings_M (k : Nat) : Meets Go.Proofs.Try.prog 56 (go_impl_graph_crossings_S k) :=
  meets_pure (go_impl_graph_crossings_F k) (sigs_all (l := [(77, go_impl_graph_cross_S k)]) rfl ⟨go_impl_graph_cross_M k, trivial⟩) rfl fun x => go_impl_graph_crossings_t k x.1 x.2.1

/-! ### impl.IsUncrossed -/
def go_impl_IsUncrossed_C (k : Nat) : Ctx := { th := TH, se := SE, sg := [(55, go_impl_walkGraph_S k), (56, go_impl_graph_crossings_S k)], mu := [], an := [], dr := [], pre := [], d2 := [], m := 0, fx := [], n := 23, k := k }
def go_impl_IsUncrossed (k : Nat) (a0 : (Int × (Int × ((List Int) × Unit)))) (a1 : (Int × (Int × Unit))) (a2 : (List Int)) : Option (Bool × (Bool × Unit)) :=
  (go_impl_walkGraph k a0 a1 a2).bind fun r1 =>
  if (!r1.2.1) = true then
    some (false, (false, ()))
  else
    (go_impl_graph_crossings k r1.1 a2).bind fun r2 =>
    some ((decide (r2 = (0 : Int))), (true, ()))
theorem go_impl_IsUncrossed_t (k : Nat) (a0 : (Int × (Int × ((List Int) × Unit)))) (a1 : (Int × (Int × Unit))) (a2 : (List Int)) : runPure (go_impl_IsUncrossed_C k) (bodyOf Go.Proofs.Try.f20) Go.Proofs.Try.f20.results.toList true (.pr (.val (.pair I (.pair I (.pair (.sl I) .unit)))) (.pr (.val (.pair I (.pair I .unit))) (.pr (.val (.sl I)) .un))) (.pr (.val .bool) (.pr (.val .bool) .un)) (a0, a1, a2, ()) = go_impl_IsUncrossed k a0 a1 a2 := by kernel_rfl
def go_impl_IsUncrossed_S (k : Nat) : Spec := ⟨(.pr (.val (.pair I (.pair I (.pair (.sl I) .unit)))) (.pr (.val (.pair I (.pair I .unit))) (.pr (.val (.sl I)) .un))), (.pr (.val .bool) (.pr (.val .bool) .un)), true, .inl fun x => go_impl_IsUncrossed k x.1 x.2.1 x.2.2.1⟩
theorem go_impl_IsUncrossed_F (k : Nat) : Fits Go.Proofs.Try.prog (go_impl_IsUncrossed_C k) 20 Go.Proofs.Try.f20 (bodyOf Go.Proofs.Try.f20) (.pr (.val (.pair I (.pair I (.pair (.sl I) .unit)))) (.pr (.val (.pair I (.pair I .unit))) (.pr (.val (.sl I)) .un))) (.pr (.val .bool) (.pr (.val .bool) .un)) true :=
  ⟨th0, mixed0, by kernel_rfl, Go.Proofs.Try.func20, rfl, by kernel_rfl, rfl, rfl, rfl, rfl, rfl, rfl⟩
theorem go_impl_IsUncrossed_M (k : Nat) : Meets Go.Proofs.Try.prog 20 (go_impl_IsUncrossed_S k) :=
  meets_pure (go_impl_IsUncrossed_F k) (sigs_all (l := [(55, go_impl_walkGraph_S k), (56, go_impl_graph_crossings_S k)]) rfl ⟨go_impl_walkGraph_M k, ⟨go_impl_graph_crossings_M k, trivial⟩⟩) rfl fun x => go_impl_IsUncrossed_t k x.1 x.2.1 x.2.2.1

/-! ### laws.FnExactIsUncrossed -/
def go_laws_FnExactIsUncrossed_C (k : Nat) : Ctx := { th := TH, se := SE, sg := [(15, go_laws_szBoard_S k), (17, go_laws_toBoard_S k), (18, go_laws_toLeaper_S k), (19, go_laws_toIntS_S k), (16, go_spec_IsUncrossed_S k), (20, go_impl_IsUncrossed_S k), (21, go_laws_eqBoard_S k), (22, go_laws_eqIntS_S k)], mu := [], an := [], dr := [(7, 11), (10, 9), (13, 3)], pre := [], d2 := [], m := 0, fx := [], n := 62, k := k }
def go_laws_FnExactIsUncrossed (k : Nat) (a0 : (Int × (Int × ((List Int) × Unit)))) (a1 : (Int × (Int × Unit))) (a2 : (List Int)) : Option Bool :=
  if (decide ((1048576 : Int) < (a2.length : Int))) = true then
    some true
  else
    (go_laws_szBoard k a0 (1048576 : Int)).bind fun r1 =>
    if (decide (r1 < (0 : Int))) = true then
      some true
    else
      (go_laws_toBoard k a0).bind fun r2 =>
      (go_laws_toLeaper k a1).bind fun r3 =>
      (go_laws_toIntS k a2).bind fun r4 =>
      (go_spec_IsUncrossed k (r2.1, (r2.2.1, (r2.2.2.1, ()))) r3 r4).bind fun r5 =>
      (go_laws_toBoard k a0).bind fun r6 =>
      (go_laws_toIntS k a2).bind fun r7 =>
      (go_laws_toLeaper k a1).bind fun r8 =>
      (go_impl_IsUncrossed k (r6.1, (r6.2.1, (r6.2.2.1, ()))) r8 r7).bind fun r9 =>
      if ((r9.1 != r5.1) || (r9.2.1 != r5.2.1)) = true then
        some false
      else
        (go_laws_toBoard k a0).bind fun r10 =>
        (go_laws_eqBoard k (r6.1, (r6.2.1, (r6.2.2.1, ()))) (r10.1, (r10.2.1, (r10.2.2.1, ())))).bind fun r11 =>
        if (!r11) = true then
          some false
        else
          (go_laws_toIntS k a2).bind fun r12 =>
          (go_laws_eqIntS k r7 r12).bind fun r13 =>
          if (!r13) = true then
            some false
          else
            some true
theorem go_laws_FnExactIsUncrossed_t (k : Nat) (a0 : (Int × (Int × ((List Int) × Unit)))) (a1 : (Int × (Int × Unit))) (a2 : (List Int)) : runPure (go_laws_FnExactIsUncrossed_C k) (bodyOf Go.Proofs.Try.f3) Go.Proofs.Try.f3.results.toList false (.pr (.val (.pair I (.pair I (.pair (.sl I) .unit)))) (.pr (.val (.pair I (.pair I .unit))) (.pr (.val (.sl I)) .un))) (.val .bool) (a0, a1, a2, ()) = go_laws_FnExactIsUncrossed k a0 a1 a2 := by kernel_rfl
def go_laws_FnExactIsUncrossed_S (k : Nat) : Spec := ⟨(.pr (.val (.pair I (.pair I (.pair (.sl I) .unit)))) (.pr (.val (.pair I (.pair I .unit))) (.pr (.val (.sl I)) .un))), (.val .bool), false, .inl fun x => go_laws_FnExactIsUncrossed k x.1 x.2.1 x.2.2.1⟩
theorem go_laws_FnExactIsUncrossed_F (k : Nat) : Fits Go.Proofs.Try.prog (go_laws_FnExactIsUncrossed_C k) 3 Go.Proofs.Try.f3 (bodyOf Go.Proofs.Try.f3) (.pr (.val (.pair I (.pair I (.pair (.sl I) .unit)))) (.pr (.val (.pair I (.pair I .unit))) (.pr (.val (.sl I)) .un))) (.val .bool) false :=
  ⟨th0, mixed0, by kernel_rfl, Go.Proofs.Try.func3, rfl, by kernel_rfl, rfl, rfl, rfl, rfl, rfl, rfl⟩
theorem go_laws_FnExactIsUncrossed_M (k : Nat) : Meets Go.Proofs.Try.prog 3 (go_laws_FnExactIsUncrossed_S k) :=
  meets_pure (go_laws_FnExactIsUncrossed_F k) (sigs_all (l := [(15, go_laws_szBoard_S k), (17, go_laws_toBoard_S k), (18, go_laws_toLeaper_S k), (19, go_laws_toIntS_S k), (16, go_spec_IsUncrossed_S k), (20, go_impl_IsUncrossed_S k), (21, go_laws_eqBoard_S k), (22, go_laws_eqIntS_S k)]) rfl ⟨go_laws_szBoard_M k, ⟨go_laws_toBoard_M k, ⟨go_laws_toLeaper_M k, ⟨go_laws_toIntS_M k, ⟨go_spec_IsUncrossed_M k, ⟨go_impl_IsUncrossed_M k, ⟨go_laws_eqBoard_M k, ⟨go_laws_eqIntS_M k, trivial⟩⟩⟩⟩⟩⟩⟩⟩) rfl fun x => go_laws_FnExactIsUncrossed_t k x.1 x.2.1 x.2.2.1

/-! ### spec.crRing -/
def go_spec_crRing_C (k : Nat) : Ctx := { th := TH, se := SE, sg := [(65, go_spec_l1In_S k), (53, go_spec_toWalk_S k), (108, go_spec_boIs_S k), (59, go_spec_l1Own_S k), (54, go_spec_crCount_S k)], mu := [35], an := [], dr := [(1, 23), (3, 8)], pre := [], d2 := [], m := 0, fx := [], n := 43, k := k }
def go_spec_crRing (k : Nat) (a0 : (Int × (Int × ((List Int) × Unit)))) (a1 : (Int × (Int × Unit))) (a2 : (List Int)) : Option Bool :=
  (go_spec_l1In k (a2.length : Int) (3 : Int) (16 : Int)).bind fun r1 =>
  (if (!(!r1)) = true then go_spec_toWalk k a0 a1 a2 else some false).bind fun r2 =>
  if (!(!((!r1) || (!r2))) || (inb (IntKind.i64.wrap ((a2.length : Int) - (1 : Int))) a2.length)) = true then
  if (!(!((!r1) || (!r2))) || (inb (0 : Int) a2.length)) = true then
  (if (!((!r1) || (!r2))) = true then go_spec_boIs k a0 a1 (a2.getD (IntKind.i64.wrap ((a2.length : Int) - (1 : Int))).toNat (0 : Int)) (a2.getD (0 : Int).toNat (0 : Int)) else some false).bind fun r3 =>
  if (((!r1) || (!r2)) || (!r3)) = true then
    some false
  else
    (go_spec_l1Own k a2).bind fun r4 =>
    if (inb (0 : Int) a2.length) = true then
    if (decide (r4.length + [(a2.getD (0 : Int).toNat (0 : Int))].length ≤ LIM)) = true then
    (go_spec_crCount k a0 (r4 ++ [(a2.getD (0 : Int).toNat (0 : Int))])).bind fun r5 =>
    some (decide (r5 = (0 : Int)))
    else none
    else none
  else none
  else none
theorem go_spec_crRing_t (k : Nat) (a0 : (Int × (Int × ((List Int) × Unit)))) (a1 : (Int × (Int × Unit))) (a2 : (List Int)) : runPure (go_spec_crRing_C k) (bodyOf Go.Proofs.Try.f69) Go.Proofs.Try.f69.results.toList false (.pr (.val (.pair I (.pair I (.pair (.sl I) .unit)))) (.pr (.val (.pair I (.pair I .unit))) (.pr (.val (.sl I)) .un))) (.val .bool) (a0, a1, a2, ()) = go_spec_crRing k a0 a1 a2 := by kernel_rfl
def go_spec_crRing_S (k : Nat) : Spec := ⟨(.pr (.val (.pair I (.pair I (.pair (.sl I) .unit)))) (.pr (.val (.pair I (.pair I .unit))) (.pr (.val (.sl I)) .un))), (.val .bool), false, .inl fun x => go_spec_crRing k x.1 x.2.1 x.2.2.1⟩
theorem go_spec_crRing_F (k : Nat) : Fits Go.Proofs.Try.prog (go_spec_crRing_C k) 69 Go.Proofs.Try.f69 (bodyOf Go.Proofs.Try.f69) (.pr (.val (.pair I (.pair I (.pair (.sl I) .unit)))) (.pr (.val (.pair I (.pair I .unit))) (.pr (.val (.sl I)) .un))) (.val .bool) false :=
  ⟨th0, mixed0, by kernel_rfl, Go.Proofs.Try.func69, rfl, by kernel_rfl, rfl, rfl, rfl, rfl, rfl, rfl⟩
theorem go_spec_crRing_M (k : Nat) : Meets Go.Proofs.Try.prog 69 (go_spec_crRing_S k) :=
  meets_pure (go_spec_crRing_F k) (sigs_all (l := [(65, go_spec_l1In_S k), (53, go_spec_toWalk_S k), (108, go_spec_boIs_S k), (59, go_spec_l1Own_S k), (54, go_spec_crCount_S k)]) rfl ⟨go_spec_l1In_M k, ⟨go_spec_toWalk_M k, ⟨go_spec_boIs_M k, ⟨go_spec_l1Own_M k, ⟨go_spec_crCount_M k, trivial⟩⟩⟩⟩⟩) rfl fun x => go_spec_crRing_t k x.1 x.2.1 x.2.2.1

/-! ### spec.IsRing -/
def go_spec_IsRing_C (k : Nat) : Ctx := { th := TH, se := SE, sg := [(52, go_spec_boTwo_S k), (69, go_spec_crRing_S k)], mu := [], an := [], dr := [], pre := [], d2 := [], m := 0, fx := [], n := 16, k := k }
def go_spec_IsRing (k : Nat) (a0 : (Int × (Int × ((List Int) × Unit)))) (a1 : (Int × (Int × Unit))) (a2 : (List Int)) : Option (Bool × (Bool × Unit)) :=
  (go_spec_boTwo k a0 a1).bind fun r1 =>
  if (!r1) = true then
    some (false, (false, ()))
  else
    (go_spec_crRing k a0 a1 a2).bind fun r2 =>
    some (r2, (true, ()))
theorem go_spec_IsRing_t (k : Nat) (a0 : (Int × (Int × ((List Int) × Unit)))) (a1 : (Int × (Int × Unit))) (a2 : (List Int)) : runPure (go_spec_IsRing_C k) (bodyOf Go.Proofs.Try.f30) Go.Proofs.Try.f30.results.toList true (.pr (.val (.pair I (.pair I (.pair (.sl I) .unit)))) (.pr (.val (.pair I (.pair I .unit))) (.pr (.val (.sl I)) .un))) (.pr (.val .bool) (.pr (.val .bool) .un)) (a0, a1, a2, ()) = go_spec_IsRing k a0 a1 a2 := by kernel_rfl
def go_spec_IsRing_S (k : Nat) : Spec := ⟨(.pr (.val (.pair I (.pair I (.pair (.sl I) .unit)))) (.pr (.val (.pair I (.pair I .unit))) (.pr (.val (.sl I)) .un))), (.pr (.val .bool) (.pr (.val .bool) .un)), true, .inl fun x => go_spec_IsRing k x.1 x.2.1 x.2.2.1⟩
theorem go_spec_IsRing_F (k : Nat) : Fits Go.Proofs.Try.prog (go_spec_IsRing_C k) 30 Go.Proofs.Try.f30 (bodyOf Go.Proofs.Try.f30) (.pr (.val (.pair I (.pair I (.pair (.sl I) .unit)))) (.pr (.val (.pair I (.pair I .unit))) (.pr (.val (.sl I)) .un))) (.pr (.val .bool) (.pr (.val .bool) .un)) true :=
  ⟨th0, mixed0, by kernel_rfl, Go.Proofs.Try.func30, rfl, by kernel_rfl, rfl, rfl, rfl, rfl, rfl, rfl⟩
theorem go_spec_IsRing_M (k : Nat) : Meets Go.Proofs.Try.prog 30 (go_spec_IsRing_S k) :=
  meets_pure (go_spec_IsRing_F k) (sigs_all (l := [(52, go_spec_boTwo_S k), (69, go_spec_crRing_S k)]) rfl ⟨go_spec_boTwo_M k, ⟨go_spec_crRing_M k, trivial⟩⟩) rfl fun x => go_spec_IsRing_t k x.1 x.2.1 x.2.2.1

/-! ### (*impl.graph).rings -/
def go_impl_graph_rings_C (k : Nat) : Ctx := { th := TH, se := SE, sg := [(61, go_impl_graph_closes_S k), (77, go_impl_graph_cross_S k)], mu := [], an := [(5, [(0, false), (1, false), (5, false), (6, false)])], dr := [(7, 14)], pre := [], d2 := [], m := 0, fx := [], n := 38, k := k }
def go_impl_graph_rings_L0_E (a0 : (Option ((Int × (Int × ((List Int) × Unit))) × ((Int × (Int × Unit)) × ((List Int) × ((List (List Int)) × Unit)))))) (a1 : (List Int)) (x5 : (Int)) : St :=
  ⟨[(0, .one (.val (.pt (.pair (.pair I (.pair I (.pair (.sl I) .unit))) (.pair (.pair I (.pair I .unit)) (.pair (.sl I) (.pair (.sl (.sl I)) .unit))))) a0), []), (1, .one (.val (.sl I) a1), []), (5, .one (.val I (a1.getD (IntKind.i64.wrap ((a1.length : Int) - (1 : Int))).toNat (0 : Int))), []), (6, .one (.val I x5), [])], [], []⟩
def go_impl_graph_rings_L0_G (k : Nat) (a0 : (Option ((Int × (Int × ((List Int) × Unit))) × ((Int × (Int × Unit)) × ((List Int) × ((List (List Int)) × Unit)))))) (a1 : (List Int)) (rec6 : (Int) → Option Bool) (x5 : (Int)) : Option Bool :=
  if (decide (x5 < (a1.length : Int))) = true then
    if (inb (IntKind.i64.wrap (x5 - (1 : Int))) a1.length) = true then
    if (inb x5 a1.length) = true then
    if (inb (0 : Int) a1.length) = true then
    (go_impl_graph_cross k a0 (a1.getD (IntKind.i64.wrap (x5 - (1 : Int))).toNat (0 : Int)) (a1.getD x5.toNat (0 : Int)) (a1.getD (IntKind.i64.wrap ((a1.length : Int) - (1 : Int))).toNat (0 : Int)) (a1.getD (0 : Int).toNat (0 : Int))).bind fun r7 =>
    if r7 = true then
      some false
    else
      rec6 (IntKind.i64.wrap (x5 + (1 : Int)))
    else none
    else none
    else none
  else
    some true
def go_impl_graph_rings_L0 (k : Nat) (a0 : (Option ((Int × (Int × ((List Int) × Unit))) × ((Int × (Int × Unit)) × ((List Int) × ((List (List Int)) × Unit)))))) (a1 : (List Int)) : (Int) → Option Bool :=
  iter k fun rec6 x5 => go_impl_graph_rings_L0_G k a0 a1 rec6 x5
theorem go_impl_graph_rings_L0_t (k : Nat) (a0 : (Option ((Int × (Int × ((List Int) × Unit))) × ((Int × (Int × Unit)) × ((List Int) × ((List (List Int)) × Unit)))))) (a1 : (List Int)) (x : (Int)) :
    iter k (loopAt (go_impl_graph_rings_C k) (bodyOf Go.Proofs.Try.f120) [1, 1, 1, 0, 1, 0] [] (finPure (go_impl_graph_rings_C k) Go.Proofs.Try.f120.results.toList false (.val .bool))) (go_impl_graph_rings_L0_E a0 a1 x) = go_impl_graph_rings_L0 k a0 a1 x := by
  refine iter_tie (G := fun rec x => go_impl_graph_rings_L0_G k a0 a1 rec x) (go_impl_graph_rings_L0_E a0 a1) (fun rec x => ?_) k x
  have h : loopAt (go_impl_graph_rings_C k) (bodyOf Go.Proofs.Try.f120) [1, 1, 1, 0, 1, 0] [] (finPure (go_impl_graph_rings_C k) Go.Proofs.Try.f120.results.toList false (.val .bool)) rec (go_impl_graph_rings_L0_E a0 a1 x) = go_impl_graph_rings_L0_G k a0 a1 (fun y => rec (go_impl_graph_rings_L0_E a0 a1 y)) x := by kernel_rfl
  rw [h]
def go_impl_graph_rings_T (k : Nat) (a0 : (Option ((Int × (Int × ((List Int) × Unit))) × ((Int × (Int × Unit)) × ((List Int) × ((List (List Int)) × Unit)))))) (a1 : (List Int)) (l_0 : (Int) → Option Bool) : Option Bool :=
  (go_impl_graph_closes k a0 a1).bind fun r1 =>
  if (!r1) = true then
    some false
  else
    if (inb (IntKind.i64.wrap ((a1.length : Int) - (1 : Int))) a1.length) = true then
    l_0 (1 : Int)
    else none
def go_impl_graph_rings (k : Nat) (a0 : (Option ((Int × (Int × ((List Int) × Unit))) × ((Int × (Int × Unit)) × ((List Int) × ((List (List Int)) × Unit)))))) (a1 : (List Int)) : Option Bool :=
  go_impl_graph_rings_T k a0 a1 (fun y => go_impl_graph_rings_L0 k a0 a1 y)
theorem go_impl_graph_rings_t (k : Nat) (a0 : (Option ((Int × (Int × ((List Int) × Unit))) × ((Int × (Int × Unit)) × ((List Int) × ((List (List Int)) × Unit)))))) (a1 : (List Int)) : runPure (go_impl_graph_rings_C k) (bodyOf Go.Proofs.Try.f120) Go.Proofs.Try.f120.results.toList false (.pr (.val (.pt (.pair (.pair I (.pair I (.pair (.sl I) .unit))) (.pair (.pair I (.pair I .unit)) (.pair (.sl I) (.pair (.sl (.sl I)) .unit)))))) (.pr (.val (.sl I)) .un)) (.val .bool) (a0, a1, ()) = go_impl_graph_rings k a0 a1 := by
  have h : runPure (go_impl_graph_rings_C k) (bodyOf Go.Proofs.Try.f120) Go.Proofs.Try.f120.results.toList false (.pr (.val (.pt (.pair (.pair I (.pair I (.pair (.sl I) .unit))) (.pair (.pair I (.pair I .unit)) (.pair (.sl I) (.pair (.sl (.sl I)) .unit)))))) (.pr (.val (.sl I)) .un)) (.val .bool) (a0, a1, ()) = go_impl_graph_rings_T k a0 a1 (fun y => iter k (loopAt (go_impl_graph_rings_C k) (bodyOf Go.Proofs.Try.f120) [1, 1, 1, 0, 1, 0] [] (finPure (go_impl_graph_rings_C k) Go.Proofs.Try.f120.results.toList false (.val .bool))) (go_impl_graph_rings_L0_E a0 a1 y)) := by kernel_rfl
  have h0 : (fun y => iter k (loopAt (go_impl_graph_rings_C k) (bodyOf Go.Proofs.Try.f120) [1, 1, 1, 0, 1, 0] [] (finPure (go_impl_graph_rings_C k) Go.Proofs.Try.f120.results.toList false (.val .bool))) (go_impl_graph_rings_L0_E a0 a1 y)) = (fun y => go_impl_graph_rings_L0 k a0 a1 y) := by
    funext y
    exact go_impl_graph_rings_L0_t k a0 a1 y
  rw [h, h0]
  rfl
def go_impl_graph_rings_S (k : Nat) : Spec := ⟨(.pr (.val (.pt (.pair (.pair I (.pair I (.pair (.sl I) .unit))) (.pair (.pair I (.pair I .unit)) (.pair (.sl I) (.pair (.sl (.sl I)) .unit)))))) (.pr (.val (.sl I)) .un)), (.val .bool), false, .inl fun x => go_impl_graph_rings k x.1 x.2.1⟩
theorem go_impl_graph_rings_F (k : Nat) : Fits Go.Proofs.Try.prog (go_impl_graph_rings_C k) 120 Go.Proofs.Try.f120 (bodyOf Go.Proofs.Try.f120) (.pr (.val (.pt (.pair (.pair I (.pair I (.pair (.sl I) .unit))) (.pair (.pair I (.pair I .unit)) (.pair (.sl I) (.pair (.sl (.sl I)) .unit)))))) (.pr (.val (.sl I)) .un)) (.val .bool) false :=
  ⟨th0, mixed0, by kernel_rfl, Go.Proofs.Try.func120, rfl, by kernel_rfl, rfl, rfl, rfl, rfl, rfl, rfl⟩
theorem go_impl_graph_rings_M (k : Nat) : Meets Go.Proofs.Try.prog 120 (go_impl_graph_rings_S k) :=
  meets_pure (go_impl_graph_rings_F k) (sigs_all (l := [(61, go_impl_graph_closes_S k), (77, go_impl_graph_cross_S k)]) rfl ⟨go_impl_graph_closes_M k, ⟨go_impl_graph_cross_M k, trivial⟩⟩) rfl fun x => go_impl_graph_rings_t k x.1 x.2.1

/-! ### (*impl.graph).isRing -/
def go_impl_graph_isRing_C (k : Nat) : Ctx := { th := TH, se := SE, sg := [(106, go_impl_graph_isWalk_S k), (56, go_impl_graph_crossings_S k), (120, go_impl_graph_rings_S k)], mu := [], an := [], dr := [], pre := [], d2 := [], m := 0, fx := [], n := 29, k := k }
def go_impl_graph_isRing (k : Nat) (a0 : (Option ((Int × (Int × ((List Int) × Unit))) × ((Int × (Int × Unit)) × ((List Int) × ((List (List Int)) × Unit)))))) (a1 : (List Int)) : Option Bool :=
  (if ((decide ((3 : Int) ≤ (a1.length : Int))) && (decide ((a1.length : Int) ≤ (16 : Int)))) = true then go_impl_graph_isWalk k a0 a1 else some false).bind fun r1 =>
  (if (((decide ((3 : Int) ≤ (a1.length : Int))) && (decide ((a1.length : Int) ≤ (16 : Int)))) && r1) = true then go_impl_graph_crossings k a0 a1 else some (0 : Int)).bind fun r2 =>
  (if ((((decide ((3 : Int) ≤ (a1.length : Int))) && (decide ((a1.length : Int) ≤ (16 : Int)))) && r1) && (decide (r2 = (0 : Int)))) = true then go_impl_graph_rings k a0 a1 else some false).bind fun r3 =>
  some (((((decide ((3 : Int) ≤ (a1.length : Int))) && (decide ((a1.length : Int) ≤ (16 : Int)))) && r1) && (decide (r2 = (0 : Int)))) && r3)
theorem go_impl_graph_isRing_t (k : Nat) (a0 : (Option ((Int × (Int × ((List Int) × Unit))) × ((Int × (Int × Unit)) × ((List Int) × ((List (List Int)) × Unit)))))) (a1 : (List Int)) : runPure (go_impl_graph_isRing_C k) (bodyOf Go.Proofs.Try.f71) Go.Proofs.Try.f71.results.toList false (.pr (.val (.pt (.pair (.pair I (.pair I (.pair (.sl I) .unit))) (.pair (.pair I (.pair I .unit)) (.pair (.sl I) (.pair (.sl (.sl I)) .unit)))))) (.pr (.val (.sl I)) .un)) (.val .bool) (a0, a1, ()) = go_impl_graph_isRing k a0 a1 := by kernel_rfl
def go_impl_graph_isRing_S (k : Nat) : Spec := ⟨(.pr (.val (.pt (.pair (.pair I (.pair I (.pair (.sl I) .unit))) (.pair (.pair I (.pair I .unit)) (.pair (.sl I) (.pair (.sl (.sl I)) .unit)))))) (.pr (.val (.sl I)) .un)), (.val .bool), false, .inl fun x => go_impl_graph_isRing k x.1 x.2.1⟩
theorem go_impl_graph_isRing_F (k : Nat) : Fits Go.Proofs.Try.prog (go_impl_graph_isRing_C k) 71 Go.Proofs.Try.f71 (bodyOf Go.Proofs.Try.f71) (.pr (.val (.pt (.pair (.pair I (.pair I (.pair (.sl I) .unit))) (.pair (.pair I (.pair I .unit)) (.pair (.sl I) (.pair (.sl (.sl I)) .unit)))))) (.pr (.val (.sl I)) .un)) (.val .bool) false :=
  ⟨th0, mixed0, by kernel_rfl, Go.Proofs.Try.func71, rfl, by kernel_rfl, rfl, rfl, rfl, rfl, rfl, rfl⟩
theorem go_impl_graph_isRing_M (k : Nat) : Meets Go.Proofs.Try.prog 71 (go_impl_graph_isRing_S k) :=
  meets_pure (go_impl_graph_isRing_F k) (sigs_all (l := [(106, go_impl_graph_isWalk_S k), (56, go_impl_graph_crossings_S k), (120, go_impl_graph_rings_S k)]) rfl ⟨go_impl_graph_isWalk_M k, ⟨go_impl_graph_crossings_M k, ⟨go_impl_graph_rings_M k, trivial⟩⟩⟩) rfl fun x => go_impl_graph_isRing_t k x.1 x.2.1

/-! ### impl.IsRing -/
def go_impl_IsRing_C (k : Nat) : Ctx := { th := TH, se := SE, sg := [(70, go_impl_graphOf_S k), (71, go_impl_graph_isRing_S k)], mu := [], an := [], dr := [], pre := [], d2 := [], m := 0, fx := [], n := 21, k := k }
def go_impl_IsRing (k : Nat) (a0 : (Int × (Int × ((List Int) × Unit)))) (a1 : (Int × (Int × Unit))) (a2 : (List Int)) : Option (Bool × (Bool × Unit)) :=
  (go_impl_graphOf k a0 a1).bind fun r1 =>
  if (!r1.2.1) = true then
    some (false, (false, ()))
  else
    (go_impl_graph_isRing k r1.1 a2).bind fun r2 =>
    some (r2, (true, ()))
theorem go_impl_IsRing_t (k : Nat) (a0 : (Int × (Int × ((List Int) × Unit)))) (a1 : (Int × (Int × Unit))) (a2 : (List Int)) : runPure (go_impl_IsRing_C k) (bodyOf Go.Proofs.Try.f31) Go.Proofs.Try.f31.results.toList true (.pr (.val (.pair I (.pair I (.pair (.sl I) .unit)))) (.pr (.val (.pair I (.pair I .unit))) (.pr (.val (.sl I)) .un))) (.pr (.val .bool) (.pr (.val .bool) .un)) (a0, a1, a2, ()) = go_impl_IsRing k a0 a1 a2 := by kernel_rfl
def go_impl_IsRing_S (k : Nat) : Spec := ⟨(.pr (.val (.pair I (.pair I (.pair (.sl I) .unit)))) (.pr (.val (.pair I (.pair I .unit))) (.pr (.val (.sl I)) .un))), (.pr (.val .bool) (.pr (.val .bool) .un)), true, .inl fun x => go_impl_IsRing k x.1 x.2.1 x.2.2.1⟩
theorem go_impl_IsRing_F (k : Nat) : Fits Go.Proofs.Try.prog (go_impl_IsRing_C k) 31 Go.Proofs.Try.f31 (bodyOf Go.Proofs.Try.f31) (.pr (.val (.pair I (.pair I (.pair (.sl I) .unit)))) (.pr (.val (.pair I (.pair I .unit))) (.pr (.val (.sl I)) .un))) (.pr (.val .bool) (.pr (.val .bool) .un)) true :=
  ⟨th0, mixed0, by kernel_rfl, Go.Proofs.Try.func31, rfl, by kernel_rfl, rfl, rfl, rfl, rfl, rfl, rfl⟩
theorem go_impl_IsRing_M (k : Nat) : Meets Go.Proofs.Try.prog 31 (go_impl_IsRing_S k) :=
  meets_pure (go_impl_IsRing_F k) (sigs_all (l := [(70, go_impl_graphOf_S k), (71, go_impl_graph_isRing_S k)]) rfl ⟨go_impl_graphOf_M k, ⟨go_impl_graph_isRing_M k, trivial⟩⟩) rfl fun x => go_impl_IsRing_t k x.1 x.2.1 x.2.2.1

/-! ### laws.FnExactIsRing -/
def go_laws_FnExactIsRing_C (k : Nat) : Ctx := { th := TH, se := SE, sg := [(15, go_laws_szBoard_S k), (17, go_laws_toBoard_S k), (18, go_laws_toLeaper_S k), (19, go_laws_toIntS_S k), (30, go_spec_IsRing_S k), (31, go_impl_IsRing_S k), (21, go_laws_eqBoard_S k), (22, go_laws_eqIntS_S k)], mu := [], an := [], dr := [(7, 11), (10, 9), (13, 3)], pre := [], d2 := [], m := 0, fx := [], n := 62, k := k }
def go_laws_FnExactIsRing (k : Nat) (a0 : (Int × (Int × ((List Int) × Unit)))) (a1 : (Int × (Int × Unit))) (a2 : (List Int)) : Option Bool :=
  if (decide ((1048576 : Int) < (a2.length : Int))) = true then
    some true
  else
    (go_laws_szBoard k a0 (1048576 : Int)).bind fun r1 =>
    if (decide (r1 < (0 : Int))) = true then
      some true
    else
      (go_laws_toBoard k a0).bind fun r2 =>
      (go_laws_toLeaper k a1).bind fun r3 =>
      (go_laws_toIntS k a2).bind fun r4 =>
      (go_spec_IsRing k (r2.1, (r2.2.1, (r2.2.2.1, ()))) r3 r4).bind fun r5 =>
      (go_laws_toBoard k a0).bind fun r6 =>
      (go_laws_toIntS k a2).bind fun r7 =>
      (go_laws_toLeaper k a1).bind fun r8 =>
      (go_impl_IsRing k (r6.1, (r6.2.1, (r6.2.2.1, ()))) r8 r7).bind fun r9 =>
      if ((r9.1 != r5.1) || (r9.2.1 != r5.2.1)) = true then
        some false
      else
        (go_laws_toBoard k a0).bind fun r10 =>
        (go_laws_eqBoard k (r6.1, (r6.2.1, (r6.2.2.1, ()))) (r10.1, (r10.2.1, (r10.2.2.1, ())))).bind fun r11 =>
        if (!r11) = true then
          some false
        else
          (go_laws_toIntS k a2).bind fun r12 =>
          (go_laws_eqIntS k r7 r12).bind fun r13 =>
          if (!r13) = true then
            some false
          else
            some true
theorem go_laws_FnExactIsRing_t (k : Nat) (a0 : (Int × (Int × ((List Int) × Unit)))) (a1 : (Int × (Int × Unit))) (a2 : (List Int)) : runPure (go_laws_FnExactIsRing_C k) (bodyOf Go.Proofs.Try.f6) Go.Proofs.Try.f6.results.toList false (.pr (.val (.pair I (.pair I (.pair (.sl I) .unit)))) (.pr (.val (.pair I (.pair I .unit))) (.pr (.val (.sl I)) .un))) (.val .bool) (a0, a1, a2, ()) = go_laws_FnExactIsRing k a0 a1 a2 := by kernel_rfl
def go_laws_FnExactIsRing_S (k : Nat) : Spec := ⟨(.pr (.val (.pair I (.pair I (.pair (.sl I) .unit)))) (.pr (.val (.pair I (.pair I .unit))) (.pr (.val (.sl I)) .un))), (.val .bool), false, .inl fun x => go_laws_FnExactIsRing k x.1 x.2.1 x.2.2.1⟩
theorem go_laws_FnExactIsRing_F (k : Nat) : Fits Go.Proofs.Try.prog (go_laws_FnExactIsRing_C k) 6 Go.Proofs.Try.f6 (bodyOf Go.Proofs.Try.f6) (.pr (.val (.pair I (.pair I (.pair (.sl I) .unit)))) (.pr (.val (.pair I (.pair I .unit))) (.pr (.val (.sl I)) .un))) (.val .bool) false :=
  ⟨th0, mixed0, by kernel_rfl, Go.Proofs.Try.func6, rfl, by kernel_rfl, rfl, rfl, rfl, rfl, rfl, rfl⟩
theorem go_laws_FnExactIsRing_M (k : Nat) : Meets Go.Proofs.Try.prog 6 (go_laws_FnExactIsRing_S k) :=
  meets_pure (go_laws_FnExactIsRing_F k) (sigs_all (l := [(15, go_laws_szBoard_S k), (17, go_laws_toBoard_S k), (18, go_laws_toLeaper_S k), (19, go_laws_toIntS_S k), (30, go_spec_IsRing_S k), (31, go_impl_IsRing_S k), (21, go_laws_eqBoard_S k), (22, go_laws_eqIntS_S k)]) rfl ⟨go_laws_szBoard_M k, ⟨go_laws_toBoard_M k, ⟨go_laws_toLeaper_M k, ⟨go_laws_toIntS_M k, ⟨go_spec_IsRing_M k, ⟨go_impl_IsRing_M k, ⟨go_laws_eqBoard_M k, ⟨go_laws_eqIntS_M k, trivial⟩⟩⟩⟩⟩⟩⟩⟩) rfl fun x => go_laws_FnExactIsRing_t k x.1 x.2.1 x.2.2.1

/-! ### spec.crAsked -/
def go_spec_crAsked_C (k : Nat) : Ctx := { th := TH, se := SE, sg := [(52, go_spec_boTwo_S k), (69, go_spec_crRing_S k)], mu := [], an := [], dr := [], pre := [], d2 := [], m := 0, fx := [], n := 16, k := k }
def go_spec_crAsked (k : Nat) (a0 : (Int × (Int × ((List Int) × Unit)))) (a1 : (Int × (Int × Unit))) (a2 : (List Int)) : Option Bool :=
  (go_spec_boTwo k a0 a1).bind fun r1 =>
  (if r1 = true then go_spec_crRing k a0 a1 a2 else some false).bind fun r2 =>
  some (r1 && r2)
theorem go_spec_crAsked_t (k : Nat) (a0 : (Int × (Int × ((List Int) × Unit)))) (a1 : (Int × (Int × Unit))) (a2 : (List Int)) : runPure (go_spec_crAsked_C k) (bodyOf Go.Proofs.Try.f78) Go.Proofs.Try.f78.results.toList false (.pr (.val (.pair I (.pair I (.pair (.sl I) .unit)))) (.pr (.val (.pair I (.pair I .unit))) (.pr (.val (.sl I)) .un))) (.val .bool) (a0, a1, a2, ()) = go_spec_crAsked k a0 a1 a2 := by kernel_rfl
def go_spec_crAsked_S (k : Nat) : Spec := ⟨(.pr (.val (.pair I (.pair I (.pair (.sl I) .unit)))) (.pr (.val (.pair I (.pair I .unit))) (.pr (.val (.sl I)) .un))), (.val .bool), false, .inl fun x => go_spec_crAsked k x.1 x.2.1 x.2.2.1⟩
theorem go_spec_crAsked_F (k : Nat) : Fits Go.Proofs.Try.prog (go_spec_crAsked_C k) 78 Go.Proofs.Try.f78 (bodyOf Go.Proofs.Try.f78) (.pr (.val (.pair I (.pair I (.pair (.sl I) .unit)))) (.pr (.val (.pair I (.pair I .unit))) (.pr (.val (.sl I)) .un))) (.val .bool) false :=
  ⟨th0, mixed0, by kernel_rfl, Go.Proofs.Try.func78, rfl, by kernel_rfl, rfl, rfl, rfl, rfl, rfl, rfl⟩
theorem go_spec_crAsked_M (k : Nat) : Meets Go.Proofs.Try.prog 78 (go_spec_crAsked_S k) :=
  meets_pure (go_spec_crAsked_F k) (sigs_all (l := [(52, go_spec_boTwo_S k), (69, go_spec_crRing_S k)]) rfl ⟨go_spec_boTwo_M k, ⟨go_spec_crRing_M k, trivial⟩⟩) rfl fun x => go_spec_crAsked_t k x.1 x.2.1 x.2.2.1

/-! ### spec.crCommon -/
def go_spec_crCommon_C (k : Nat) : Ctx := { th := TH, se := SE, sg := [], mu := [], an := [(1, [(0, false), (1, false)])], dr := [(2, 5)], pre := [], d2 := [], m := 0, fx := [], n := 12, k := k }
def go_spec_crCommon_L0_E (a0 : Int) (a1 : Int) (x5 : (Int × Int)) : St :=
  ⟨[(0, .one (.val I x5.1), []), (1, .one (.val I x5.2), [])], [], []⟩
def go_spec_crCommon_L0_G (k : Nat) (a0 : Int) (a1 : Int) (rec6 : (Int × Int) → Option Int) (x5 : (Int × Int)) : Option Int :=
  if (decide ((0 : Int) < x5.2)) = true then
    if (decide (x5.2 ≠ 0)) = true then
    rec6 (x5.2, (Int.tmod x5.1 x5.2))
    else none
  else
    some x5.1
def go_spec_crCommon_L0 (k : Nat) (a0 : Int) (a1 : Int) : (Int × Int) → Option Int :=
  iter k fun rec6 x5 => go_spec_crCommon_L0_G k a0 a1 rec6 x5
theorem go_spec_crCommon_L0_t (k : Nat) (a0 : Int) (a1 : Int) (x : (Int × Int)) :
    iter k (loopAt (go_spec_crCommon_C k) (bodyOf Go.Proofs.Try.f124) [1, 0, 0] [] (finPure (go_spec_crCommon_C k) Go.Proofs.Try.f124.results.toList false (.val I))) (go_spec_crCommon_L0_E a0 a1 x) = go_spec_crCommon_L0 k a0 a1 x := by
  refine iter_tie (G := fun rec x => go_spec_crCommon_L0_G k a0 a1 rec x) (go_spec_crCommon_L0_E a0 a1) (fun rec x => ?_) k x
  have h : loopAt (go_spec_crCommon_C k) (bodyOf Go.Proofs.Try.f124) [1, 0, 0] [] (finPure (go_spec_crCommon_C k) Go.Proofs.Try.f124.results.toList false (.val I)) rec (go_spec_crCommon_L0_E a0 a1 x) = go_spec_crCommon_L0_G k a0 a1 (fun y => rec (go_spec_crCommon_L0_E a0 a1 y)) x := by kernel_rfl
  rw [h]
def go_spec_crCommon_T (k : Nat) (a0 : Int) (a1 : Int) (l_0 : (Int × Int) → Option Int) : Option Int :=
  l_0 (a0, a1)
def go_spec_crCommon (k : Nat) (a0 : Int) (a1 : Int) : Option Int :=
  go_spec_crCommon_T k a0 a1 (fun y => go_spec_crCommon_L0 k a0 a1 y)
theorem go_spec_crCommon_t (k : Nat) (a0 : Int) (a1 : Int) : runPure (go_spec_crCommon_C k) (bodyOf Go.Proofs.Try.f124) Go.Proofs.Try.f124.results.toList false (.pr (.val I) (.pr (.val I) .un)) (.val I) (a0, a1, ()) = go_spec_crCommon k a0 a1 := by
  have h : runPure (go_spec_crCommon_C k) (bodyOf Go.Proofs.Try.f124) Go.Proofs.Try.f124.results.toList false (.pr (.val I) (.pr (.val I) .un)) (.val I) (a0, a1, ()) = go_spec_crCommon_T k a0 a1 (fun y => iter k (loopAt (go_spec_crCommon_C k) (bodyOf Go.Proofs.Try.f124) [1, 0, 0] [] (finPure (go_spec_crCommon_C k) Go.Proofs.Try.f124.results.toList false (.val I))) (go_spec_crCommon_L0_E a0 a1 y)) := by kernel_rfl
  have h0 : (fun y => iter k (loopAt (go_spec_crCommon_C k) (bodyOf Go.Proofs.Try.f124) [1, 0, 0] [] (finPure (go_spec_crCommon_C k) Go.Proofs.Try.f124.results.toList false (.val I))) (go_spec_crCommon_L0_E a0 a1 y)) = (fun y => go_spec_crCommon_L0 k a0 a1 y) := by
    funext y
    exact go_spec_crCommon_L0_t k a0 a1 y
  rw [h, h0]
  rfl
def go_spec_crCommon_S (k : Nat) : Spec := ⟨(.pr (.val I) (.pr (.val I) .un)), (.val I), false, .inl fun x => go_spec_crCommon k x.1 x.2.1⟩
theorem go_spec_crCommon_F (k : Nat) : Fits Go.Proofs.Try.prog (go_spec_crCommon_C k) 124 Go.Proofs.Try.f124 (bodyOf Go.Proofs.Try.f124) (.pr (.val I) (.pr (.val I) .un)) (.val I) false :=
  ⟨th0, mixed0, by kernel_rfl, Go.Proofs.Try.func124, rfl, by kernel_rfl, rfl, rfl, rfl, rfl, rfl, rfl⟩
theorem go_spec_crCommon_M (k : Nat) : Meets Go.Proofs.Try.prog 124 (go_spec_crCommon_S k) :=
  meets_pure (go_spec_crCommon_F k) (sigs_all (l := []) rfl trivial) rfl fun x => go_spec_crCommon_t k x.1 x.2.1

/-! ### spec.crOnRing -/
def go_spec_crOnRing_C (k : Nat) : Ctx := { th := TH, se := SE, sg := [(124, go_spec_crCommon_S k)], mu := [], an := [], dr := [], pre := [], d2 := [], m := 0, fx := [], n := 13, k := k }
def go_spec_crOnRing (k : Nat) (a0 : (Int × (Int × Unit))) (a1 : (List Int)) : Option Int :=
  (go_spec_crCommon k a0.1 a0.2.1).bind fun r1 =>
  some (IntKind.i64.wrap ((a1.length : Int) * r1))
theorem go_spec_crOnRing_t (k : Nat) (a0 : (Int × (Int × Unit))) (a1 : (List Int)) : runPure (go_spec_crOnRing_C k) (bodyOf Go.Proofs.Try.f79) Go.Proofs.Try.f79.results.toList false (.pr (.val (.pair I (.pair I .unit))) (.pr (.val (.sl I)) .un)) (.val I) (a0, a1, ()) = go_spec_crOnRing k a0 a1 := by kernel_rfl
def go_spec_crOnRing_S (k : Nat) : Spec := ⟨(.pr (.val (.pair I (.pair I .unit))) (.pr (.val (.sl I)) .un)), (.val I), false, .inl fun x => go_spec_crOnRing k x.1 x.2.1⟩
theorem go_spec_crOnRing_F (k : Nat) : Fits Go.Proofs.Try.prog (go_spec_crOnRing_C k) 79 Go.Proofs.Try.f79 (bodyOf Go.Proofs.Try.f79) (.pr (.val (.pair I (.pair I .unit))) (.pr (.val (.sl I)) .un)) (.val I) false :=
  ⟨th0, mixed0, by kernel_rfl, Go.Proofs.Try.func79, rfl, by kernel_rfl, rfl, rfl, rfl, rfl, rfl, rfl⟩
theorem go_spec_crOnRing_M (k : Nat) : Meets Go.Proofs.Try.prog 79 (go_spec_crOnRing_S k) :=
  meets_pure (go_spec_crOnRing_F k) (sigs_all (l := [(124, go_spec_crCommon_S k)]) rfl ⟨go_spec_crCommon_M k, trivial⟩) rfl fun x => go_spec_crOnRing_t k x.1 x.2.1

/-! ### spec.PointsOnRing -/
def go_spec_PointsOnRing_C (k : Nat) : Ctx := { th := TH, se := SE, sg := [(78, go_spec_crAsked_S k), (79, go_spec_crOnRing_S k)], mu := [], an := [], dr := [], pre := [], d2 := [], m := 0, fx := [], n := 16, k := k }
def go_spec_PointsOnRing (k : Nat) (a0 : (Int × (Int × ((List Int) × Unit)))) (a1 : (Int × (Int × Unit))) (a2 : (List Int)) : Option (Int × (Bool × Unit)) :=
  (go_spec_crAsked k a0 a1 a2).bind fun r1 =>
  if (!r1) = true then
    some ((0 : Int), (false, ()))
  else
    (go_spec_crOnRing k a1 a2).bind fun r2 =>
    some (r2, (true, ()))
theorem go_spec_PointsOnRing_t (k : Nat) (a0 : (Int × (Int × ((List Int) × Unit)))) (a1 : (Int × (Int × Unit))) (a2 : (List Int)) : runPure (go_spec_PointsOnRing_C k) (bodyOf Go.Proofs.Try.f37) Go.Proofs.Try.f37.results.toList true (.pr (.val (.pair I (.pair I (.pair (.sl I) .unit)))) (.pr (.val (.pair I (.pair I .unit))) (.pr (.val (.sl I)) .un))) (.pr (.val I) (.pr (.val .bool) .un)) (a0, a1, a2, ()) = go_spec_PointsOnRing k a0 a1 a2 := by kernel_rfl
def go_spec_PointsOnRing_S (k : Nat) : Spec := ⟨(.pr (.val (.pair I (.pair I (.pair (.sl I) .unit)))) (.pr (.val (.pair I (.pair I .unit))) (.pr (.val (.sl I)) .un))), (.pr (.val I) (.pr (.val .bool) .un)), true, .inl fun x => go_spec_PointsOnRing k x.1 x.2.1 x.2.2.1⟩
theorem go_spec_PointsOnRing_F (k : Nat) : Fits Go.Proofs.Try.prog (go_spec_PointsOnRing_C k) 37 Go.Proofs.Try.f37 (bodyOf Go.Proofs.Try.f37) (.pr (.val (.pair I (.pair I (.pair (.sl I) .unit)))) (.pr (.val (.pair I (.pair I .unit))) (.pr (.val (.sl I)) .un))) (.pr (.val I) (.pr (.val .bool) .un)) true :=
  ⟨th0, mixed0, by kernel_rfl, Go.Proofs.Try.func37, rfl, by kernel_rfl, rfl, rfl, rfl, rfl, rfl, rfl⟩
theorem go_spec_PointsOnRing_M (k : Nat) : Meets Go.Proofs.Try.prog 37 (go_spec_PointsOnRing_S k) :=
  meets_pure (go_spec_PointsOnRing_F k) (sigs_all (l := [(78, go_spec_crAsked_S k), (79, go_spec_crOnRing_S k)]) rfl ⟨go_spec_crAsked_M k, ⟨go_spec_crOnRing_M k, trivial⟩⟩) rfl fun x => go_spec_PointsOnRing_t k x.1 x.2.1 x.2.2.1

/-! ### impl.ringGraph -/
def go_impl_ringGraph_C (k : Nat) : Ctx := { th := TH, se := SE, sg := [(70, go_impl_graphOf_S k), (71, go_impl_graph_isRing_S k)], mu := [], an := [], dr := [], pre := [], d2 := [], m := 0, fx := [], n := 25, k := k }
def go_impl_ringGraph (k : Nat) (a0 : (Int × (Int × ((List Int) × Unit)))) (a1 : (Int × (Int × Unit))) (a2 : (List Int)) : Option ((Option ((Int × (Int × ((List Int) × Unit))) × ((Int × (Int × Unit)) × ((List Int) × ((List (List Int)) × Unit))))) × (Bool × Unit)) :=
  (go_impl_graphOf k a0 a1).bind fun r1 =>
  (if (!(!r1.2.1)) = true then go_impl_graph_isRing k r1.1 a2 else some false).bind fun r2 =>
  if ((!r1.2.1) || (!r2)) = true then
    some (none, (false, ()))
  else
    some (r1.1, (true, ()))
theorem go_impl_ringGraph_t (k : Nat) (a0 : (Int × (Int × ((List Int) × Unit)))) (a1 : (Int × (Int × Unit))) (a2 : (List Int)) : runPure (go_impl_ringGraph_C k) (bodyOf Go.Proofs.Try.f80) Go.Proofs.Try.f80.results.toList true (.pr (.val (.pair I (.pair I (.pair (.sl I) .unit)))) (.pr (.val (.pair I (.pair I .unit))) (.pr (.val (.sl I)) .un))) (.pr (.val (.pt (.pair (.pair I (.pair I (.pair (.sl I) .unit))) (.pair (.pair I (.pair I .unit)) (.pair (.sl I) (.pair (.sl (.sl I)) .unit)))))) (.pr (.val .bool) .un)) (a0, a1, a2, ()) = go_impl_ringGraph k a0 a1 a2 := by kernel_rfl
def go_impl_ringGraph_S (k : Nat) : Spec := ⟨(.pr (.val (.pair I (.pair I (.pair (.sl I) .unit)))) (.pr (.val (.pair I (.pair I .unit))) (.pr (.val (.sl I)) .un))), (.pr (.val (.pt (.pair (.pair I (.pair I (.pair (.sl I) .unit))) (.pair (.pair I (.pair I .unit)) (.pair (.sl I) (.pair (.sl (.sl I)) .unit)))))) (.pr (.val .bool) .un)), true, .inl fun x => go_impl_ringGraph k x.1 x.2.1 x.2.2.1⟩
theorem go_impl_ringGraph_F (k : Nat) : Fits Go.Proofs.Try.prog (go_impl_ringGraph_C k) 80 Go.Proofs.Try.f80 (bodyOf Go.Proofs.Try.f80) (.pr (.val (.pair I (.pair I (.pair (.sl I) .unit)))) (.pr (.val (.pair I (.pair I .unit))) (.pr (.val (.sl I)) .un))) (.pr (.val (.pt (.pair (.pair I (.pair I (.pair (.sl I) .unit))) (.pair (.pair I (.pair I .unit)) (.pair (.sl I) (.pair (.sl (.sl I)) .unit)))))) (.pr (.val .bool) .un)) true :=
  ⟨th0, mixed0, by kernel_rfl, Go.Proofs.Try.func80, rfl, by kernel_rfl, rfl, rfl, rfl, rfl, rfl, rfl⟩
theorem go_impl_ringGraph_M (k : Nat) : Meets Go.Proofs.Try.prog 80 (go_impl_ringGraph_S k) :=
  meets_pure (go_impl_ringGraph_F k) (sigs_all (l := [(70, go_impl_graphOf_S k), (71, go_impl_graph_isRing_S k)]) rfl ⟨go_impl_graphOf_M k, ⟨go_impl_graph_isRing_M k, trivial⟩⟩) rfl fun x => go_impl_ringGraph_t k x.1 x.2.1 x.2.2.1

/-! ### impl.common -/
def go_impl_common_C (k : Nat) : Ctx := { th := TH, se := SE, sg := [], mu := [], an := [(2, [(0, false), (1, false)])], dr := [(3, 5)], pre := [], d2 := [], m := 0, fx := [], n := 20, k := k }
def go_impl_common_L0_E (a0 : Int) (a1 : Int) (x5 : (Int × Int)) : St :=
  ⟨[(0, .one (.val I x5.1), []), (1, .one (.val I x5.2), [])], [], []⟩
def go_impl_common_L0_G (k : Nat) (a0 : Int) (a1 : Int) (rec6 : (Int × Int) → Option Int) (x5 : (Int × Int)) : Option Int :=
  if (decide ((0 : Int) < x5.2)) = true then
    if (decide (x5.2 ≠ 0)) = true then
    rec6 (x5.2, (Int.tmod x5.1 x5.2))
    else none
  else
    some x5.1
def go_impl_common_L0 (k : Nat) (a0 : Int) (a1 : Int) : (Int × Int) → Option Int :=
  iter k fun rec6 x5 => go_impl_common_L0_G k a0 a1 rec6 x5
theorem go_impl_common_L0_t (k : Nat) (a0 : Int) (a1 : Int) (x : (Int × Int)) :
    iter k (loopAt (go_impl_common_C k) (bodyOf Go.Proofs.Try.f81) [1, 1, 0, 0] [] (finPure (go_impl_common_C k) Go.Proofs.Try.f81.results.toList false (.val I))) (go_impl_common_L0_E a0 a1 x) = go_impl_common_L0 k a0 a1 x := by
  refine iter_tie (G := fun rec x => go_impl_common_L0_G k a0 a1 rec x) (go_impl_common_L0_E a0 a1) (fun rec x => ?_) k x
  have h : loopAt (go_impl_common_C k) (bodyOf Go.Proofs.Try.f81) [1, 1, 0, 0] [] (finPure (go_impl_common_C k) Go.Proofs.Try.f81.results.toList false (.val I)) rec (go_impl_common_L0_E a0 a1 x) = go_impl_common_L0_G k a0 a1 (fun y => rec (go_impl_common_L0_E a0 a1 y)) x := by kernel_rfl
  rw [h]
def go_impl_common_T (k : Nat) (a0 : Int) (a1 : Int) (l_0 : (Int × Int) → Option Int) : Option Int :=
  l_0 ((max a0 (IntKind.i64.wrap (0 - a0))), (max a1 (IntKind.i64.wrap (0 - a1))))
def go_impl_common (k : Nat) (a0 : Int) (a1 : Int) : Option Int :=
  go_impl_common_T k a0 a1 (fun y => go_impl_common_L0 k a0 a1 y)
theorem go_impl_common_t (k : Nat) (a0 : Int) (a1 : Int) : runPure (go_impl_common_C k) (bodyOf Go.Proofs.Try.f81) Go.Proofs.Try.f81.results.toList false (.pr (.val I) (.pr (.val I) .un)) (.val I) (a0, a1, ()) = go_impl_common k a0 a1 := by
  have h : runPure (go_impl_common_C k) (bodyOf Go.Proofs.Try.f81) Go.Proofs.Try.f81.results.toList false (.pr (.val I) (.pr (.val I) .un)) (.val I) (a0, a1, ()) = go_impl_common_T k a0 a1 (fun y => iter k (loopAt (go_impl_common_C k) (bodyOf Go.Proofs.Try.f81) [1, 1, 0, 0] [] (finPure (go_impl_common_C k) Go.Proofs.Try.f81.results.toList false (.val I))) (go_impl_common_L0_E a0 a1 y)) := by kernel_rfl
  have h0 : (fun y => iter k (loopAt (go_impl_common_C k) (bodyOf Go.Proofs.Try.f81) [1, 1, 0, 0] [] (finPure (go_impl_common_C k) Go.Proofs.Try.f81.results.toList false (.val I))) (go_impl_common_L0_E a0 a1 y)) = (fun y => go_impl_common_L0 k a0 a1 y) := by
    funext y
    exact go_impl_common_L0_t k a0 a1 y
  rw [h, h0]
  rfl
def go_impl_common_S (k : Nat) : Spec := ⟨(.pr (.val I) (.pr (.val I) .un)), (.val I), false, .inl fun x => go_impl_common k x.1 x.2.1⟩
theorem go_impl_common_F (k : Nat) : Fits Go.Proofs.Try.prog (go_impl_common_C k) 81 Go.Proofs.Try.f81 (bodyOf Go.Proofs.Try.f81) (.pr (.val I) (.pr (.val I) .un)) (.val I) false :=
  ⟨th0, mixed0, by kernel_rfl, Go.Proofs.Try.func81, rfl, by kernel_rfl, rfl, rfl, rfl, rfl, rfl, rfl⟩
theorem go_impl_common_M (k : Nat) : Meets Go.Proofs.Try.prog 81 (go_impl_common_S k) :=
  meets_pure (go_impl_common_F k) (sigs_all (l := []) rfl trivial) rfl fun x => go_impl_common_t k x.1 x.2.1

/-! ### impl.PointsOnRing -/
def go_impl_PointsOnRing_C (k : Nat) : Ctx := { th := TH, se := SE, sg := [(80, go_impl_ringGraph_S k), (81, go_impl_common_S k)], mu := [], an := [], dr := [], pre := [], d2 := [], m := 0, fx := [], n := 27, k := k }
def go_impl_PointsOnRing (k : Nat) (a0 : (Int × (Int × ((List Int) × Unit)))) (a1 : (Int × (Int × Unit))) (a2 : (List Int)) : Option (Int × (Bool × Unit)) :=
  (go_impl_ringGraph k a0 a1 a2).bind fun r1 =>
  if (!r1.2.1) = true then
    some ((0 : Int), (false, ()))
  else
    (go_impl_common k a1.1 a1.2.1).bind fun r2 =>
    some ((IntKind.i64.wrap ((a2.length : Int) * r2)), (true, ()))
theorem go_impl_PointsOnRing_t (k : Nat) (a0 : (Int × (Int × ((List Int) × Unit)))) (a1 : (Int × (Int × Unit))) (a2 : (List Int)) : runPure (go_impl_PointsOnRing_C k) (bodyOf Go.Proofs.Try.f38) Go.Proofs.Try.f38.results.toList true (.pr (.val (.pair I (.pair I (.pair (.sl I) .unit)))) (.pr (.val (.pair I (.pair I .unit))) (.pr (.val (.sl I)) .un))) (.pr (.val I) (.pr (.val .bool) .un)) (a0, a1, a2, ()) = go_impl_PointsOnRing k a0 a1 a2 := by kernel_rfl
def go_impl_PointsOnRing_S (k : Nat) : Spec := ⟨(.pr (.val (.pair I (.pair I (.pair (.sl I) .unit)))) (.pr (.val (.pair I (.pair I .unit))) (.pr (.val (.sl I)) .un))), (.pr (.val I) (.pr (.val .bool) .un)), true, .inl fun x => go_impl_PointsOnRing k x.1 x.2.1 x.2.2.1⟩
theorem go_impl_PointsOnRing_F (k : Nat) : Fits Go.Proofs.Try.prog (go_impl_PointsOnRing_C k) 38 Go.Proofs.Try.f38 (bodyOf Go.Proofs.Try.f38) (.pr (.val (.pair I (.pair I (.pair (.sl I) .unit)))) (.pr (.val (.pair I (.pair I .unit))) (.pr (.val (.sl I)) .un))) (.pr (.val I) (.pr (.val .bool) .un)) true :=
  ⟨th0, mixed0, by kernel_rfl, Go.Proofs.Try.func38, rfl, by kernel_rfl, rfl, rfl, rfl, rfl, rfl, rfl⟩
theorem go_impl_PointsOnRing_M (k : Nat) : Meets Go.Proofs.Try.prog 38 (go_impl_PointsOnRing_S k) :=
  meets_pure (go_impl_PointsOnRing_F k) (sigs_all (l := [(80, go_impl_ringGraph_S k), (81, go_impl_common_S k)]) rfl ⟨go_impl_ringGraph_M k, ⟨go_impl_common_M k, trivial⟩⟩) rfl fun x => go_impl_PointsOnRing_t k x.1 x.2.1 x.2.2.1

/-! ### laws.FnExactPointsOnRing -/
def go_laws_FnExactPointsOnRing_C (k : Nat) : Ctx := { th := TH, se := SE, sg := [(15, go_laws_szBoard_S k), (17, go_laws_toBoard_S k), (18, go_laws_toLeaper_S k), (19, go_laws_toIntS_S k), (37, go_spec_PointsOnRing_S k), (38, go_impl_PointsOnRing_S k), (21, go_laws_eqBoard_S k), (22, go_laws_eqIntS_S k)], mu := [], an := [], dr := [(7, 11), (10, 9), (13, 3)], pre := [], d2 := [], m := 0, fx := [], n := 62, k := k }
def go_laws_FnExactPointsOnRing (k : Nat) (a0 : (Int × (Int × ((List Int) × Unit)))) (a1 : (Int × (Int × Unit))) (a2 : (List Int)) : Option Bool :=
  if (decide ((1048576 : Int) < (a2.length : Int))) = true then
    some true
  else
    (go_laws_szBoard k a0 (1048576 : Int)).bind fun r1 =>
    if (decide (r1 < (0 : Int))) = true then
      some true
    else
      (go_laws_toBoard k a0).bind fun r2 =>
      (go_laws_toLeaper k a1).bind fun r3 =>
      (go_laws_toIntS k a2).bind fun r4 =>
      (go_spec_PointsOnRing k (r2.1, (r2.2.1, (r2.2.2.1, ()))) r3 r4).bind fun r5 =>
      (go_laws_toBoard k a0).bind fun r6 =>
      (go_laws_toIntS k a2).bind fun r7 =>
      (go_laws_toLeaper k a1).bind fun r8 =>
      (go_impl_PointsOnRing k (r6.1, (r6.2.1, (r6.2.2.1, ()))) r8 r7).bind fun r9 =>
      if ((!decide (r9.1 = r5.1)) || (r9.2.1 != r5.2.1)) = true then
        some false
      else
        (go_laws_toBoard k a0).bind fun r10 =>
        (go_laws_eqBoard k (r6.1, (r6.2.1, (r6.2.2.1, ()))) (r10.1, (r10.2.1, (r10.2.2.1, ())))).bind fun r11 =>
        if (!r11) = true then
          some false
        else
          (go_laws_toIntS k a2).bind fun r12 =>
          (go_laws_eqIntS k r7 r12).bind fun r13 =>
          if (!r13) = true then
            some false
          else
            some true
theorem go_laws_FnExactPointsOnRing_t (k : Nat) (a0 : (Int × (Int × ((List Int) × Unit)))) (a1 : (Int × (Int × Unit))) (a2 : (List Int)) : runPure (go_laws_FnExactPointsOnRing_C k) (bodyOf Go.Proofs.Try.f8) Go.Proofs.Try.f8.results.toList false (.pr (.val (.pair I (.pair I (.pair (.sl I) .unit)))) (.pr (.val (.pair I (.pair I .unit))) (.pr (.val (.sl I)) .un))) (.val .bool) (a0, a1, a2, ()) = go_laws_FnExactPointsOnRing k a0 a1 a2 := by kernel_rfl
def go_laws_FnExactPointsOnRing_S (k : Nat) : Spec := ⟨(.pr (.val (.pair I (.pair I (.pair (.sl I) .unit)))) (.pr (.val (.pair I (.pair I .unit))) (.pr (.val (.sl I)) .un))), (.val .bool), false, .inl fun x => go_laws_FnExactPointsOnRing k x.1 x.2.1 x.2.2.1⟩
theorem go_laws_FnExactPointsOnRing_F (k : Nat) : Fits Go.Proofs.Try.prog (go_laws_FnExactPointsOnRing_C k) 8 Go.Proofs.Try.f8 (bodyOf Go.Proofs.Try.f8) (.pr (.val (.pair I (.pair I (.pair (.sl I) .unit)))) (.pr (.val (.pair I (.pair I .unit))) (.pr (.val (.sl I)) .un))) (.val .bool) false :=
  ⟨th0, mixed0, by kernel_rfl, Go.Proofs.Try.func8, rfl, by kernel_rfl, rfl, rfl, rfl, rfl, rfl, rfl⟩
theorem go_laws_FnExactPointsOnRing_M (k : Nat) : Meets Go.Proofs.Try.prog 8 (go_laws_FnExactPointsOnRing_S k) :=
  meets_pure (go_laws_FnExactPointsOnRing_F k) (sigs_all (l := [(15, go_laws_szBoard_S k), (17, go_laws_toBoard_S k), (18, go_laws_toLeaper_S k), (19, go_laws_toIntS_S k), (37, go_spec_PointsOnRing_S k), (38, go_impl_PointsOnRing_S k), (21, go_laws_eqBoard_S k), (22, go_laws_eqIntS_S k)]) rfl ⟨go_laws_szBoard_M k, ⟨go_laws_toBoard_M k, ⟨go_laws_toLeaper_M k, ⟨go_laws_toIntS_M k, ⟨go_spec_PointsOnRing_M k, ⟨go_impl_PointsOnRing_M k, ⟨go_laws_eqBoard_M k, ⟨go_laws_eqIntS_M k, trivial⟩⟩⟩⟩⟩⟩⟩⟩) rfl fun x => go_laws_FnExactPointsOnRing_t k x.1 x.2.1 x.2.2.1

/-! ### spec.crArea -/
def go_spec_crArea_C (k : Nat) : Ctx := { th := TH, se := SE, sg := [(90, go_spec_crCross_S k)], mu := [], an := [(3, [(1, false), (2, false), (5, false), (6, false)])], dr := [(5, 14)], pre := [(5, [0])], d2 := [], m := 0, fx := [], n := 30, k := k }
def go_spec_crArea_L0_E (a0 : (Int × (Int × ((List Int) × Unit)))) (a1 : (List Int)) (x7 : (Int × Int)) : St :=
  ⟨[(1, .one (.val (.sl I) a1), []), (2, .one (.val (.pt (.pair I (.pair I (.pair (.sl I) .unit)))) (some a0)), []), (5, .one (.val I x7.1), []), (6, .one (.val I x7.2), [])], [], []⟩
def go_spec_crArea_L0_G (k : Nat) (a0 : (Int × (Int × ((List Int) × Unit)))) (a1 : (List Int)) (rec8 : (Int × Int) → Option Int) (x7 : (Int × Int)) : Option Int :=
  if (decide (x7.2 < (a1.length : Int))) = true then
    if (inb (0 : Int) a1.length) = true then
    if (inb (IntKind.i64.wrap (x7.2 - (1 : Int))) a1.length) = true then
    if (inb x7.2 a1.length) = true then
    (go_spec_crCross k a0 (a1.getD (0 : Int).toNat (0 : Int)) (a1.getD (IntKind.i64.wrap (x7.2 - (1 : Int))).toNat (0 : Int)) (a1.getD x7.2.toNat (0 : Int))).bind fun r9 =>
    rec8 ((IntKind.i64.wrap (x7.1 + r9)), (IntKind.i64.wrap (x7.2 + (1 : Int))))
    else none
    else none
    else none
  else
    some x7.1
def go_spec_crArea_L0 (k : Nat) (a0 : (Int × (Int × ((List Int) × Unit)))) (a1 : (List Int)) : (Int × Int) → Option Int :=
  iter k fun rec8 x7 => go_spec_crArea_L0_G k a0 a1 rec8 x7
theorem go_spec_crArea_L0_t (k : Nat) (a0 : (Int × (Int × ((List Int) × Unit)))) (a1 : (List Int)) (x : (Int × Int)) :
    iter k (loopAt (go_spec_crArea_C k) (bodyOf Go.Proofs.Try.f82) [1, 1, 0, 1, 0] [] (finPure (go_spec_crArea_C k) Go.Proofs.Try.f82.results.toList false (.val I))) (go_spec_crArea_L0_E a0 a1 x) = go_spec_crArea_L0 k a0 a1 x := by
  refine iter_tie (G := fun rec x => go_spec_crArea_L0_G k a0 a1 rec x) (go_spec_crArea_L0_E a0 a1) (fun rec x => ?_) k x
  have h : loopAt (go_spec_crArea_C k) (bodyOf Go.Proofs.Try.f82) [1, 1, 0, 1, 0] [] (finPure (go_spec_crArea_C k) Go.Proofs.Try.f82.results.toList false (.val I)) rec (go_spec_crArea_L0_E a0 a1 x) = go_spec_crArea_L0_G k a0 a1 (fun y => rec (go_spec_crArea_L0_E a0 a1 y)) x := by kernel_rfl
  rw [h]
def go_spec_crArea_T (k : Nat) (a0 : (Int × (Int × ((List Int) × Unit)))) (a1 : (List Int)) (l_0 : (Int × Int) → Option Int) : Option Int :=
  l_0 ((0 : Int), (2 : Int))
def go_spec_crArea (k : Nat) (a0 : (Int × (Int × ((List Int) × Unit)))) (a1 : (List Int)) : Option Int :=
  go_spec_crArea_T k a0 a1 (fun y => go_spec_crArea_L0 k a0 a1 y)
theorem go_spec_crArea_t (k : Nat) (a0 : (Int × (Int × ((List Int) × Unit)))) (a1 : (List Int)) : runPure (go_spec_crArea_C k) (bodyOf Go.Proofs.Try.f82) Go.Proofs.Try.f82.results.toList false (.pr (.val (.pair I (.pair I (.pair (.sl I) .unit)))) (.pr (.val (.sl I)) .un)) (.val I) (a0, a1, ()) = go_spec_crArea k a0 a1 := by
  have h : runPure (go_spec_crArea_C k) (bodyOf Go.Proofs.Try.f82) Go.Proofs.Try.f82.results.toList false (.pr (.val (.pair I (.pair I (.pair (.sl I) .unit)))) (.pr (.val (.sl I)) .un)) (.val I) (a0, a1, ()) = go_spec_crArea_T k a0 a1 (fun y => iter k (loopAt (go_spec_crArea_C k) (bodyOf Go.Proofs.Try.f82) [1, 1, 0, 1, 0] [] (finPure (go_spec_crArea_C k) Go.Proofs.Try.f82.results.toList false (.val I))) (go_spec_crArea_L0_E a0 a1 y)) := by kernel_rfl
  have h0 : (fun y => iter k (loopAt (go_spec_crArea_C k) (bodyOf Go.Proofs.Try.f82) [1, 1, 0, 1, 0] [] (finPure (go_spec_crArea_C k) Go.Proofs.Try.f82.results.toList false (.val I))) (go_spec_crArea_L0_E a0 a1 y)) = (fun y => go_spec_crArea_L0 k a0 a1 y) := by
    funext y
    exact go_spec_crArea_L0_t k a0 a1 y
  rw [h, h0]
  rfl
def go_spec_crArea_S (k : Nat) : Spec := ⟨(.pr (.val (.pair I (.pair I (.pair (.sl I) .unit)))) (.pr (.val (.sl I)) .un)), (.val I), false, .inl fun x => go_spec_crArea k x.1 x.2.1⟩
theorem go_spec_crArea_F (k : Nat) : Fits Go.Proofs.Try.prog (go_spec_crArea_C k) 82 Go.Proofs.Try.f82 (bodyOf Go.Proofs.Try.f82) (.pr (.val (.pair I (.pair I (.pair (.sl I) .unit)))) (.pr (.val (.sl I)) .un)) (.val I) false :=
  ⟨th0, mixed0, by kernel_rfl, Go.Proofs.Try.func82, rfl, by kernel_rfl, rfl, rfl, rfl, rfl, rfl, rfl⟩
theorem go_spec_crArea_M (k : Nat) : Meets Go.Proofs.Try.prog 82 (go_spec_crArea_S k) :=
  meets_pure (go_spec_crArea_F k) (sigs_all (l := [(90, go_spec_crCross_S k)]) rfl ⟨go_spec_crCross_M k, trivial⟩) rfl fun x => go_spec_crArea_t k x.1 x.2.1

/-! ### spec.TwiceArea -/
def go_spec_TwiceArea_C (k : Nat) : Ctx := { th := TH, se := SE, sg := [(78, go_spec_crAsked_S k), (82, go_spec_crArea_S k)], mu := [], an := [], dr := [], pre := [], d2 := [], m := 0, fx := [], n := 16, k := k }
def go_spec_TwiceArea (k : Nat) (a0 : (Int × (Int × ((List Int) × Unit)))) (a1 : (Int × (Int × Unit))) (a2 : (List Int)) : Option (Int × (Bool × Unit)) :=
  (go_spec_crAsked k a0 a1 a2).bind fun r1 =>
  if (!r1) = true then
    some ((0 : Int), (false, ()))
  else
    (go_spec_crArea k a0 a2).bind fun r2 =>
    some (r2, (true, ()))
theorem go_spec_TwiceArea_t (k : Nat) (a0 : (Int × (Int × ((List Int) × Unit)))) (a1 : (Int × (Int × Unit))) (a2 : (List Int)) : runPure (go_spec_TwiceArea_C k) (bodyOf Go.Proofs.Try.f39) Go.Proofs.Try.f39.results.toList true (.pr (.val (.pair I (.pair I (.pair (.sl I) .unit)))) (.pr (.val (.pair I (.pair I .unit))) (.pr (.val (.sl I)) .un))) (.pr (.val I) (.pr (.val .bool) .un)) (a0, a1, a2, ()) = go_spec_TwiceArea k a0 a1 a2 := by kernel_rfl
def go_spec_TwiceArea_S (k : Nat) : Spec := ⟨(.pr (.val (.pair I (.pair I (.pair (.sl I) .unit)))) (.pr (.val (.pair I (.pair I .unit))) (.pr (.val (.sl I)) .un))), (.pr (.val I) (.pr (.val .bool) .un)), true, .inl fun x => go_spec_TwiceArea k x.1 x.2.1 x.2.2.1⟩
theorem go_spec_TwiceArea_F (k : Nat) : Fits Go.Proofs.Try.prog (go_spec_TwiceArea_C k) 39 Go.Proofs.Try.f39 (bodyOf Go.Proofs.Try.f39) (.pr (.val (.pair I (.pair I (.pair (.sl I) .unit)))) (.pr (.val (.pair I (.pair I .unit))) (.pr (.val (.sl I)) .un))) (.pr (.val I) (.pr (.val .bool) .un)) true :=
  ⟨th0, mixed0, by kernel_rfl, Go.Proofs.Try.func39, rfl, by kernel_rfl, rfl, rfl, rfl, rfl, rfl, rfl⟩
theorem go_spec_TwiceArea_M (k : Nat) : Meets Go.Proofs.Try.prog 39 (go_spec_TwiceArea_S k) :=
  meets_pure (go_spec_TwiceArea_F k) (sigs_all (l := [(78, go_spec_crAsked_S k), (82, go_spec_crArea_S k)]) rfl ⟨go_spec_crAsked_M k, ⟨go_spec_crArea_M k, trivial⟩⟩) rfl fun x => go_spec_TwiceArea_t k x.1 x.2.1 x.2.2.1

/-! ### (impl.Board).area -/
def go_impl_Board_area_C (k : Nat) : Ctx := { th := TH, se := SE, sg := [(92, go_impl_Board_at_S k)], mu := [], an := [(3, [(1, false), (2, false), (5, false), (10, false), (11, false), (12, false)])], dr := [(5, 15)], pre := [], d2 := [], m := 0, fx := [], n := 45, k := k }
def go_impl_Board_area_L0_E (a0 : (Int × (Int × ((List Int) × Unit)))) (a1 : (List Int)) (x9 : (Int × Int)) : St :=
  ⟨[(1, .one (.val (.sl I) a1), []), (2, .one (.val (.pt (.pair I (.pair I (.pair (.sl I) .unit)))) (some a0)), []), (5, .one (.val I x9.1), []), (10, .one (.val (.sl I) a1), []), (11, .one (.val I (a1.length : Int)), []), (12, .one (.val I x9.2), [])], [], []⟩
def go_impl_Board_area_L0_G (k : Nat) (a0 : (Int × (Int × ((List Int) × Unit)))) (a1 : (List Int)) (rec10 : (Int × Int) → Option Int) (x9 : (Int × Int)) : Option Int :=
  if (decide (x9.2 < (a1.length : Int))) = true then
    if (inb x9.2 a1.length) = true then
    (go_impl_Board_at k a0 (a1.getD x9.2.toNat (0 : Int))).bind fun r11 =>
    if (decide ((a1.length : Int) ≠ 0)) = true then
    if (inb (Int.tmod (IntKind.i64.wrap (x9.2 + (1 : Int))) (a1.length : Int)) a1.length) = true then
    (go_impl_Board_at k a0 (a1.getD (Int.tmod (IntKind.i64.wrap (x9.2 + (1 : Int))) (a1.length : Int)).toNat (0 : Int))).bind fun r12 =>
    rec10 ((IntKind.i64.wrap (x9.1 + (IntKind.i64.wrap ((IntKind.i64.wrap (r11.1 * r12.2.1)) - (IntKind.i64.wrap (r11.2.1 * r12.1)))))), (IntKind.i64.wrap (x9.2 + (1 : Int))))
    else none
    else none
    else none
  else
    some x9.1
def go_impl_Board_area_L0 (k : Nat) (a0 : (Int × (Int × ((List Int) × Unit)))) (a1 : (List Int)) : (Int × Int) → Option Int :=
  iter k fun rec10 x9 => go_impl_Board_area_L0_G k a0 a1 rec10 x9
theorem go_impl_Board_area_L0_t (k : Nat) (a0 : (Int × (Int × ((List Int) × Unit)))) (a1 : (List Int)) (x : (Int × Int)) :
    iter k (loopAt (go_impl_Board_area_C k) (bodyOf Go.Proofs.Try.f83) [1, 1, 0, 1, 0] [] (finPure (go_impl_Board_area_C k) Go.Proofs.Try.f83.results.toList false (.val I))) (go_impl_Board_area_L0_E a0 a1 x) = go_impl_Board_area_L0 k a0 a1 x := by
  refine iter_tie (G := fun rec x => go_impl_Board_area_L0_G k a0 a1 rec x) (go_impl_Board_area_L0_E a0 a1) (fun rec x => ?_) k x
  have h : loopAt (go_impl_Board_area_C k) (bodyOf Go.Proofs.Try.f83) [1, 1, 0, 1, 0] [] (finPure (go_impl_Board_area_C k) Go.Proofs.Try.f83.results.toList false (.val I)) rec (go_impl_Board_area_L0_E a0 a1 x) = go_impl_Board_area_L0_G k a0 a1 (fun y => rec (go_impl_Board_area_L0_E a0 a1 y)) x := by kernel_rfl
  rw [h]
def go_impl_Board_area_T (k : Nat) (a0 : (Int × (Int × ((List Int) × Unit)))) (a1 : (List Int)) (l_0 : (Int × Int) → Option Int) : Option Int :=
  l_0 ((0 : Int), (0 : Int))
def go_impl_Board_area (k : Nat) (a0 : (Int × (Int × ((List Int) × Unit)))) (a1 : (List Int)) : Option Int :=
  go_impl_Board_area_T k a0 a1 (fun y => go_impl_Board_area_L0 k a0 a1 y)
theorem go_impl_Board_area_t (k : Nat) (a0 : (Int × (Int × ((List Int) × Unit)))) (a1 : (List Int)) : runPure (go_impl_Board_area_C k) (bodyOf Go.Proofs.Try.f83) Go.Proofs.Try.f83.results.toList false (.pr (.val (.pair I (.pair I (.pair (.sl I) .unit)))) (.pr (.val (.sl I)) .un)) (.val I) (a0, a1, ()) = go_impl_Board_area k a0 a1 := by
  have h : runPure (go_impl_Board_area_C k) (bodyOf Go.Proofs.Try.f83) Go.Proofs.Try.f83.results.toList false (.pr (.val (.pair I (.pair I (.pair (.sl I) .unit)))) (.pr (.val (.sl I)) .un)) (.val I) (a0, a1, ()) = go_impl_Board_area_T k a0 a1 (fun y => iter k (loopAt (go_impl_Board_area_C k) (bodyOf Go.Proofs.Try.f83) [1, 1, 0, 1, 0] [] (finPure (go_impl_Board_area_C k) Go.Proofs.Try.f83.results.toList false (.val I))) (go_impl_Board_area_L0_E a0 a1 y)) := by kernel_rfl
  have h0 : (fun y => iter k (loopAt (go_impl_Board_area_C k) (bodyOf Go.Proofs.Try.f83) [1, 1, 0, 1, 0] [] (finPure (go_impl_Board_area_C k) Go.Proofs.Try.f83.results.toList false (.val I))) (go_impl_Board_area_L0_E a0 a1 y)) = (fun y => go_impl_Board_area_L0 k a0 a1 y) := by
    funext y
    exact go_impl_Board_area_L0_t k a0 a1 y
  rw [h, h0]
  rfl
def go_impl_Board_area_S (k : Nat) : Spec := ⟨(.pr (.val (.pair I (.pair I (.pair (.sl I) .unit)))) (.pr (.val (.sl I)) .un)), (.val I), false, .inl fun x => go_impl_Board_area k x.1 x.2.1⟩
theorem go_impl_Board_area_F (k : Nat) : Fits Go.Proofs.Try.prog (go_impl_Board_area_C k) 83 Go.Proofs.Try.f83 (bodyOf Go.Proofs.Try.f83) (.pr (.val (.pair I (.pair I (.pair (.sl I) .unit)))) (.pr (.val (.sl I)) .un)) (.val I) false :=
  ⟨th0, mixed0, by kernel_rfl, Go.Proofs.Try.func83, rfl, by kernel_rfl, rfl, rfl, rfl, rfl, rfl, rfl⟩
theorem go_impl_Board_area_M (k : Nat) : Meets Go.Proofs.Try.prog 83 (go_impl_Board_area_S k) :=
  meets_pure (go_impl_Board_area_F k) (sigs_all (l := [(92, go_impl_Board_at_S k)]) rfl ⟨go_impl_Board_at_M k, trivial⟩) rfl fun x => go_impl_Board_area_t k x.1 x.2.1

/-! ### impl.TwiceArea -/
def go_impl_TwiceArea_C (k : Nat) : Ctx := { th := TH, se := SE, sg := [(80, go_impl_ringGraph_S k), (83, go_impl_Board_area_S k)], mu := [], an := [], dr := [], pre := [], d2 := [], m := 0, fx := [], n := 22, k := k }
def go_impl_TwiceArea (k : Nat) (a0 : (Int × (Int × ((List Int) × Unit)))) (a1 : (Int × (Int × Unit))) (a2 : (List Int)) : Option (Int × (Bool × Unit)) :=
  (go_impl_ringGraph k a0 a1 a2).bind fun r1 =>
  if (!r1.2.1) = true then
    some ((0 : Int), (false, ()))
  else
    (go_impl_Board_area k a0 a2).bind fun r2 =>
    some (r2, (true, ()))
theorem go_impl_TwiceArea_t (k : Nat) (a0 : (Int × (Int × ((List Int) × Unit)))) (a1 : (Int × (Int × Unit))) (a2 : (List Int)) : runPure (go_impl_TwiceArea_C k) (bodyOf Go.Proofs.Try.f40) Go.Proofs.Try.f40.results.toList true (.pr (.val (.pair I (.pair I (.pair (.sl I) .unit)))) (.pr (.val (.pair I (.pair I .unit))) (.pr (.val (.sl I)) .un))) (.pr (.val I) (.pr (.val .bool) .un)) (a0, a1, a2, ()) = go_impl_TwiceArea k a0 a1 a2 := by kernel_rfl
def go_impl_TwiceArea_S (k : Nat) : Spec := ⟨(.pr (.val (.pair I (.pair I (.pair (.sl I) .unit)))) (.pr (.val (.pair I (.pair I .unit))) (.pr (.val (.sl I)) .un))), (.pr (.val I) (.pr (.val .bool) .un)), true, .inl fun x => go_impl_TwiceArea k x.1 x.2.1 x.2.2.1⟩
theorem go_impl_TwiceArea_F (k : Nat) : Fits Go.Proofs.Try.prog (go_impl_TwiceArea_C k) 40 Go.Proofs.Try.f40 (bodyOf Go.Proofs.Try.f40) (.pr (.val (.pair I (.pair I (.pair (.sl I) .unit)))) (.pr (.val (.pair I (.pair I .unit))) (.pr (.val (.sl I)) .un))) (.pr (.val I) (.pr (.val .bool) .un)) true :=
  ⟨th0, mixed0, by kernel_rfl, Go.Proofs.Try.func40, rfl, by kernel_rfl, rfl, rfl, rfl, rfl, rfl, rfl⟩
theorem go_impl_TwiceArea_M (k : Nat) : Meets Go.Proofs.Try.prog 40 (go_impl_TwiceArea_S k) :=
  meets_pure (go_impl_TwiceArea_F k) (sigs_all (l := [(80, go_impl_ringGraph_S k), (83, go_impl_Board_area_S k)]) rfl ⟨go_impl_ringGraph_M k, ⟨go_impl_Board_area_M k, trivial⟩⟩) rfl fun x => go_impl_TwiceArea_t k x.1 x.2.1 x.2.2.1

/-! ### laws.FnExactTwiceArea -/
def go_laws_FnExactTwiceArea_C (k : Nat) : Ctx := { th := TH, se := SE, sg := [(15, go_laws_szBoard_S k), (17, go_laws_toBoard_S k), (18, go_laws_toLeaper_S k), (19, go_laws_toIntS_S k), (39, go_spec_TwiceArea_S k), (40, go_impl_TwiceArea_S k), (21, go_laws_eqBoard_S k), (22, go_laws_eqIntS_S k)], mu := [], an := [], dr := [(7, 11), (10, 9), (13, 3)], pre := [], d2 := [], m := 0, fx := [], n := 62, k := k }
def go_laws_FnExactTwiceArea (k : Nat) (a0 : (Int × (Int × ((List Int) × Unit)))) (a1 : (Int × (Int × Unit))) (a2 : (List Int)) : Option Bool :=
  if (decide ((1048576 : Int) < (a2.length : Int))) = true then
    some true
  else
    (go_laws_szBoard k a0 (1048576 : Int)).bind fun r1 =>
    if (decide (r1 < (0 : Int))) = true then
      some true
    else
      (go_laws_toBoard k a0).bind fun r2 =>
      (go_laws_toLeaper k a1).bind fun r3 =>
      (go_laws_toIntS k a2).bind fun r4 =>
      (go_spec_TwiceArea k (r2.1, (r2.2.1, (r2.2.2.1, ()))) r3 r4).bind fun r5 =>
      (go_laws_toBoard k a0).bind fun r6 =>
      (go_laws_toIntS k a2).bind fun r7 =>
      (go_laws_toLeaper k a1).bind fun r8 =>
      (go_impl_TwiceArea k (r6.1, (r6.2.1, (r6.2.2.1, ()))) r8 r7).bind fun r9 =>
      if ((!decide (r9.1 = r5.1)) || (r9.2.1 != r5.2.1)) = true then
        some false
      else
        (go_laws_toBoard k a0).bind fun r10 =>
        (go_laws_eqBoard k (r6.1, (r6.2.1, (r6.2.2.1, ()))) (r10.1, (r10.2.1, (r10.2.2.1, ())))).bind fun r11 =>
        if (!r11) = true then
          some false
        else
          (go_laws_toIntS k a2).bind fun r12 =>
          (go_laws_eqIntS k r7 r12).bind fun r13 =>
          if (!r13) = true then
            some false
          else
            some true
theorem go_laws_FnExactTwiceArea_t (k : Nat) (a0 : (Int × (Int × ((List Int) × Unit)))) (a1 : (Int × (Int × Unit))) (a2 : (List Int)) : runPure (go_laws_FnExactTwiceArea_C k) (bodyOf Go.Proofs.Try.f9) Go.Proofs.Try.f9.results.toList false (.pr (.val (.pair I (.pair I (.pair (.sl I) .unit)))) (.pr (.val (.pair I (.pair I .unit))) (.pr (.val (.sl I)) .un))) (.val .bool) (a0, a1, a2, ()) = go_laws_FnExactTwiceArea k a0 a1 a2 := by kernel_rfl
def go_laws_FnExactTwiceArea_S (k : Nat) : Spec := ⟨(.pr (.val (.pair I (.pair I (.pair (.sl I) .unit)))) (.pr (.val (.pair I (.pair I .unit))) (.pr (.val (.sl I)) .un))), (.val .bool), false, .inl fun x => go_laws_FnExactTwiceArea k x.1 x.2.1 x.2.2.1⟩
theorem go_laws_FnExactTwiceArea_F (k : Nat) : Fits Go.Proofs.Try.prog (go_laws_FnExactTwiceArea_C k) 9 Go.Proofs.Try.f9 (bodyOf Go.Proofs.Try.f9) (.pr (.val (.pair I (.pair I (.pair (.sl I) .unit)))) (.pr (.val (.pair I (.pair I .unit))) (.pr (.val (.sl I)) .un))) (.val .bool) false :=
  ⟨th0, mixed0, by kernel_rfl, Go.Proofs.Try.func9, rfl, by kernel_rfl, rfl, rfl, rfl, rfl, rfl, rfl⟩
theorem go_laws_FnExactTwiceArea_M (k : Nat) : Meets Go.Proofs.Try.prog 9 (go_laws_FnExactTwiceArea_S k) :=
  meets_pure (go_laws_FnExactTwiceArea_F k) (sigs_all (l := [(15, go_laws_szBoard_S k), (17, go_laws_toBoard_S k), (18, go_laws_toLeaper_S k), (19, go_laws_toIntS_S k), (39, go_spec_TwiceArea_S k), (40, go_impl_TwiceArea_S k), (21, go_laws_eqBoard_S k), (22, go_laws_eqIntS_S k)]) rfl ⟨go_laws_szBoard_M k, ⟨go_laws_toBoard_M k, ⟨go_laws_toLeaper_M k, ⟨go_laws_toIntS_M k, ⟨go_spec_TwiceArea_M k, ⟨go_impl_TwiceArea_M k, ⟨go_laws_eqBoard_M k, ⟨go_laws_eqIntS_M k, trivial⟩⟩⟩⟩⟩⟩⟩⟩) rfl fun x => go_laws_FnExactTwiceArea_t k x.1 x.2.1 x.2.2.1

/-! ### spec.PointsInside -/
def go_spec_PointsInside_C (k : Nat) : Ctx := { th := TH, se := SE, sg := [(78, go_spec_crAsked_S k), (82, go_spec_crArea_S k), (88, go_spec_l1Abs_S k), (79, go_spec_crOnRing_S k)], mu := [], an := [], dr := [(3, 8)], pre := [], d2 := [], m := 0, fx := [], n := 23, k := k }
def go_spec_PointsInside (k : Nat) (a0 : (Int × (Int × ((List Int) × Unit)))) (a1 : (Int × (Int × Unit))) (a2 : (List Int)) : Option (Int × (Bool × Unit)) :=
  (go_spec_crAsked k a0 a1 a2).bind fun r1 =>
  if (!r1) = true then
    some ((0 : Int), (false, ()))
  else
    (go_spec_crArea k a0 a2).bind fun r2 =>
    (go_spec_l1Abs k r2).bind fun r3 =>
    (go_spec_crOnRing k a1 a2).bind fun r4 =>
    some ((IntKind.i64.wrap (Int.tdiv (IntKind.i64.wrap ((IntKind.i64.wrap (r3 + (2 : Int))) - r4)) (2 : Int))), (true, ()))
theorem go_spec_PointsInside_t (k : Nat) (a0 : (Int × (Int × ((List Int) × Unit)))) (a1 : (Int × (Int × Unit))) (a2 : (List Int)) : runPure (go_spec_PointsInside_C k) (bodyOf Go.Proofs.Try.f43) Go.Proofs.Try.f43.results.toList true (.pr (.val (.pair I (.pair I (.pair (.sl I) .unit)))) (.pr (.val (.pair I (.pair I .unit))) (.pr (.val (.sl I)) .un))) (.pr (.val I) (.pr (.val .bool) .un)) (a0, a1, a2, ()) = go_spec_PointsInside k a0 a1 a2 := by kernel_rfl
def go_spec_PointsInside_S (k : Nat) : Spec := ⟨(.pr (.val (.pair I (.pair I (.pair (.sl I) .unit)))) (.pr (.val (.pair I (.pair I .unit))) (.pr (.val (.sl I)) .un))), (.pr (.val I) (.pr (.val .bool) .un)), true, .inl fun x => go_spec_PointsInside k x.1 x.2.1 x.2.2.1⟩
theorem go_spec_PointsInside_F (k : Nat) : Fits Go.Proofs.Try.prog (go_spec_PointsInside_C k) 43 Go.Proofs.Try.f43 (bodyOf Go.Proofs.Try.f43) (.pr (.val (.pair I (.pair I (.pair (.sl I) .unit)))) (.pr (.val (.pair I (.pair I .unit))) (.pr (.val (.sl I)) .un))) (.pr (.val I) (.pr (.val .bool) .un)) true :=
  ⟨th0, mixed0, by kernel_rfl, Go.Proofs.Try.func43, rfl, by kernel_rfl, rfl, rfl, rfl, rfl, rfl, rfl⟩
theorem go_spec_PointsInside_M (k : Nat) : Meets Go.Proofs.Try.prog 43 (go_spec_PointsInside_S k) :=
  meets_pure (go_spec_PointsInside_F k) (sigs_all (l := [(78, go_spec_crAsked_S k), (82, go_spec_crArea_S k), (88, go_spec_l1Abs_S k), (79, go_spec_crOnRing_S k)]) rfl ⟨go_spec_crAsked_M k, ⟨go_spec_crArea_M k, ⟨go_spec_l1Abs_M k, ⟨go_spec_crOnRing_M k, trivial⟩⟩⟩⟩) rfl fun x => go_spec_PointsInside_t k x.1 x.2.1 x.2.2.1

/-! ### impl.PointsInside -/
def go_impl_PointsInside_C (k : Nat) : Ctx := { th := TH, se := SE, sg := [(80, go_impl_ringGraph_S k), (83, go_impl_Board_area_S k), (81, go_impl_common_S k)], mu := [], an := [], dr := [], pre := [], d2 := [], m := 0, fx := [], n := 38, k := k }
def go_impl_PointsInside (k : Nat) (a0 : (Int × (Int × ((List Int) × Unit)))) (a1 : (Int × (Int × Unit))) (a2 : (List Int)) : Option (Int × (Bool × Unit)) :=
  (go_impl_ringGraph k a0 a1 a2).bind fun r1 =>
  if (!r1.2.1) = true then
    some ((0 : Int), (false, ()))
  else
    (go_impl_Board_area k a0 a2).bind fun r2 =>
    (go_impl_common k a1.1 a1.2.1).bind fun r3 =>
    some ((IntKind.i64.wrap (Int.tdiv (IntKind.i64.wrap ((IntKind.i64.wrap ((max r2 (IntKind.i64.wrap (0 - r2))) + (2 : Int))) - (IntKind.i64.wrap ((a2.length : Int) * r3)))) (2 : Int))), (true, ()))
theorem go_impl_PointsInside_t (k : Nat) (a0 : (Int × (Int × ((List Int) × Unit)))) (a1 : (Int × (Int × Unit))) (a2 : (List Int)) : runPure (go_impl_PointsInside_C k) (bodyOf Go.Proofs.Try.f44) Go.Proofs.Try.f44.results.toList true (.pr (.val (.pair I (.pair I (.pair (.sl I) .unit)))) (.pr (.val (.pair I (.pair I .unit))) (.pr (.val (.sl I)) .un))) (.pr (.val I) (.pr (.val .bool) .un)) (a0, a1, a2, ()) = go_impl_PointsInside k a0 a1 a2 := by kernel_rfl
def go_impl_PointsInside_S (k : Nat) : Spec := ⟨(.pr (.val (.pair I (.pair I (.pair (.sl I) .unit)))) (.pr (.val (.pair I (.pair I .unit))) (.pr (.val (.sl I)) .un))), (.pr (.val I) (.pr (.val .bool) .un)), true, .inl fun x => go_impl_PointsInside k x.1 x.2.1 x.2.2.1⟩
theorem go_impl_PointsInside_F (k : Nat) : Fits Go.Proofs.Try.prog (go_impl_PointsInside_C k) 44 Go.Proofs.Try.f44 (bodyOf Go.Proofs.Try.f44) (.pr (.val (.pair I (.pair I (.pair (.sl I) .unit)))) (.pr (.val (.pair I (.pair I .unit))) (.pr (.val (.sl I)) .un))) (.pr (.val I) (.pr (.val .bool) .un)) true :=
  ⟨th0, mixed0, by kernel_rfl, Go.Proofs.Try.func44, rfl, by kernel_rfl, rfl, rfl, rfl, rfl, rfl, rfl⟩
theorem go_impl_PointsInside_M (k : Nat) : Meets Go.Proofs.Try.prog 44 (go_impl_PointsInside_S k) :=
  meets_pure (go_impl_PointsInside_F k) (sigs_all (l := [(80, go_impl_ringGraph_S k), (83, go_impl_Board_area_S k), (81, go_impl_common_S k)]) rfl ⟨go_impl_ringGraph_M k, ⟨go_impl_Board_area_M k, ⟨go_impl_common_M k, trivial⟩⟩⟩) rfl fun x => go_impl_PointsInside_t k x.1 x.2.1 x.2.2.1

/-! ### laws.FnExactPointsInside -/
def go_laws_FnExactPointsInside_C (k : Nat) : Ctx := { th := TH, se := SE, sg := [(15, go_laws_szBoard_S k), (17, go_laws_toBoard_S k), (18, go_laws_toLeaper_S k), (19, go_laws_toIntS_S k), (43, go_spec_PointsInside_S k), (44, go_impl_PointsInside_S k), (21, go_laws_eqBoard_S k), (22, go_laws_eqIntS_S k)], mu := [], an := [], dr := [(7, 11), (10, 9), (13, 3)], pre := [], d2 := [], m := 0, fx := [], n := 62, k := k }
def go_laws_FnExactPointsInside (k : Nat) (a0 : (Int × (Int × ((List Int) × Unit)))) (a1 : (Int × (Int × Unit))) (a2 : (List Int)) : Option Bool :=
  if (decide ((1048576 : Int) < (a2.length : Int))) = true then
    some true
  else
    (go_laws_szBoard k a0 (1048576 : Int)).bind fun r1 =>
    if (decide (r1 < (0 : Int))) = true then
      some true
    else
      (go_laws_toBoard k a0).bind fun r2 =>
      (go_laws_toLeaper k a1).bind fun r3 =>
      (go_laws_toIntS k a2).bind fun r4 =>
      (go_spec_PointsInside k (r2.1, (r2.2.1, (r2.2.2.1, ()))) r3 r4).bind fun r5 =>
      (go_laws_toBoard k a0).bind fun r6 =>
      (go_laws_toIntS k a2).bind fun r7 =>
      (go_laws_toLeaper k a1).bind fun r8 =>
      (go_impl_PointsInside k (r6.1, (r6.2.1, (r6.2.2.1, ()))) r8 r7).bind fun r9 =>
      if ((!decide (r9.1 = r5.1)) || (r9.2.1 != r5.2.1)) = true then
        some false
      else
        (go_laws_toBoard k a0).bind fun r10 =>
        (go_laws_eqBoard k (r6.1, (r6.2.1, (r6.2.2.1, ()))) (r10.1, (r10.2.1, (r10.2.2.1, ())))).bind fun r11 =>
        if (!r11) = true then
          some false
        else
          (go_laws_toIntS k a2).bind fun r12 =>
          (go_laws_eqIntS k r7 r12).bind fun r13 =>
          if (!r13) = true then
            some false
          else
            some true
theorem go_laws_FnExactPointsInside_t (k : Nat) (a0 : (Int × (Int × ((List Int) × Unit)))) (a1 : (Int × (Int × Unit))) (a2 : (List Int)) : runPure (go_laws_FnExactPointsInside_C k) (bodyOf Go.Proofs.Try.f11) Go.Proofs.Try.f11.results.toList false (.pr (.val (.pair I (.pair I (.pair (.sl I) .unit)))) (.pr (.val (.pair I (.pair I .unit))) (.pr (.val (.sl I)) .un))) (.val .bool) (a0, a1, a2, ()) = go_laws_FnExactPointsInside k a0 a1 a2 := by kernel_rfl
def go_laws_FnExactPointsInside_S (k : Nat) : Spec := ⟨(.pr (.val (.pair I (.pair I (.pair (.sl I) .unit)))) (.pr (.val (.pair I (.pair I .unit))) (.pr (.val (.sl I)) .un))), (.val .bool), false, .inl fun x => go_laws_FnExactPointsInside k x.1 x.2.1 x.2.2.1⟩
theorem go_laws_FnExactPointsInside_F (k : Nat) : Fits Go.Proofs.Try.prog (go_laws_FnExactPointsInside_C k) 11 Go.Proofs.Try.f11 (bodyOf Go.Proofs.Try.f11) (.pr (.val (.pair I (.pair I (.pair (.sl I) .unit)))) (.pr (.val (.pair I (.pair I .unit))) (.pr (.val (.sl I)) .un))) (.val .bool) false :=
  ⟨th0, mixed0, by kernel_rfl, Go.Proofs.Try.func11, rfl, by kernel_rfl, rfl, rfl, rfl, rfl, rfl, rfl⟩
theorem go_laws_FnExactPointsInside_M (k : Nat) : Meets Go.Proofs.Try.prog 11 (go_laws_FnExactPointsInside_S k) :=
  meets_pure (go_laws_FnExactPointsInside_F k) (sigs_all (l := [(15, go_laws_szBoard_S k), (17, go_laws_toBoard_S k), (18, go_laws_toLeaper_S k), (19, go_laws_toIntS_S k), (43, go_spec_PointsInside_S k), (44, go_impl_PointsInside_S k), (21, go_laws_eqBoard_S k), (22, go_laws_eqIntS_S k)]) rfl ⟨go_laws_szBoard_M k, ⟨go_laws_toBoard_M k, ⟨go_laws_toLeaper_M k, ⟨go_laws_toIntS_M k, ⟨go_spec_PointsInside_M k, ⟨go_impl_PointsInside_M k, ⟨go_laws_eqBoard_M k, ⟨go_laws_eqIntS_M k, trivial⟩⟩⟩⟩⟩⟩⟩⟩) rfl fun x => go_laws_FnExactPointsInside_t k x.1 x.2.1 x.2.2.1

/-! ### spec.InsideRing -/
def go_spec_InsideRing_C (k : Nat) : Ctx := { th := TH, se := SE, sg := [(78, go_spec_crAsked_S k), (89, go_spec_crOn_S k), (90, go_spec_crCross_S k)], mu := [], an := [(5, [(2, false), (3, false), (8, true), (9, false)]), (9, [(2, false), (3, false), (8, false), (9, false), (10, false), (11, false), (31, false), (32, false), (33, false)])], dr := [(14, 8), (16, 25)], pre := [], d2 := [], m := 0, fx := [], n := 111, k := k }
def go_spec_InsideRing_L0_E (a0 : (Int × (Int × ((List Int) × Unit)))) (a1 : (Int × (Int × Unit))) (a2 : (List Int)) (x59 : (Int × (List Int))) : St :=
  ⟨[(2, .one (.val (.sl I) a2), []), (3, .one (.val (.pt (.pair I (.pair I (.pair (.sl I) .unit)))) (some a0)), []), (8, .one (.own 0), []), (9, .one (.val I x59.1), [])], [.arr 3 I x59.2], []⟩
def go_spec_InsideRing_L1_E (a0 : (Int × (Int × ((List Int) × Unit)))) (a1 : (Int × (Int × Unit))) (a2 : (List Int)) (x59 : (Int × (List Int))) (x73 : (Bool × Bool × Int)) : St :=
  ⟨[(2, .one (.val (.sl I) a2), []), (3, .one (.val (.pt (.pair I (.pair I (.pair (.sl I) .unit)))) (some a0)), []), (8, .one (.own 0), []), (9, .one (.val I x59.1), []), (10, .one (.val .bool x73.1), []), (11, .one (.val .bool x73.2.1), []), (31, .one (.val (.sl I) a2), []), (32, .one (.val I (a2.length : Int)), []), (33, .one (.val I x73.2.2), [])], [.arr 3 I x59.2], []⟩
def go_spec_InsideRing_L1_G (k : Nat) (a0 : (Int × (Int × ((List Int) × Unit)))) (a1 : (Int × (Int × Unit))) (a2 : (List Int)) (x59 : (Int × (List Int))) (rec60 : (Int × (List Int)) → Option ((List Int) × (Bool × Unit))) (rec74 : (Bool × Bool × Int) → Option ((List Int) × (Bool × Unit))) (x73 : (Bool × Bool × Int)) : Option ((List Int) × (Bool × Unit)) :=
  if (decide (x73.2.2 < (a2.length : Int))) = true then
    if (inb x73.2.2 a2.length) = true then
    if (decide ((a2.length : Int) ≠ 0)) = true then
    if (inb (Int.tmod (IntKind.i64.wrap ((IntKind.i64.wrap (x73.2.2 + (a2.length : Int))) - (1 : Int))) (a2.length : Int)) a2.length) = true then
    (if (!x73.2.1) = true then go_spec_crOn k a0 (a2.getD (Int.tmod (IntKind.i64.wrap ((IntKind.i64.wrap (x73.2.2 + (a2.length : Int))) - (1 : Int))) (a2.length : Int)).toNat (0 : Int)) (a2.getD x73.2.2.toNat (0 : Int)) x59.1 else some false).bind fun r75 =>
    if (decide (a0.1 ≠ 0)) = true then
    if (decide (a0.1 ≠ 0)) = true then
    if (decide ((IntKind.i64.wrap (Int.tdiv (a2.getD x73.2.2.toNat (0 : Int)) a0.1)) < (IntKind.i64.wrap (Int.tdiv (a2.getD (Int.tmod (IntKind.i64.wrap ((IntKind.i64.wrap (x73.2.2 + (a2.length : Int))) - (1 : Int))) (a2.length : Int)).toNat (0 : Int)) a0.1)))) = true then
      if (decide (a0.1 ≠ 0)) = true then
      if (decide (a0.1 ≠ 0)) = true then
      if (!(decide ((IntKind.i64.wrap (Int.tdiv (a2.getD x73.2.2.toNat (0 : Int)) a0.1)) ≤ (IntKind.i64.wrap (Int.tdiv x59.1 a0.1)))) || (decide (a0.1 ≠ 0))) = true then
      if (!(decide ((IntKind.i64.wrap (Int.tdiv (a2.getD x73.2.2.toNat (0 : Int)) a0.1)) ≤ (IntKind.i64.wrap (Int.tdiv x59.1 a0.1)))) || (decide (a0.1 ≠ 0))) = true then
      (if ((decide ((IntKind.i64.wrap (Int.tdiv (a2.getD x73.2.2.toNat (0 : Int)) a0.1)) ≤ (IntKind.i64.wrap (Int.tdiv x59.1 a0.1)))) && (decide ((IntKind.i64.wrap (Int.tdiv x59.1 a0.1)) < (IntKind.i64.wrap (Int.tdiv (a2.getD (Int.tmod (IntKind.i64.wrap ((IntKind.i64.wrap (x73.2.2 + (a2.length : Int))) - (1 : Int))) (a2.length : Int)).toNat (0 : Int)) a0.1))))) = true then go_spec_crCross k a0 (a2.getD x73.2.2.toNat (0 : Int)) (a2.getD (Int.tmod (IntKind.i64.wrap ((IntKind.i64.wrap (x73.2.2 + (a2.length : Int))) - (1 : Int))) (a2.length : Int)).toNat (0 : Int)) x59.1 else some (0 : Int)).bind fun r76 =>
      if (((decide ((IntKind.i64.wrap (Int.tdiv (a2.getD x73.2.2.toNat (0 : Int)) a0.1)) ≤ (IntKind.i64.wrap (Int.tdiv x59.1 a0.1)))) && (decide ((IntKind.i64.wrap (Int.tdiv x59.1 a0.1)) < (IntKind.i64.wrap (Int.tdiv (a2.getD (Int.tmod (IntKind.i64.wrap ((IntKind.i64.wrap (x73.2.2 + (a2.length : Int))) - (1 : Int))) (a2.length : Int)).toNat (0 : Int)) a0.1))))) && (decide ((0 : Int) < r76))) = true then
        rec74 ((!x73.1), (x73.2.1 || r75), (IntKind.i64.wrap (x73.2.2 + (1 : Int))))
      else
        rec74 (x73.1, (x73.2.1 || r75), (IntKind.i64.wrap (x73.2.2 + (1 : Int))))
      else none
      else none
      else none
      else none
    else
      if (decide (a0.1 ≠ 0)) = true then
      if (decide (a0.1 ≠ 0)) = true then
      if (!(decide ((IntKind.i64.wrap (Int.tdiv (a2.getD (Int.tmod (IntKind.i64.wrap ((IntKind.i64.wrap (x73.2.2 + (a2.length : Int))) - (1 : Int))) (a2.length : Int)).toNat (0 : Int)) a0.1)) ≤ (IntKind.i64.wrap (Int.tdiv x59.1 a0.1)))) || (decide (a0.1 ≠ 0))) = true then
      if (!(decide ((IntKind.i64.wrap (Int.tdiv (a2.getD (Int.tmod (IntKind.i64.wrap ((IntKind.i64.wrap (x73.2.2 + (a2.length : Int))) - (1 : Int))) (a2.length : Int)).toNat (0 : Int)) a0.1)) ≤ (IntKind.i64.wrap (Int.tdiv x59.1 a0.1)))) || (decide (a0.1 ≠ 0))) = true then
      (if ((decide ((IntKind.i64.wrap (Int.tdiv (a2.getD (Int.tmod (IntKind.i64.wrap ((IntKind.i64.wrap (x73.2.2 + (a2.length : Int))) - (1 : Int))) (a2.length : Int)).toNat (0 : Int)) a0.1)) ≤ (IntKind.i64.wrap (Int.tdiv x59.1 a0.1)))) && (decide ((IntKind.i64.wrap (Int.tdiv x59.1 a0.1)) < (IntKind.i64.wrap (Int.tdiv (a2.getD x73.2.2.toNat (0 : Int)) a0.1))))) = true then go_spec_crCross k a0 (a2.getD (Int.tmod (IntKind.i64.wrap ((IntKind.i64.wrap (x73.2.2 + (a2.length : Int))) - (1 : Int))) (a2.length : Int)).toNat (0 : Int)) (a2.getD x73.2.2.toNat (0 : Int)) x59.1 else some (0 : Int)).bind fun r77 =>
      if (((decide ((IntKind.i64.wrap (Int.tdiv (a2.getD (Int.tmod (IntKind.i64.wrap ((IntKind.i64.wrap (x73.2.2 + (a2.length : Int))) - (1 : Int))) (a2.length : Int)).toNat (0 : Int)) a0.1)) ≤ (IntKind.i64.wrap (Int.tdiv x59.1 a0.1)))) && (decide ((IntKind.i64.wrap (Int.tdiv x59.1 a0.1)) < (IntKind.i64.wrap (Int.tdiv (a2.getD x73.2.2.toNat (0 : Int)) a0.1))))) && (decide ((0 : Int) < r77))) = true then
        rec74 ((!x73.1), (x73.2.1 || r75), (IntKind.i64.wrap (x73.2.2 + (1 : Int))))
      else
        rec74 (x73.1, (x73.2.1 || r75), (IntKind.i64.wrap (x73.2.2 + (1 : Int))))
      else none
      else none
      else none
      else none
    else none
    else none
    else none
    else none
    else none
  else
    if (x73.1 && (!x73.2.1)) = true then
      if (decide (x59.2.length + [x59.1].length ≤ LIM)) = true then
      rec60 ((IntKind.i64.wrap (x59.1 + (1 : Int))), (x59.2 ++ [x59.1]))
      else none
    else
      rec60 ((IntKind.i64.wrap (x59.1 + (1 : Int))), x59.2)
def go_spec_InsideRing_L1 (k : Nat) (a0 : (Int × (Int × ((List Int) × Unit)))) (a1 : (Int × (Int × Unit))) (a2 : (List Int)) (rec60 : (Int × (List Int)) → Option ((List Int) × (Bool × Unit))) (x59 : (Int × (List Int))) : (Bool × Bool × Int) → Option ((List Int) × (Bool × Unit)) :=
  iter k fun rec74 x73 => go_spec_InsideRing_L1_G k a0 a1 a2 x59 rec60 rec74 x73
theorem go_spec_InsideRing_L1_t (k : Nat) (a0 : (Int × (Int × ((List Int) × Unit)))) (a1 : (Int × (Int × Unit))) (a2 : (List Int)) (s0 : St → Option ((List Int) × (Bool × Unit))) (x59 : (Int × (List Int))) (x : (Bool × Bool × Int)) :
    iter k (loopAt (go_spec_InsideRing_C k) (bodyOf Go.Proofs.Try.f45) [1, 1, 1, 0, 1, 0, 0, 1, 0, 0, 1, 0, 1, 0] [s0] (finPure (go_spec_InsideRing_C k) Go.Proofs.Try.f45.results.toList true (.pr (.val (.sl I)) (.pr (.val .bool) .un)))) (go_spec_InsideRing_L1_E a0 a1 a2 x59 x) = go_spec_InsideRing_L1 k a0 a1 a2 (fun y => s0 (go_spec_InsideRing_L0_E a0 a1 a2 y)) x59 x := by
  refine iter_tie (G := fun rec x => go_spec_InsideRing_L1_G k a0 a1 a2 x59 (fun y => s0 (go_spec_InsideRing_L0_E a0 a1 a2 y)) rec x) (go_spec_InsideRing_L1_E a0 a1 a2 x59) (fun rec x => ?_) k x
  have h : loopAt (go_spec_InsideRing_C k) (bodyOf Go.Proofs.Try.f45) [1, 1, 1, 0, 1, 0, 0, 1, 0, 0, 1, 0, 1, 0] [s0] (finPure (go_spec_InsideRing_C k) Go.Proofs.Try.f45.results.toList true (.pr (.val (.sl I)) (.pr (.val .bool) .un))) rec (go_spec_InsideRing_L1_E a0 a1 a2 x59 x) = go_spec_InsideRing_L1_G k a0 a1 a2 x59 (fun y => s0 (go_spec_InsideRing_L0_E a0 a1 a2 y)) (fun y => rec (go_spec_InsideRing_L1_E a0 a1 a2 x59 y)) x := by kernel_rfl
  rw [h]
def go_spec_InsideRing_L0_G (k : Nat) (a0 : (Int × (Int × ((List Int) × Unit)))) (a1 : (Int × (Int × Unit))) (a2 : (List Int)) (l_1 : (Int × (List Int)) → (Bool × Bool × Int) → Option ((List Int) × (Bool × Unit))) (rec60 : (Int × (List Int)) → Option ((List Int) × (Bool × Unit))) (x59 : (Int × (List Int))) : Option ((List Int) × (Bool × Unit)) :=
  if (decide (x59.1 < (IntKind.i64.wrap (a0.1 * a0.2.1)))) = true then
    l_1 x59 (false, false, (0 : Int))
  else
    some (x59.2, (true, ()))
def go_spec_InsideRing_L0 (k : Nat) (a0 : (Int × (Int × ((List Int) × Unit)))) (a1 : (Int × (Int × Unit))) (a2 : (List Int)) : (Int × (List Int)) → Option ((List Int) × (Bool × Unit)) :=
  iter k fun rec60 x59 => go_spec_InsideRing_L0_G k a0 a1 a2 (fun c0 y => go_spec_InsideRing_L1 k a0 a1 a2 rec60 c0 y) rec60 x59
theorem go_spec_InsideRing_L0_t (k : Nat) (a0 : (Int × (Int × ((List Int) × Unit)))) (a1 : (Int × (Int × Unit))) (a2 : (List Int)) (x : (Int × (List Int))) :
    iter k (loopAt (go_spec_InsideRing_C k) (bodyOf Go.Proofs.Try.f45) [1, 1, 1, 0, 1, 0] [] (finPure (go_spec_InsideRing_C k) Go.Proofs.Try.f45.results.toList true (.pr (.val (.sl I)) (.pr (.val .bool) .un)))) (go_spec_InsideRing_L0_E a0 a1 a2 x) = go_spec_InsideRing_L0 k a0 a1 a2 x := by
  refine iter_tie (G := fun rec x => go_spec_InsideRing_L0_G k a0 a1 a2 (fun c0 y => go_spec_InsideRing_L1 k a0 a1 a2 rec c0 y) rec x) (go_spec_InsideRing_L0_E a0 a1 a2) (fun rec x => ?_) k x
  have h : loopAt (go_spec_InsideRing_C k) (bodyOf Go.Proofs.Try.f45) [1, 1, 1, 0, 1, 0] [] (finPure (go_spec_InsideRing_C k) Go.Proofs.Try.f45.results.toList true (.pr (.val (.sl I)) (.pr (.val .bool) .un))) rec (go_spec_InsideRing_L0_E a0 a1 a2 x) = go_spec_InsideRing_L0_G k a0 a1 a2 (fun c0 y => iter k (loopAt (go_spec_InsideRing_C k) (bodyOf Go.Proofs.Try.f45) [1, 1, 1, 0, 1, 0, 0, 1, 0, 0, 1, 0, 1, 0] [rec] (finPure (go_spec_InsideRing_C k) Go.Proofs.Try.f45.results.toList true (.pr (.val (.sl I)) (.pr (.val .bool) .un)))) (go_spec_InsideRing_L1_E a0 a1 a2 c0 y)) (fun y => rec (go_spec_InsideRing_L0_E a0 a1 a2 y)) x := by kernel_rfl
  have h0 : (fun c0 y => iter k (loopAt (go_spec_InsideRing_C k) (bodyOf Go.Proofs.Try.f45) [1, 1, 1, 0, 1, 0, 0, 1, 0, 0, 1, 0, 1, 0] [rec] (finPure (go_spec_InsideRing_C k) Go.Proofs.Try.f45.results.toList true (.pr (.val (.sl I)) (.pr (.val .bool) .un)))) (go_spec_InsideRing_L1_E a0 a1 a2 c0 y)) = (fun c0 y => go_spec_InsideRing_L1 k a0 a1 a2 (fun y => rec (go_spec_InsideRing_L0_E a0 a1 a2 y)) c0 y) := by
    funext c0 y
    exact go_spec_InsideRing_L1_t k a0 a1 a2 rec c0 y
  rw [h, h0]
def go_spec_InsideRing_T (k : Nat) (a0 : (Int × (Int × ((List Int) × Unit)))) (a1 : (Int × (Int × Unit))) (a2 : (List Int)) (l_0 : (Int × (List Int)) → Option ((List Int) × (Bool × Unit))) : Option ((List Int) × (Bool × Unit)) :=
  (go_spec_crAsked k a0 a1 a2).bind fun r1 =>
  if (!r1) = true then
    some ([], (false, ()))
  else
    l_0 ((0 : Int), [])
def go_spec_InsideRing (k : Nat) (a0 : (Int × (Int × ((List Int) × Unit)))) (a1 : (Int × (Int × Unit))) (a2 : (List Int)) : Option ((List Int) × (Bool × Unit)) :=
  go_spec_InsideRing_T k a0 a1 a2 (fun y => go_spec_InsideRing_L0 k a0 a1 a2 y)
theorem go_spec_InsideRing_t (k : Nat) (a0 : (Int × (Int × ((List Int) × Unit)))) (a1 : (Int × (Int × Unit))) (a2 : (List Int)) : runPure (go_spec_InsideRing_C k) (bodyOf Go.Proofs.Try.f45) Go.Proofs.Try.f45.results.toList true (.pr (.val (.pair I (.pair I (.pair (.sl I) .unit)))) (.pr (.val (.pair I (.pair I .unit))) (.pr (.val (.sl I)) .un))) (.pr (.val (.sl I)) (.pr (.val .bool) .un)) (a0, a1, a2, ()) = go_spec_InsideRing k a0 a1 a2 := by
  have h : runPure (go_spec_InsideRing_C k) (bodyOf Go.Proofs.Try.f45) Go.Proofs.Try.f45.results.toList true (.pr (.val (.pair I (.pair I (.pair (.sl I) .unit)))) (.pr (.val (.pair I (.pair I .unit))) (.pr (.val (.sl I)) .un))) (.pr (.val (.sl I)) (.pr (.val .bool) .un)) (a0, a1, a2, ()) = go_spec_InsideRing_T k a0 a1 a2 (fun y => iter k (loopAt (go_spec_InsideRing_C k) (bodyOf Go.Proofs.Try.f45) [1, 1, 1, 0, 1, 0] [] (finPure (go_spec_InsideRing_C k) Go.Proofs.Try.f45.results.toList true (.pr (.val (.sl I)) (.pr (.val .bool) .un)))) (go_spec_InsideRing_L0_E a0 a1 a2 y)) := by kernel_rfl
  have h0 : (fun y => iter k (loopAt (go_spec_InsideRing_C k) (bodyOf Go.Proofs.Try.f45) [1, 1, 1, 0, 1, 0] [] (finPure (go_spec_InsideRing_C k) Go.Proofs.Try.f45.results.toList true (.pr (.val (.sl I)) (.pr (.val .bool) .un)))) (go_spec_InsideRing_L0_E a0 a1 a2 y)) = (fun y => go_spec_InsideRing_L0 k a0 a1 a2 y) := by
    funext y
    exact go_spec_InsideRing_L0_t k a0 a1 a2 y
  rw [h, h0]
  rfl
def go_spec_InsideRing_S (k : Nat) : Spec := ⟨(.pr (.val (.pair I (.pair I (.pair (.sl I) .unit)))) (.pr (.val (.pair I (.pair I .unit))) (.pr (.val (.sl I)) .un))), (.pr (.val (.sl I)) (.pr (.val .bool) .un)), true, .inl fun x => go_spec_InsideRing k x.1 x.2.1 x.2.2.1⟩
theorem go_spec_InsideRing_F (k : Nat) : Fits Go.Proofs.Try.prog (go_spec_InsideRing_C k) 45 Go.Proofs.Try.f45 (bodyOf Go.Proofs.Try.f45) (.pr (.val (.pair I (.pair I (.pair (.sl I) .unit)))) (.pr (.val (.pair I (.pair I .unit))) (.pr (.val (.sl I)) .un))) (.pr (.val (.sl I)) (.pr (.val .bool) .un)) true :=
  ⟨th0, mixed0, by kernel_rfl, Go.Proofs.Try.func45, rfl, by kernel_rfl, rfl, rfl, rfl, rfl, rfl, rfl⟩
theorem go_spec_InsideRing_M (k : Nat) : Meets Go.Proofs.Try.prog 45 (go_spec_InsideRing_S k) :=
  meets_pure (go_spec_InsideRing_F k) (sigs_all (l := [(78, go_spec_crAsked_S k), (89, go_spec_crOn_S k), (90, go_spec_crCross_S k)]) rfl ⟨go_spec_crAsked_M k, ⟨go_spec_crOn_M k, ⟨go_spec_crCross_M k, trivial⟩⟩⟩) rfl fun x => go_spec_InsideRing_t k x.1 x.2.1 x.2.2.1

/-! ### (impl.Board).within -/
def go_impl_Board_within_C (k : Nat) : Ctx := { th := TH, se := SE, sg := [(92, go_impl_Board_at_S k), (128, go_impl_turn_S k), (129, go_impl_between_S k)], mu := [], an := [(3, [(1, false), (3, false), (5, false), (7, false), (12, false), (13, false), (14, false)])], dr := [(5, 15)], pre := [], d2 := [], m := 0, fx := [], n := 73, k := k }
def go_impl_Board_within_L0_E (a0 : (Int × (Int × ((List Int) × Unit)))) (a1 : (List Int)) (a2 : (Int × (Int × Unit))) (x15 : (Bool × Int)) : St :=
  ⟨[(1, .one (.val (.sl I) a1), []), (3, .one (.val (.pt (.pair I (.pair I (.pair (.sl I) .unit)))) (some a0)), []), (5, .one (.val (.pt (.pair I (.pair I .unit))) (some a2)), []), (7, .one (.val .bool x15.1), []), (12, .one (.val (.sl I) a1), []), (13, .one (.val I (a1.length : Int)), []), (14, .one (.val I x15.2), [])], [], []⟩
def go_impl_Board_within_L0_G (k : Nat) (a0 : (Int × (Int × ((List Int) × Unit)))) (a1 : (List Int)) (a2 : (Int × (Int × Unit))) (rec16 : (Bool × Int) → Option Bool) (x15 : (Bool × Int)) : Option Bool :=
  if (decide (x15.2 < (a1.length : Int))) = true then
    if (inb x15.2 a1.length) = true then
    (go_impl_Board_at k a0 (a1.getD x15.2.toNat (0 : Int))).bind fun r17 =>
    if (decide ((a1.length : Int) ≠ 0)) = true then
    if (inb (Int.tmod (IntKind.i64.wrap (x15.2 + (1 : Int))) (a1.length : Int)) a1.length) = true then
    (go_impl_Board_at k a0 (a1.getD (Int.tmod (IntKind.i64.wrap (x15.2 + (1 : Int))) (a1.length : Int)).toNat (0 : Int))).bind fun r18 =>
    (go_impl_turn k (r17.1, (r17.2.1, ())) (r18.1, (r18.2.1, ())) a2).bind fun r19 =>
    (if (decide (r19 = (0 : Int))) = true then go_impl_between k (r17.1, (r17.2.1, ())) (r18.1, (r18.2.1, ())) a2 else some false).bind fun r20 =>
    if ((decide (r19 = (0 : Int))) && r20) = true then
      some false
    else
      if (decide (r18.2.1 < r17.2.1)) = true then
        (if ((decide (r18.2.1 ≤ a2.2.1)) && (decide (a2.2.1 < r17.2.1))) = true then go_impl_turn k (r18.1, (r18.2.1, ())) (r17.1, (r17.2.1, ())) a2 else some (0 : Int)).bind fun r21 =>
        if (((decide (r18.2.1 ≤ a2.2.1)) && (decide (a2.2.1 < r17.2.1))) && (decide ((0 : Int) < r21))) = true then
          rec16 ((!x15.1), (IntKind.i64.wrap (x15.2 + (1 : Int))))
        else
          rec16 (x15.1, (IntKind.i64.wrap (x15.2 + (1 : Int))))
      else
        (if ((decide (r17.2.1 ≤ a2.2.1)) && (decide (a2.2.1 < r18.2.1))) = true then go_impl_turn k (r17.1, (r17.2.1, ())) (r18.1, (r18.2.1, ())) a2 else some (0 : Int)).bind fun r22 =>
        if (((decide (r17.2.1 ≤ a2.2.1)) && (decide (a2.2.1 < r18.2.1))) && (decide ((0 : Int) < r22))) = true then
          rec16 ((!x15.1), (IntKind.i64.wrap (x15.2 + (1 : Int))))
        else
          rec16 (x15.1, (IntKind.i64.wrap (x15.2 + (1 : Int))))
    else none
    else none
    else none
  else
    some x15.1
def go_impl_Board_within_L0 (k : Nat) (a0 : (Int × (Int × ((List Int) × Unit)))) (a1 : (List Int)) (a2 : (Int × (Int × Unit))) : (Bool × Int) → Option Bool :=
  iter k fun rec16 x15 => go_impl_Board_within_L0_G k a0 a1 a2 rec16 x15
theorem go_impl_Board_within_L0_t (k : Nat) (a0 : (Int × (Int × ((List Int) × Unit)))) (a1 : (List Int)) (a2 : (Int × (Int × Unit))) (x : (Bool × Int)) :
    iter k (loopAt (go_impl_Board_within_C k) (bodyOf Go.Proofs.Try.f91) [1, 1, 0, 1, 0] [] (finPure (go_impl_Board_within_C k) Go.Proofs.Try.f91.results.toList false (.val .bool))) (go_impl_Board_within_L0_E a0 a1 a2 x) = go_impl_Board_within_L0 k a0 a1 a2 x := by
  refine iter_tie (G := fun rec x => go_impl_Board_within_L0_G k a0 a1 a2 rec x) (go_impl_Board_within_L0_E a0 a1 a2) (fun rec x => ?_) k x
  have h : loopAt (go_impl_Board_within_C k) (bodyOf Go.Proofs.Try.f91) [1, 1, 0, 1, 0] [] (finPure (go_impl_Board_within_C k) Go.Proofs.Try.f91.results.toList false (.val .bool)) rec (go_impl_Board_within_L0_E a0 a1 a2 x) = go_impl_Board_within_L0_G k a0 a1 a2 (fun y => rec (go_impl_Board_within_L0_E a0 a1 a2 y)) x := by kernel_rfl
  rw [h]
def go_impl_Board_within_T (k : Nat) (a0 : (Int × (Int × ((List Int) × Unit)))) (a1 : (List Int)) (a2 : (Int × (Int × Unit))) (l_0 : (Bool × Int) → Option Bool) : Option Bool :=
  l_0 (false, (0 : Int))
def go_impl_Board_within (k : Nat) (a0 : (Int × (Int × ((List Int) × Unit)))) (a1 : (List Int)) (a2 : (Int × (Int × Unit))) : Option Bool :=
  go_impl_Board_within_T k a0 a1 a2 (fun y => go_impl_Board_within_L0 k a0 a1 a2 y)
theorem go_impl_Board_within_t (k : Nat) (a0 : (Int × (Int × ((List Int) × Unit)))) (a1 : (List Int)) (a2 : (Int × (Int × Unit))) : runPure (go_impl_Board_within_C k) (bodyOf Go.Proofs.Try.f91) Go.Proofs.Try.f91.results.toList false (.pr (.val (.pair I (.pair I (.pair (.sl I) .unit)))) (.pr (.val (.sl I)) (.pr (.val (.pair I (.pair I .unit))) .un))) (.val .bool) (a0, a1, a2, ()) = go_impl_Board_within k a0 a1 a2 := by
  have h : runPure (go_impl_Board_within_C k) (bodyOf Go.Proofs.Try.f91) Go.Proofs.Try.f91.results.toList false (.pr (.val (.pair I (.pair I (.pair (.sl I) .unit)))) (.pr (.val (.sl I)) (.pr (.val (.pair I (.pair I .unit))) .un))) (.val .bool) (a0, a1, a2, ()) = go_impl_Board_within_T k a0 a1 a2 (fun y => iter k (loopAt (go_impl_Board_within_C k) (bodyOf Go.Proofs.Try.f91) [1, 1, 0, 1, 0] [] (finPure (go_impl_Board_within_C k) Go.Proofs.Try.f91.results.toList false (.val .bool))) (go_impl_Board_within_L0_E a0 a1 a2 y)) := by kernel_rfl
  have h0 : (fun y => iter k (loopAt (go_impl_Board_within_C k) (bodyOf Go.Proofs.Try.f91) [1, 1, 0, 1, 0] [] (finPure (go_impl_Board_within_C k) Go.Proofs.Try.f91.results.toList false (.val .bool))) (go_impl_Board_within_L0_E a0 a1 a2 y)) = (fun y => go_impl_Board_within_L0 k a0 a1 a2 y) := by
    funext y
    exact go_impl_Board_within_L0_t k a0 a1 a2 y
  rw [h, h0]
  rfl
def go_impl_Board_within_S (k : Nat) : Spec := ⟨(.pr (.val (.pair I (.pair I (.pair (.sl I) .unit)))) (.pr (.val (.sl I)) (.pr (.val (.pair I (.pair I .unit))) .un))), (.val .bool), false, .inl fun x => go_impl_Board_within k x.1 x.2.1 x.2.2.1⟩
theorem go_impl_Board_within_F (k : Nat) : Fits Go.Proofs.Try.prog (go_impl_Board_within_C k) 91 Go.Proofs.Try.f91 (bodyOf Go.Proofs.Try.f91) (.pr (.val (.pair I (.pair I (.pair (.sl I) .unit)))) (.pr (.val (.sl I)) (.pr (.val (.pair I (.pair I .unit))) .un))) (.val .bool) false :=
  ⟨th0, mixed0, by kernel_rfl, Go.Proofs.Try.func91, rfl, by kernel_rfl, rfl, rfl, rfl, rfl, rfl, rfl⟩
theorem go_impl_Board_within_M (k : Nat) : Meets Go.Proofs.Try.prog 91 (go_impl_Board_within_S k) :=
  meets_pure (go_impl_Board_within_F k) (sigs_all (l := [(92, go_impl_Board_at_S k), (128, go_impl_turn_S k), (129, go_impl_between_S k)]) rfl ⟨go_impl_Board_at_M k, ⟨go_impl_turn_M k, ⟨go_impl_between_M k, trivial⟩⟩⟩) rfl fun x => go_impl_Board_within_t k x.1 x.2.1 x.2.2.1

/-! ### impl.InsideRing -/
def go_impl_InsideRing_C (k : Nat) : Ctx := { th := TH, se := SE, sg := [(80, go_impl_ringGraph_S k), (92, go_impl_Board_at_S k), (91, go_impl_Board_within_S k)], mu := [], an := [(6, [(2, false), (3, false), (10, true), (25, false), (26, false)])], dr := [(8, 5)], pre := [], d2 := [], m := 0, fx := [], n := 41, k := k }
def go_impl_InsideRing_L0_E (a0 : (Int × (Int × ((List Int) × Unit)))) (a1 : (Int × (Int × Unit))) (a2 : (List Int)) (x14 : (Int × (List Int))) : St :=
  ⟨[(2, .one (.val (.sl I) a2), []), (3, .one (.val (.pt (.pair I (.pair I (.pair (.sl I) .unit)))) (some a0)), []), (10, .one (.own 0), []), (25, .one (.val I (IntKind.i64.wrap (a0.1 * a0.2.1))), []), (26, .one (.val I x14.1), [])], [.arr 3 I x14.2], []⟩
def go_impl_InsideRing_L0_G (k : Nat) (a0 : (Int × (Int × ((List Int) × Unit)))) (a1 : (Int × (Int × Unit))) (a2 : (List Int)) (rec15 : (Int × (List Int)) → Option ((List Int) × (Bool × Unit))) (x14 : (Int × (List Int))) : Option ((List Int) × (Bool × Unit)) :=
  if (decide (x14.1 < (IntKind.i64.wrap (a0.1 * a0.2.1)))) = true then
    (go_impl_Board_at k a0 x14.1).bind fun r16 =>
    (go_impl_Board_within k a0 a2 r16).bind fun r17 =>
    if r17 = true then
      if (decide (x14.2.length + [x14.1].length ≤ LIM)) = true then
      rec15 ((IntKind.i64.wrap (x14.1 + (1 : Int))), (x14.2 ++ [x14.1]))
      else none
    else
      rec15 ((IntKind.i64.wrap (x14.1 + (1 : Int))), x14.2)
  else
    some (x14.2, (true, ()))
def go_impl_InsideRing_L0 (k : Nat) (a0 : (Int × (Int × ((List Int) × Unit)))) (a1 : (Int × (Int × Unit))) (a2 : (List Int)) : (Int × (List Int)) → Option ((List Int) × (Bool × Unit)) :=
  iter k fun rec15 x14 => go_impl_InsideRing_L0_G k a0 a1 a2 rec15 x14
theorem go_impl_InsideRing_L0_t (k : Nat) (a0 : (Int × (Int × ((List Int) × Unit)))) (a1 : (Int × (Int × Unit))) (a2 : (List Int)) (x : (Int × (List Int))) :
    iter k (loopAt (go_impl_InsideRing_C k) (bodyOf Go.Proofs.Try.f46) [1, 1, 1, 1, 0, 1, 0] [] (finPure (go_impl_InsideRing_C k) Go.Proofs.Try.f46.results.toList true (.pr (.own 3 I) (.pr (.val .bool) .un)))) (go_impl_InsideRing_L0_E a0 a1 a2 x) = go_impl_InsideRing_L0 k a0 a1 a2 x := by
  refine iter_tie (G := fun rec x => go_impl_InsideRing_L0_G k a0 a1 a2 rec x) (go_impl_InsideRing_L0_E a0 a1 a2) (fun rec x => ?_) k x
  have h : loopAt (go_impl_InsideRing_C k) (bodyOf Go.Proofs.Try.f46) [1, 1, 1, 1, 0, 1, 0] [] (finPure (go_impl_InsideRing_C k) Go.Proofs.Try.f46.results.toList true (.pr (.own 3 I) (.pr (.val .bool) .un))) rec (go_impl_InsideRing_L0_E a0 a1 a2 x) = go_impl_InsideRing_L0_G k a0 a1 a2 (fun y => rec (go_impl_InsideRing_L0_E a0 a1 a2 y)) x := by kernel_rfl
  rw [h]
def go_impl_InsideRing_T (k : Nat) (a0 : (Int × (Int × ((List Int) × Unit)))) (a1 : (Int × (Int × Unit))) (a2 : (List Int)) (l_0 : (Int × (List Int)) → Option ((List Int) × (Bool × Unit))) : Option ((List Int) × (Bool × Unit)) :=
  (go_impl_ringGraph k a0 a1 a2).bind fun r1 =>
  if (!r1.2.1) = true then
    some ([], (false, ()))
  else
    l_0 ((0 : Int), [])
def go_impl_InsideRing (k : Nat) (a0 : (Int × (Int × ((List Int) × Unit)))) (a1 : (Int × (Int × Unit))) (a2 : (List Int)) : Option ((List Int) × (Bool × Unit)) :=
  go_impl_InsideRing_T k a0 a1 a2 (fun y => go_impl_InsideRing_L0 k a0 a1 a2 y)
theorem go_impl_InsideRing_t (k : Nat) (a0 : (Int × (Int × ((List Int) × Unit)))) (a1 : (Int × (Int × Unit))) (a2 : (List Int)) : runPure (go_impl_InsideRing_C k) (bodyOf Go.Proofs.Try.f46) Go.Proofs.Try.f46.results.toList true (.pr (.val (.pair I (.pair I (.pair (.sl I) .unit)))) (.pr (.val (.pair I (.pair I .unit))) (.pr (.val (.sl I)) .un))) (.pr (.own 3 I) (.pr (.val .bool) .un)) (a0, a1, a2, ()) = go_impl_InsideRing k a0 a1 a2 := by
  have h : runPure (go_impl_InsideRing_C k) (bodyOf Go.Proofs.Try.f46) Go.Proofs.Try.f46.results.toList true (.pr (.val (.pair I (.pair I (.pair (.sl I) .unit)))) (.pr (.val (.pair I (.pair I .unit))) (.pr (.val (.sl I)) .un))) (.pr (.own 3 I) (.pr (.val .bool) .un)) (a0, a1, a2, ()) = go_impl_InsideRing_T k a0 a1 a2 (fun y => iter k (loopAt (go_impl_InsideRing_C k) (bodyOf Go.Proofs.Try.f46) [1, 1, 1, 1, 0, 1, 0] [] (finPure (go_impl_InsideRing_C k) Go.Proofs.Try.f46.results.toList true (.pr (.own 3 I) (.pr (.val .bool) .un)))) (go_impl_InsideRing_L0_E a0 a1 a2 y)) := by kernel_rfl
  have h0 : (fun y => iter k (loopAt (go_impl_InsideRing_C k) (bodyOf Go.Proofs.Try.f46) [1, 1, 1, 1, 0, 1, 0] [] (finPure (go_impl_InsideRing_C k) Go.Proofs.Try.f46.results.toList true (.pr (.own 3 I) (.pr (.val .bool) .un)))) (go_impl_InsideRing_L0_E a0 a1 a2 y)) = (fun y => go_impl_InsideRing_L0 k a0 a1 a2 y) := by
    funext y
    exact go_impl_InsideRing_L0_t k a0 a1 a2 y
  rw [h, h0]
  rfl
def go_impl_InsideRing_S (k : Nat) : Spec := ⟨(.pr (.val (.pair I (.pair I (.pair (.sl I) .unit)))) (.pr (.val (.pair I (.pair I .unit))) (.pr (.val (.sl I)) .un))), (.pr (.own 3 I) (.pr (.val .bool) .un)), true, .inl fun x => go_impl_InsideRing k x.1 x.2.1 x.2.2.1⟩
theorem go_impl_InsideRing_F (k : Nat) : Fits Go.Proofs.Try.prog (go_impl_InsideRing_C k) 46 Go.Proofs.Try.f46 (bodyOf Go.Proofs.Try.f46) (.pr (.val (.pair I (.pair I (.pair (.sl I) .unit)))) (.pr (.val (.pair I (.pair I .unit))) (.pr (.val (.sl I)) .un))) (.pr (.own 3 I) (.pr (.val .bool) .un)) true :=
  ⟨th0, mixed0, by kernel_rfl, Go.Proofs.Try.func46, rfl, by kernel_rfl, rfl, rfl, rfl, rfl, rfl, rfl⟩
theorem go_impl_InsideRing_M (k : Nat) : Meets Go.Proofs.Try.prog 46 (go_impl_InsideRing_S k) :=
  meets_pure (go_impl_InsideRing_F k) (sigs_all (l := [(80, go_impl_ringGraph_S k), (92, go_impl_Board_at_S k), (91, go_impl_Board_within_S k)]) rfl ⟨go_impl_ringGraph_M k, ⟨go_impl_Board_at_M k, ⟨go_impl_Board_within_M k, trivial⟩⟩⟩) rfl fun x => go_impl_InsideRing_t k x.1 x.2.1 x.2.2.1

/-! ### laws.FnExactInsideRing -/
def go_laws_FnExactInsideRing_C (k : Nat) : Ctx := { th := TH, se := SE, sg := [(15, go_laws_szBoard_S k), (17, go_laws_toBoard_S k), (18, go_laws_toLeaper_S k), (19, go_laws_toIntS_S k), (45, go_spec_InsideRing_S k), (46, go_impl_InsideRing_S k), (22, go_laws_eqIntS_S k), (21, go_laws_eqBoard_S k), (25, go_laws_markBoard_S k), (26, go_laws_markIntS_S k), (27, go_laws_heldIntS_S k)], mu := [38, 40, 46], an := [], dr := [(7, 11), (10, 4), (13, 3), (30, 11)], pre := [], d2 := [10], m := 0, fx := [], n := 125, k := k }
def go_laws_FnExactInsideRing (k : Nat) (a0 : (Int × (Int × ((List Int) × Unit)))) (a1 : (Int × (Int × Unit))) (a2 : (List Int)) : Option Bool :=
  if (decide ((1048576 : Int) < (a2.length : Int))) = true then
    some true
  else
    (go_laws_szBoard k a0 (1048576 : Int)).bind fun r1 =>
    if (decide (r1 < (0 : Int))) = true then
      some true
    else
      (go_laws_toBoard k a0).bind fun r2 =>
      (go_laws_toLeaper k a1).bind fun r3 =>
      (go_laws_toIntS k a2).bind fun r4 =>
      (go_spec_InsideRing k (r2.1, (r2.2.1, (r2.2.2.1, ()))) r3 r4).bind fun r5 =>
      (go_laws_toBoard k a0).bind fun r6 =>
      (go_laws_toIntS k a2).bind fun r7 =>
      (go_laws_toLeaper k a1).bind fun r8 =>
      (go_impl_InsideRing k (r6.1, (r6.2.1, (r6.2.2.1, ()))) r8 r7).bind fun r9 =>
      (go_laws_eqIntS k r9.1 r5.1).bind fun r10 =>
      if ((!r10) || (r9.2.1 != r5.2.1)) = true then
        some false
      else
        (go_laws_toBoard k a0).bind fun r11 =>
        (go_laws_eqBoard k (r6.1, (r6.2.1, (r6.2.2.1, ()))) (r11.1, (r11.2.1, (r11.2.2.1, ())))).bind fun r12 =>
        if (!r12) = true then
          some false
        else
          (go_laws_toIntS k a2).bind fun r13 =>
          (go_laws_eqIntS k r7 r13).bind fun r14 =>
          if (!r14) = true then
            some false
          else
            (go_laws_markBoard k (r6.1, (r6.2.1, (r6.2.2.1, ()))) (1 : Int)).bind fun r15 =>
            (go_laws_markIntS k r7 r15.1).bind fun r16 =>
            (if (!(decide (r16.1 < (0 : Int)))) = true then go_laws_eqIntS k r9.1 r5.1 else some false).bind fun r17 =>
            if (((decide (r16.1 < (0 : Int))) || (!r17)) || (r9.2.1 != r5.2.1)) = true then
              some false
            else
              (go_laws_markIntS k r9.1 (1 : Int)).bind fun r18 =>
              (go_laws_heldIntS k r18.2.1 (1 : Int)).bind fun r19 =>
              if (decide (r19 < (0 : Int))) = true then
                some false
              else
                if (!decide (r19 = r18.1)) = true then
                  some false
                else
                  (go_laws_toBoard k a0).bind fun r20 =>
                  (go_laws_toLeaper k a1).bind fun r21 =>
                  (go_laws_toIntS k a2).bind fun r22 =>
                  (go_impl_InsideRing k (r20.1, (r20.2.1, (r20.2.2.1, ()))) r21 r22).bind fun r23 =>
                  (go_laws_eqIntS k r23.1 r5.1).bind fun r24 =>
                  if ((!r24) || (r23.2.1 != r5.2.1)) = true then
                    some false
                  else
                    (go_laws_heldIntS k r18.2.1 (1 : Int)).bind fun r25 =>
                    if (decide (r25 < (0 : Int))) = true then
                      some false
                    else
                      if (!decide (r25 = r18.1)) = true then
                        some false
                      else
                        some true
theorem go_laws_FnExactInsideRing_t (k : Nat) (a0 : (Int × (Int × ((List Int) × Unit)))) (a1 : (Int × (Int × Unit))) (a2 : (List Int)) : runPure (go_laws_FnExactInsideRing_C k) (bodyOf Go.Proofs.Try.f12) Go.Proofs.Try.f12.results.toList false (.pr (.val (.pair I (.pair I (.pair (.sl I) .unit)))) (.pr (.val (.pair I (.pair I .unit))) (.pr (.val (.sl I)) .un))) (.val .bool) (a0, a1, a2, ()) = go_laws_FnExactInsideRing k a0 a1 a2 := by kernel_rfl
def go_laws_FnExactInsideRing_S (k : Nat) : Spec := ⟨(.pr (.val (.pair I (.pair I (.pair (.sl I) .unit)))) (.pr (.val (.pair I (.pair I .unit))) (.pr (.val (.sl I)) .un))), (.val .bool), false, .inl fun x => go_laws_FnExactInsideRing k x.1 x.2.1 x.2.2.1⟩
theorem go_laws_FnExactInsideRing_F (k : Nat) : Fits Go.Proofs.Try.prog (go_laws_FnExactInsideRing_C k) 12 Go.Proofs.Try.f12 (bodyOf Go.Proofs.Try.f12) (.pr (.val (.pair I (.pair I (.pair (.sl I) .unit)))) (.pr (.val (.pair I (.pair I .unit))) (.pr (.val (.sl I)) .un))) (.val .bool) false :=
  ⟨th0, mixed0, by kernel_rfl, Go.Proofs.Try.func12, rfl, by kernel_rfl, rfl, rfl, rfl, rfl, rfl, rfl⟩
theorem go_laws_FnExactInsideRing_M (k : Nat) : Meets Go.Proofs.Try.prog 12 (go_laws_FnExactInsideRing_S k) :=
  meets_pure (go_laws_FnExactInsideRing_F k) (sigs_all (l := [(15, go_laws_szBoard_S k), (17, go_laws_toBoard_S k), (18, go_laws_toLeaper_S k), (19, go_laws_toIntS_S k), (45, go_spec_InsideRing_S k), (46, go_impl_InsideRing_S k), (22, go_laws_eqIntS_S k), (21, go_laws_eqBoard_S k), (25, go_laws_markBoard_S k), (26, go_laws_markIntS_S k), (27, go_laws_heldIntS_S k)]) rfl ⟨go_laws_szBoard_M k, ⟨go_laws_toBoard_M k, ⟨go_laws_toLeaper_M k, ⟨go_laws_toIntS_M k, ⟨go_spec_InsideRing_M k, ⟨go_impl_InsideRing_M k, ⟨go_laws_eqIntS_M k, ⟨go_laws_eqBoard_M k, ⟨go_laws_markBoard_M k, ⟨go_laws_markIntS_M k, ⟨go_laws_heldIntS_M k, trivial⟩⟩⟩⟩⟩⟩⟩⟩⟩⟩⟩) rfl fun x => go_laws_FnExactInsideRing_t k x.1 x.2.1 x.2.2.1

end
end Go.Lg
