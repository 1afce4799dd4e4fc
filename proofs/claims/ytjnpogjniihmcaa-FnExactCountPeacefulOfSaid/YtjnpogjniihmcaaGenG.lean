/-
  Printed by program: what the functions of the code compute (go_laws_FnExactCountPeaceful, go_laws_FnExactCountPeacefulOf, go_laws_FnExactFewestGuards, go_laws_FnExactCountFewest, go_laws_FnExactCountMost, go_laws_FnExactFewestPeacefulGuards, go_laws_FnExactMostPeaceful, go_laws_FnExactFirstGuards).
-/
import Derived.Test.YtjnpogjniihmcaaGenA
set_option linter.unusedVariables false
namespace Go.Lg
open Go.RowKit
noncomputable section
/-! ### spec.guFew -/
def go_spec_guFew_C (k : Nat) : Ctx := { th := TH, se := SE, sg := [(52, go_spec_boTwo_S k), (54, go_spec_boCells_S k)], mu := [], an := [], dr := [], pre := [], d2 := [], m := 0, fx := [], n := 14, k := k }
def go_spec_guFew (k : Nat) (a0 : (Int × (Int × ((List Int) × Unit)))) (a1 : (Int × (Int × Unit))) : Option Bool :=
  (go_spec_boTwo k a0 a1).bind fun r1 =>
  (if r1 = true then go_spec_boCells k a0 else some []).bind fun r2 =>
  some (r1 && (decide ((r2.length : Int) ≤ (16 : Int))))
theorem go_spec_guFew_t (k : Nat) (a0 : (Int × (Int × ((List Int) × Unit)))) (a1 : (Int × (Int × Unit))) : runPure (go_spec_guFew_C k) (bodyOf Go.Proofs.Try.f59) Go.Proofs.Try.f59.results.toList false (.pr (.val (.pair I (.pair I (.pair (.sl I) .unit)))) (.pr (.val (.pair I (.pair I .unit))) .un)) (.val .bool) (a0, a1, ()) = go_spec_guFew k a0 a1 := by kernel_rfl
def go_spec_guFew_S (k : Nat) : Spec := ⟨(.pr (.val (.pair I (.pair I (.pair (.sl I) .unit)))) (.pr (.val (.pair I (.pair I .unit))) .un)), (.val .bool), false, .inl fun x => go_spec_guFew k x.1 x.2.1⟩
theorem go_spec_guFew_F (k : Nat) : Fits Go.Proofs.Try.prog (go_spec_guFew_C k) 59 Go.Proofs.Try.f59 (bodyOf Go.Proofs.Try.f59) (.pr (.val (.pair I (.pair I (.pair (.sl I) .unit)))) (.pr (.val (.pair I (.pair I .unit))) .un)) (.val .bool) false :=
  ⟨th0, mixed0, by kernel_rfl, Go.Proofs.Try.func59, rfl, by kernel_rfl, rfl, rfl, rfl, rfl, rfl, rfl⟩
theorem go_spec_guFew_M (k : Nat) : Meets Go.Proofs.Try.prog 59 (go_spec_guFew_S k) :=
  meets_pure (go_spec_guFew_F k) (sigs_all (l := [(52, go_spec_boTwo_S k), (54, go_spec_boCells_S k)]) rfl ⟨go_spec_boTwo_M k, ⟨go_spec_boCells_M k, trivial⟩⟩) rfl fun x => go_spec_guFew_t k x.1 x.2.1

/-! ### spec.guNew -/
def go_spec_guNew_C (k : Nat) : Ctx := { th := TH, se := SE, sg := [(54, go_spec_boCells_S k), (99, go_spec_boIs_S k)], mu := [], an := [(3, [(2, false), (3, false), (4, false), (5, true), (15, false), (16, false), (17, false)]), (7, [(2, false), (3, false), (4, false), (5, false), (7, false), (8, false), (15, false), (16, false), (17, false), (25, false), (26, false), (27, false)])], dr := [], pre := [], d2 := [], m := 0, fx := [], n := 50, k := k }
def go_spec_guNew_L0_E (a0 : (Int × (Int × ((List Int) × Unit)))) (a1 : (Int × (Int × Unit))) (r1 : (List Int)) (x35 : (Int × (List Int))) : St :=
  ⟨[(2, .one (.val (.pt (.pair I (.pair I (.pair (.sl I) .unit)))) (some a0)), []), (3, .one (.val (.pt (.pair I (.pair I .unit))) (some a1)), []), (4, .one (.bx 0 0 (.pair (.sl I) (.pair (.sl I) .unit))), []), (5, .one (.bx 1 0 (.pair (.sl I) (.pair (.sl I) .unit))), []), (15, .one (.val (.sl I) r1), []), (16, .one (.val I (r1.length : Int)), []), (17, .one (.val I x35.1), [])], [.box (.pr (.nsl 3 I) (.pr (.nsl 3 I) .un)), .box (.pr (.val (.sl I) r1) (.pr (.own 2) .un)), .arr 3 I x35.2], []⟩
def go_spec_guNew_L1_E (a0 : (Int × (Int × ((List Int) × Unit)))) (a1 : (Int × (Int × Unit))) (r1 : (List Int)) (x35 : (Int × (List Int))) (x43 : (Int × Int)) : St :=
  ⟨[(2, .one (.val (.pt (.pair I (.pair I (.pair (.sl I) .unit)))) (some a0)), []), (3, .one (.val (.pt (.pair I (.pair I .unit))) (some a1)), []), (4, .one (.bx 0 0 (.pair (.sl I) (.pair (.sl I) .unit))), []), (5, .one (.bx 1 0 (.pair (.sl I) (.pair (.sl I) .unit))), []), (7, .one (.val I (r1.getD x35.1.toNat (0 : Int))), []), (8, .one (.val I x43.1), []), (15, .one (.val (.sl I) r1), []), (16, .one (.val I (r1.length : Int)), []), (17, .one (.val I x35.1), []), (25, .one (.val (.sl I) r1), []), (26, .one (.val I (r1.length : Int)), []), (27, .one (.val I x43.2), [])], [.box (.pr (.nsl 3 I) (.pr (.nsl 3 I) .un)), .box (.pr (.val (.sl I) r1) (.pr (.own 2) .un)), .arr 3 I x35.2], []⟩
def go_spec_guNew_L1_G (k : Nat) (a0 : (Int × (Int × ((List Int) × Unit)))) (a1 : (Int × (Int × Unit))) (r1 : (List Int)) (x35 : (Int × (List Int))) (rec36 : (Int × (List Int)) → Option ((List Int) × ((List Int) × Unit))) (rec44 : (Int × Int) → Option ((List Int) × ((List Int) × Unit))) (x43 : (Int × Int)) : Option ((List Int) × ((List Int) × Unit)) :=
  if (decide (x43.2 < (r1.length : Int))) = true then
    if (inb x43.2 r1.length) = true then
    (go_spec_boIs k a0 a1 (r1.getD x35.1.toNat (0 : Int)) (r1.getD x43.2.toNat (0 : Int))).bind fun r45 =>
    if r45 = true then
      if (decide (0 ≤ x43.2)) = true then
      rec44 ((IntKind.i64.wrap (((BitVec.ofInt (IntKind.i64.bits) x43.1 ||| BitVec.ofInt (IntKind.i64.bits) (IntKind.i64.wrap ((1 : Int) * 2 ^ (min x43.2.toNat (IntKind.i64.bits))))).toNat : Int))), (IntKind.i64.wrap (x43.2 + (1 : Int))))
      else none
    else
      rec44 (x43.1, (IntKind.i64.wrap (x43.2 + (1 : Int))))
    else none
  else
    if (decide (x35.2.length + [x43.1].length ≤ LIM)) = true then
    rec36 ((IntKind.i64.wrap (x35.1 + (1 : Int))), (x35.2 ++ [x43.1]))
    else none
def go_spec_guNew_L1 (k : Nat) (a0 : (Int × (Int × ((List Int) × Unit)))) (a1 : (Int × (Int × Unit))) (rec36 : (Int × (List Int)) → Option ((List Int) × ((List Int) × Unit))) (r1 : (List Int)) (x35 : (Int × (List Int))) : (Int × Int) → Option ((List Int) × ((List Int) × Unit)) :=
  iter k fun rec44 x43 => go_spec_guNew_L1_G k a0 a1 r1 x35 rec36 rec44 x43
theorem go_spec_guNew_L1_t (k : Nat) (a0 : (Int × (Int × ((List Int) × Unit)))) (a1 : (Int × (Int × Unit))) (s0 : St → Option ((List Int) × ((List Int) × Unit))) (r1 : (List Int)) (x35 : (Int × (List Int))) (x : (Int × Int)) :
    iter k (loopAt (go_spec_guNew_C k) (bodyOf Go.Proofs.Try.f86) [1, 1, 0, 1, 0, 0, 1, 1, 0, 0, 1, 1, 0, 1, 0] [s0] (finPure (go_spec_guNew_C k) Go.Proofs.Try.f86.results.toList false (.val (.pair (.sl I) (.pair (.sl I) .unit))))) (go_spec_guNew_L1_E a0 a1 r1 x35 x) = go_spec_guNew_L1 k a0 a1 (fun y => s0 (go_spec_guNew_L0_E a0 a1 r1 y)) r1 x35 x := by
  refine iter_tie (G := fun rec x => go_spec_guNew_L1_G k a0 a1 r1 x35 (fun y => s0 (go_spec_guNew_L0_E a0 a1 r1 y)) rec x) (go_spec_guNew_L1_E a0 a1 r1 x35) (fun rec x => ?_) k x
  have h : loopAt (go_spec_guNew_C k) (bodyOf Go.Proofs.Try.f86) [1, 1, 0, 1, 0, 0, 1, 1, 0, 0, 1, 1, 0, 1, 0] [s0] (finPure (go_spec_guNew_C k) Go.Proofs.Try.f86.results.toList false (.val (.pair (.sl I) (.pair (.sl I) .unit)))) rec (go_spec_guNew_L1_E a0 a1 r1 x35 x) = go_spec_guNew_L1_G k a0 a1 r1 x35 (fun y => s0 (go_spec_guNew_L0_E a0 a1 r1 y)) (fun y => rec (go_spec_guNew_L1_E a0 a1 r1 x35 y)) x := by kernel_rfl
  rw [h]
def go_spec_guNew_L0_G (k : Nat) (a0 : (Int × (Int × ((List Int) × Unit)))) (a1 : (Int × (Int × Unit))) (r1 : (List Int)) (l_1 : (Int × (List Int)) → (Int × Int) → Option ((List Int) × ((List Int) × Unit))) (rec36 : (Int × (List Int)) → Option ((List Int) × ((List Int) × Unit))) (x35 : (Int × (List Int))) : Option ((List Int) × ((List Int) × Unit)) :=
  if (decide (x35.1 < (r1.length : Int))) = true then
    if (inb x35.1 r1.length) = true then
    if (decide (0 ≤ x35.1)) = true then
    l_1 x35 ((IntKind.i64.wrap ((1 : Int) * 2 ^ (min x35.1.toNat (IntKind.i64.bits)))), (0 : Int))
    else none
    else none
  else
    some (r1, (x35.2, ()))
def go_spec_guNew_L0 (k : Nat) (a0 : (Int × (Int × ((List Int) × Unit)))) (a1 : (Int × (Int × Unit))) (r1 : (List Int)) : (Int × (List Int)) → Option ((List Int) × ((List Int) × Unit)) :=
  iter k fun rec36 x35 => go_spec_guNew_L0_G k a0 a1 r1 (fun c0 y => go_spec_guNew_L1 k a0 a1 rec36 r1 c0 y) rec36 x35
theorem go_spec_guNew_L0_t (k : Nat) (a0 : (Int × (Int × ((List Int) × Unit)))) (a1 : (Int × (Int × Unit))) (r1 : (List Int)) (x : (Int × (List Int))) :
    iter k (loopAt (go_spec_guNew_C k) (bodyOf Go.Proofs.Try.f86) [1, 1, 0, 1, 0] [] (finPure (go_spec_guNew_C k) Go.Proofs.Try.f86.results.toList false (.val (.pair (.sl I) (.pair (.sl I) .unit))))) (go_spec_guNew_L0_E a0 a1 r1 x) = go_spec_guNew_L0 k a0 a1 r1 x := by
  refine iter_tie (G := fun rec x => go_spec_guNew_L0_G k a0 a1 r1 (fun c0 y => go_spec_guNew_L1 k a0 a1 rec r1 c0 y) rec x) (go_spec_guNew_L0_E a0 a1 r1) (fun rec x => ?_) k x
  have h : loopAt (go_spec_guNew_C k) (bodyOf Go.Proofs.Try.f86) [1, 1, 0, 1, 0] [] (finPure (go_spec_guNew_C k) Go.Proofs.Try.f86.results.toList false (.val (.pair (.sl I) (.pair (.sl I) .unit)))) rec (go_spec_guNew_L0_E a0 a1 r1 x) = go_spec_guNew_L0_G k a0 a1 r1 (fun c0 y => iter k (loopAt (go_spec_guNew_C k) (bodyOf Go.Proofs.Try.f86) [1, 1, 0, 1, 0, 0, 1, 1, 0, 0, 1, 1, 0, 1, 0] [rec] (finPure (go_spec_guNew_C k) Go.Proofs.Try.f86.results.toList false (.val (.pair (.sl I) (.pair (.sl I) .unit))))) (go_spec_guNew_L1_E a0 a1 r1 c0 y)) (fun y => rec (go_spec_guNew_L0_E a0 a1 r1 y)) x := by kernel_rfl
  have h0 : (fun c0 y => iter k (loopAt (go_spec_guNew_C k) (bodyOf Go.Proofs.Try.f86) [1, 1, 0, 1, 0, 0, 1, 1, 0, 0, 1, 1, 0, 1, 0] [rec] (finPure (go_spec_guNew_C k) Go.Proofs.Try.f86.results.toList false (.val (.pair (.sl I) (.pair (.sl I) .unit))))) (go_spec_guNew_L1_E a0 a1 r1 c0 y)) = (fun c0 y => go_spec_guNew_L1 k a0 a1 (fun y => rec (go_spec_guNew_L0_E a0 a1 r1 y)) r1 c0 y) := by
    funext c0 y
    exact go_spec_guNew_L1_t k a0 a1 rec r1 c0 y
  rw [h, h0]
def go_spec_guNew_T (k : Nat) (a0 : (Int × (Int × ((List Int) × Unit)))) (a1 : (Int × (Int × Unit))) (l_0 : (List Int) → (Int × (List Int)) → Option ((List Int) × ((List Int) × Unit))) : Option ((List Int) × ((List Int) × Unit)) :=
  (go_spec_boCells k a0).bind fun r1 =>
  l_0 r1 ((0 : Int), [])
def go_spec_guNew (k : Nat) (a0 : (Int × (Int × ((List Int) × Unit)))) (a1 : (Int × (Int × Unit))) : Option ((List Int) × ((List Int) × Unit)) :=
  go_spec_guNew_T k a0 a1 (fun r1 y => go_spec_guNew_L0 k a0 a1 r1 y)
theorem go_spec_guNew_t (k : Nat) (a0 : (Int × (Int × ((List Int) × Unit)))) (a1 : (Int × (Int × Unit))) : runPure (go_spec_guNew_C k) (bodyOf Go.Proofs.Try.f86) Go.Proofs.Try.f86.results.toList false (.pr (.val (.pair I (.pair I (.pair (.sl I) .unit)))) (.pr (.val (.pair I (.pair I .unit))) .un)) (.val (.pair (.sl I) (.pair (.sl I) .unit))) (a0, a1, ()) = go_spec_guNew k a0 a1 := by
  have h : runPure (go_spec_guNew_C k) (bodyOf Go.Proofs.Try.f86) Go.Proofs.Try.f86.results.toList false (.pr (.val (.pair I (.pair I (.pair (.sl I) .unit)))) (.pr (.val (.pair I (.pair I .unit))) .un)) (.val (.pair (.sl I) (.pair (.sl I) .unit))) (a0, a1, ()) = go_spec_guNew_T k a0 a1 (fun r1 y => iter k (loopAt (go_spec_guNew_C k) (bodyOf Go.Proofs.Try.f86) [1, 1, 0, 1, 0] [] (finPure (go_spec_guNew_C k) Go.Proofs.Try.f86.results.toList false (.val (.pair (.sl I) (.pair (.sl I) .unit))))) (go_spec_guNew_L0_E a0 a1 r1 y)) := by kernel_rfl
  have h0 : (fun r1 y => iter k (loopAt (go_spec_guNew_C k) (bodyOf Go.Proofs.Try.f86) [1, 1, 0, 1, 0] [] (finPure (go_spec_guNew_C k) Go.Proofs.Try.f86.results.toList false (.val (.pair (.sl I) (.pair (.sl I) .unit))))) (go_spec_guNew_L0_E a0 a1 r1 y)) = (fun r1 y => go_spec_guNew_L0 k a0 a1 r1 y) := by
    funext r1 y
    exact go_spec_guNew_L0_t k a0 a1 r1 y
  rw [h, h0]
  rfl
def go_spec_guNew_S (k : Nat) : Spec := ⟨(.pr (.val (.pair I (.pair I (.pair (.sl I) .unit)))) (.pr (.val (.pair I (.pair I .unit))) .un)), (.val (.pair (.sl I) (.pair (.sl I) .unit))), false, .inl fun x => go_spec_guNew k x.1 x.2.1⟩
theorem go_spec_guNew_F (k : Nat) : Fits Go.Proofs.Try.prog (go_spec_guNew_C k) 86 Go.Proofs.Try.f86 (bodyOf Go.Proofs.Try.f86) (.pr (.val (.pair I (.pair I (.pair (.sl I) .unit)))) (.pr (.val (.pair I (.pair I .unit))) .un)) (.val (.pair (.sl I) (.pair (.sl I) .unit))) false :=
  ⟨th0, mixed0, by kernel_rfl, Go.Proofs.Try.func86, rfl, by kernel_rfl, rfl, rfl, rfl, rfl, rfl, rfl⟩
theorem go_spec_guNew_M (k : Nat) : Meets Go.Proofs.Try.prog 86 (go_spec_guNew_S k) :=
  meets_pure (go_spec_guNew_F k) (sigs_all (l := [(54, go_spec_boCells_S k), (99, go_spec_boIs_S k)]) rfl ⟨go_spec_boCells_M k, ⟨go_spec_boIs_M k, trivial⟩⟩) rfl fun x => go_spec_guNew_t k x.1 x.2.1

/-! ### spec.guBefore -/
def go_spec_guBefore_C (k : Nat) : Ctx := { th := TH, se := SE, sg := [], mu := [], an := [(2, [(0, false), (1, false), (7, false), (8, false)])], dr := [(4, 8), (5, 8)], pre := [], d2 := [], m := 0, fx := [], n := 30, k := k }
def go_spec_guBefore_L0_E (a0 : (List Int)) (a1 : (List Int)) (x3 : (Int)) : St :=
  ⟨[(0, .one (.val (.sl I) a0), []), (1, .one (.val (.sl I) a1), []), (7, .one (.val I (a0.length : Int)), []), (8, .one (.val I x3), [])], [], []⟩
def go_spec_guBefore_L0_G (k : Nat) (a0 : (List Int)) (a1 : (List Int)) (rec4 : (Int) → Option Bool) (x3 : (Int)) : Option Bool :=
  if (decide (x3 < (a0.length : Int))) = true then
    if (inb x3 a0.length) = true then
    if (inb x3 a1.length) = true then
    if (!decide ((a0.getD x3.toNat (0 : Int)) = (a1.getD x3.toNat (0 : Int)))) = true then
      if (inb x3 a0.length) = true then
      if (inb x3 a1.length) = true then
      some (decide ((a0.getD x3.toNat (0 : Int)) < (a1.getD x3.toNat (0 : Int))))
      else none
      else none
    else
      rec4 (IntKind.i64.wrap (x3 + (1 : Int)))
    else none
    else none
  else
    some false
def go_spec_guBefore_L0 (k : Nat) (a0 : (List Int)) (a1 : (List Int)) : (Int) → Option Bool :=
  iter k fun rec4 x3 => go_spec_guBefore_L0_G k a0 a1 rec4 x3
theorem go_spec_guBefore_L0_t (k : Nat) (a0 : (List Int)) (a1 : (List Int)) (x : (Int)) :
    iter k (loopAt (go_spec_guBefore_C k) (bodyOf Go.Proofs.Try.f106) [1, 0, 1, 0] [] (finPure (go_spec_guBefore_C k) Go.Proofs.Try.f106.results.toList false (.val .bool))) (go_spec_guBefore_L0_E a0 a1 x) = go_spec_guBefore_L0 k a0 a1 x := by
  refine iter_tie (G := fun rec x => go_spec_guBefore_L0_G k a0 a1 rec x) (go_spec_guBefore_L0_E a0 a1) (fun rec x => ?_) k x
  have h : loopAt (go_spec_guBefore_C k) (bodyOf Go.Proofs.Try.f106) [1, 0, 1, 0] [] (finPure (go_spec_guBefore_C k) Go.Proofs.Try.f106.results.toList false (.val .bool)) rec (go_spec_guBefore_L0_E a0 a1 x) = go_spec_guBefore_L0_G k a0 a1 (fun y => rec (go_spec_guBefore_L0_E a0 a1 y)) x := by kernel_rfl
  rw [h]
def go_spec_guBefore_T (k : Nat) (a0 : (List Int)) (a1 : (List Int)) (l_0 : (Int) → Option Bool) : Option Bool :=
  l_0 (0 : Int)
def go_spec_guBefore (k : Nat) (a0 : (List Int)) (a1 : (List Int)) : Option Bool :=
  go_spec_guBefore_T k a0 a1 (fun y => go_spec_guBefore_L0 k a0 a1 y)
theorem go_spec_guBefore_t (k : Nat) (a0 : (List Int)) (a1 : (List Int)) : runPure (go_spec_guBefore_C k) (bodyOf Go.Proofs.Try.f106) Go.Proofs.Try.f106.results.toList false (.pr (.val (.sl I)) (.pr (.val (.sl I)) .un)) (.val .bool) (a0, a1, ()) = go_spec_guBefore k a0 a1 := by
  have h : runPure (go_spec_guBefore_C k) (bodyOf Go.Proofs.Try.f106) Go.Proofs.Try.f106.results.toList false (.pr (.val (.sl I)) (.pr (.val (.sl I)) .un)) (.val .bool) (a0, a1, ()) = go_spec_guBefore_T k a0 a1 (fun y => iter k (loopAt (go_spec_guBefore_C k) (bodyOf Go.Proofs.Try.f106) [1, 0, 1, 0] [] (finPure (go_spec_guBefore_C k) Go.Proofs.Try.f106.results.toList false (.val .bool))) (go_spec_guBefore_L0_E a0 a1 y)) := by kernel_rfl
  have h0 : (fun y => iter k (loopAt (go_spec_guBefore_C k) (bodyOf Go.Proofs.Try.f106) [1, 0, 1, 0] [] (finPure (go_spec_guBefore_C k) Go.Proofs.Try.f106.results.toList false (.val .bool))) (go_spec_guBefore_L0_E a0 a1 y)) = (fun y => go_spec_guBefore_L0 k a0 a1 y) := by
    funext y
    exact go_spec_guBefore_L0_t k a0 a1 y
  rw [h, h0]
  rfl
def go_spec_guBefore_S (k : Nat) : Spec := ⟨(.pr (.val (.sl I)) (.pr (.val (.sl I)) .un)), (.val .bool), false, .inl fun x => go_spec_guBefore k x.1 x.2.1⟩
theorem go_spec_guBefore_F (k : Nat) : Fits Go.Proofs.Try.prog (go_spec_guBefore_C k) 106 Go.Proofs.Try.f106 (bodyOf Go.Proofs.Try.f106) (.pr (.val (.sl I)) (.pr (.val (.sl I)) .un)) (.val .bool) false :=
  ⟨th0, mixed0, by kernel_rfl, Go.Proofs.Try.func106, rfl, by kernel_rfl, rfl, rfl, rfl, rfl, rfl, rfl⟩
theorem go_spec_guBefore_M (k : Nat) : Meets Go.Proofs.Try.prog 106 (go_spec_guBefore_S k) :=
  meets_pure (go_spec_guBefore_F k) (sigs_all (l := []) rfl trivial) rfl fun x => go_spec_guBefore_t k x.1 x.2.1

/-! ### (*spec.guBest).look -/
def go_spec_guBest_look_C (k : Nat) : Ctx := { th := TH, se := SE, sg := [(106, go_spec_guBefore_S k)], mu := [], an := [(9, [(0, false), (2, false), (10, true), (67, false), (68, false), (69, false)])], dr := [], pre := [], d2 := [], m := 3, fx := [0], n := 101, k := k }
def go_spec_guBest_look_L0_E (a0 : (Int × (Int × ((List Int) × ((List Int) × Unit))))) (a1 : ((List Int) × ((List Int) × Unit))) (a2 : Int) (a3 : Int) (a4 : Bool) (x7 : (Int × (List Int))) : St :=
  ⟨[(0, .one (.bx 0 0 .unit), []), (2, .one (.val I a2), []), (10, .one (.own 3), []), (67, .one (.val (.sl I) a1.1), []), (68, .one (.val I (a1.1.length : Int)), []), (69, .one (.val I x7.1), [])], [.box (.pr (.val I a0.1) (.pr (.val I (IntKind.i64.wrap (a0.2.1 + (1 : Int)))) (.pr (.own 1) (.pr (.own 2) .un)))), .arr 3 I a0.2.2.1, .arr 3 I a0.2.2.2.1, .arr 3 I x7.2], []⟩
def go_spec_guBest_look_L1_E (a0 : (Int × (Int × ((List Int) × ((List Int) × Unit))))) (a1 : ((List Int) × ((List Int) × Unit))) (a2 : Int) (a3 : Int) (a4 : Bool) (x14 : (Int × (List Int))) : St :=
  ⟨[(0, .one (.bx 0 0 .unit), []), (2, .one (.val I a2), []), (10, .one (.own 3), []), (67, .one (.val (.sl I) a1.1), []), (68, .one (.val I (a1.1.length : Int)), []), (69, .one (.val I x14.1), [])], [.box (.pr (.val I a3) (.pr (.val I (1 : Int)) (.pr (.nsl 3 I) (.pr (.own 2) .un)))), .arr 3 I a0.2.2.1, .arr 3 I a0.2.2.2.1, .arr 3 I x14.2], []⟩
def go_spec_guBest_look_L1_G (k : Nat) (a0 : (Int × (Int × ((List Int) × ((List Int) × Unit))))) (a1 : ((List Int) × ((List Int) × Unit))) (a2 : Int) (a3 : Int) (a4 : Bool) (rec15 : (Int × (List Int)) → Option (Unit × ((Int × (Int × ((List Int) × ((List Int) × Unit)))) × (((List Int) × ((List Int) × Unit)) × (Int × (Int × (Bool × Unit))))))) (x14 : (Int × (List Int))) : Option (Unit × ((Int × (Int × ((List Int) × ((List Int) × Unit)))) × (((List Int) × ((List Int) × Unit)) × (Int × (Int × (Bool × Unit)))))) :=
  if (decide (x14.1 < (a1.1.length : Int))) = true then
    if (inb x14.1 a1.1.length) = true then
    if (decide (0 ≤ x14.1)) = true then
    if (decide ((Int.tmod (Int.fdiv a2 (2 ^ (min x14.1.toNat (IntKind.i64.bits)))) (2 : Int)) = (1 : Int))) = true then
      if (decide (x14.2.length + [(a1.1.getD x14.1.toNat (0 : Int))].length ≤ LIM)) = true then
      rec15 ((IntKind.i64.wrap (x14.1 + (1 : Int))), (x14.2 ++ [(a1.1.getD x14.1.toNat (0 : Int))]))
      else none
    else
      rec15 ((IntKind.i64.wrap (x14.1 + (1 : Int))), x14.2)
    else none
    else none
  else
    (if (!(decide ((1 : Int) = (1 : Int)))) = true then go_spec_guBefore k x14.2 [] else some false).bind fun r16 =>
    if ((decide ((1 : Int) = (1 : Int))) || r16) = true then
      some ((), ((a3, ((1 : Int), (x14.2, (a0.2.2.2.1, ())))), (a1, (a2, (a3, (a4, ()))))))
    else
      some ((), ((a3, ((1 : Int), ([], (a0.2.2.2.1, ())))), (a1, (a2, (a3, (a4, ()))))))
def go_spec_guBest_look_L1 (k : Nat) (a0 : (Int × (Int × ((List Int) × ((List Int) × Unit))))) (a1 : ((List Int) × ((List Int) × Unit))) (a2 : Int) (a3 : Int) (a4 : Bool) : (Int × (List Int)) → Option (Unit × ((Int × (Int × ((List Int) × ((List Int) × Unit)))) × (((List Int) × ((List Int) × Unit)) × (Int × (Int × (Bool × Unit)))))) :=
  iter k fun rec15 x14 => go_spec_guBest_look_L1_G k a0 a1 a2 a3 a4 rec15 x14
theorem go_spec_guBest_look_L1_t (k : Nat) (a0 : (Int × (Int × ((List Int) × ((List Int) × Unit))))) (a1 : ((List Int) × ((List Int) × Unit))) (a2 : Int) (a3 : Int) (a4 : Bool) (x : (Int × (List Int))) :
    iter k (loopAt (go_spec_guBest_look_C k) (bodyOf Go.Proofs.Try.f87) [1, 1, 1, 1, 0, 1, 0] [] (finEff (go_spec_guBest_look_C k) Go.Proofs.Try.f87.results.toList true (.pr (.box (.pr (.val I) (.pr (.val I) (.pr (.own 3 I) (.pr (.own 3 I) .un))))) (.pr (.val (.pair (.sl I) (.pair (.sl I) .unit))) (.pr (.val I) (.pr (.val I) (.pr (.val .bool) .un))))) .un (a0, a1, a2, a3, a4, ()))) (go_spec_guBest_look_L1_E a0 a1 a2 a3 a4 x) = go_spec_guBest_look_L1 k a0 a1 a2 a3 a4 x := by
  refine iter_tie (G := fun rec x => go_spec_guBest_look_L1_G k a0 a1 a2 a3 a4 rec x) (go_spec_guBest_look_L1_E a0 a1 a2 a3 a4) (fun rec x => ?_) k x
  have h : loopAt (go_spec_guBest_look_C k) (bodyOf Go.Proofs.Try.f87) [1, 1, 1, 1, 0, 1, 0] [] (finEff (go_spec_guBest_look_C k) Go.Proofs.Try.f87.results.toList true (.pr (.box (.pr (.val I) (.pr (.val I) (.pr (.own 3 I) (.pr (.own 3 I) .un))))) (.pr (.val (.pair (.sl I) (.pair (.sl I) .unit))) (.pr (.val I) (.pr (.val I) (.pr (.val .bool) .un))))) .un (a0, a1, a2, a3, a4, ())) rec (go_spec_guBest_look_L1_E a0 a1 a2 a3 a4 x) = go_spec_guBest_look_L1_G k a0 a1 a2 a3 a4 (fun y => rec (go_spec_guBest_look_L1_E a0 a1 a2 a3 a4 y)) x := by kernel_rfl
  rw [h]
def go_spec_guBest_look_L0_G (k : Nat) (a0 : (Int × (Int × ((List Int) × ((List Int) × Unit))))) (a1 : ((List Int) × ((List Int) × Unit))) (a2 : Int) (a3 : Int) (a4 : Bool) (rec8 : (Int × (List Int)) → Option (Unit × ((Int × (Int × ((List Int) × ((List Int) × Unit)))) × (((List Int) × ((List Int) × Unit)) × (Int × (Int × (Bool × Unit))))))) (x7 : (Int × (List Int))) : Option (Unit × ((Int × (Int × ((List Int) × ((List Int) × Unit)))) × (((List Int) × ((List Int) × Unit)) × (Int × (Int × (Bool × Unit)))))) :=
  if (decide (x7.1 < (a1.1.length : Int))) = true then
    if (inb x7.1 a1.1.length) = true then
    if (decide (0 ≤ x7.1)) = true then
    if (decide ((Int.tmod (Int.fdiv a2 (2 ^ (min x7.1.toNat (IntKind.i64.bits)))) (2 : Int)) = (1 : Int))) = true then
      if (decide (x7.2.length + [(a1.1.getD x7.1.toNat (0 : Int))].length ≤ LIM)) = true then
      rec8 ((IntKind.i64.wrap (x7.1 + (1 : Int))), (x7.2 ++ [(a1.1.getD x7.1.toNat (0 : Int))]))
      else none
    else
      rec8 ((IntKind.i64.wrap (x7.1 + (1 : Int))), x7.2)
    else none
    else none
  else
    (if (!(decide ((IntKind.i64.wrap (a0.2.1 + (1 : Int))) = (1 : Int)))) = true then go_spec_guBefore k x7.2 a0.2.2.1 else some false).bind fun r9 =>
    if ((decide ((IntKind.i64.wrap (a0.2.1 + (1 : Int))) = (1 : Int))) || r9) = true then
      some ((), ((a0.1, ((IntKind.i64.wrap (a0.2.1 + (1 : Int))), (x7.2, (a0.2.2.2.1, ())))), (a1, (a2, (a3, (a4, ()))))))
    else
      some ((), ((a0.1, ((IntKind.i64.wrap (a0.2.1 + (1 : Int))), (a0.2.2.1, (a0.2.2.2.1, ())))), (a1, (a2, (a3, (a4, ()))))))
def go_spec_guBest_look_L0 (k : Nat) (a0 : (Int × (Int × ((List Int) × ((List Int) × Unit))))) (a1 : ((List Int) × ((List Int) × Unit))) (a2 : Int) (a3 : Int) (a4 : Bool) : (Int × (List Int)) → Option (Unit × ((Int × (Int × ((List Int) × ((List Int) × Unit)))) × (((List Int) × ((List Int) × Unit)) × (Int × (Int × (Bool × Unit)))))) :=
  iter k fun rec8 x7 => go_spec_guBest_look_L0_G k a0 a1 a2 a3 a4 rec8 x7
theorem go_spec_guBest_look_L0_t (k : Nat) (a0 : (Int × (Int × ((List Int) × ((List Int) × Unit))))) (a1 : ((List Int) × ((List Int) × Unit))) (a2 : Int) (a3 : Int) (a4 : Bool) (x : (Int × (List Int))) :
    iter k (loopAt (go_spec_guBest_look_C k) (bodyOf Go.Proofs.Try.f87) [1, 1, 1, 1, 0, 1, 0] [] (finEff (go_spec_guBest_look_C k) Go.Proofs.Try.f87.results.toList true (.pr (.box (.pr (.val I) (.pr (.val I) (.pr (.own 3 I) (.pr (.own 3 I) .un))))) (.pr (.val (.pair (.sl I) (.pair (.sl I) .unit))) (.pr (.val I) (.pr (.val I) (.pr (.val .bool) .un))))) .un (a0, a1, a2, a3, a4, ()))) (go_spec_guBest_look_L0_E a0 a1 a2 a3 a4 x) = go_spec_guBest_look_L0 k a0 a1 a2 a3 a4 x := by
  refine iter_tie (G := fun rec x => go_spec_guBest_look_L0_G k a0 a1 a2 a3 a4 rec x) (go_spec_guBest_look_L0_E a0 a1 a2 a3 a4) (fun rec x => ?_) k x
  have h : loopAt (go_spec_guBest_look_C k) (bodyOf Go.Proofs.Try.f87) [1, 1, 1, 1, 0, 1, 0] [] (finEff (go_spec_guBest_look_C k) Go.Proofs.Try.f87.results.toList true (.pr (.box (.pr (.val I) (.pr (.val I) (.pr (.own 3 I) (.pr (.own 3 I) .un))))) (.pr (.val (.pair (.sl I) (.pair (.sl I) .unit))) (.pr (.val I) (.pr (.val I) (.pr (.val .bool) .un))))) .un (a0, a1, a2, a3, a4, ())) rec (go_spec_guBest_look_L0_E a0 a1 a2 a3 a4 x) = go_spec_guBest_look_L0_G k a0 a1 a2 a3 a4 (fun y => rec (go_spec_guBest_look_L0_E a0 a1 a2 a3 a4 y)) x := by kernel_rfl
  rw [h]
def go_spec_guBest_look_T (k : Nat) (a0 : (Int × (Int × ((List Int) × ((List Int) × Unit))))) (a1 : ((List Int) × ((List Int) × Unit))) (a2 : Int) (a3 : Int) (a4 : Bool) (l_0 : (Int × (List Int)) → Option (Unit × ((Int × (Int × ((List Int) × ((List Int) × Unit)))) × (((List Int) × ((List Int) × Unit)) × (Int × (Int × (Bool × Unit))))))) (l_1 : (Int × (List Int)) → Option (Unit × ((Int × (Int × ((List Int) × ((List Int) × Unit)))) × (((List Int) × ((List Int) × Unit)) × (Int × (Int × (Bool × Unit))))))) : Option (Unit × ((Int × (Int × ((List Int) × ((List Int) × Unit)))) × (((List Int) × ((List Int) × Unit)) × (Int × (Int × (Bool × Unit)))))) :=
  if (((decide ((0 : Int) < a0.2.1)) && ((decide (a0.1 < a3)) == a4)) && (!decide (a3 = a0.1))) = true then
    some ((), ((a0.1, (a0.2.1, (a0.2.2.1, (a0.2.2.2.1, ())))), (a1, (a2, (a3, (a4, ()))))))
  else
    if ((decide ((0 : Int) < a0.2.1)) && (decide (a3 = a0.1))) = true then
      l_0 ((0 : Int), [])
    else
      l_1 ((0 : Int), [])
def go_spec_guBest_look (k : Nat) (a0 : (Int × (Int × ((List Int) × ((List Int) × Unit))))) (a1 : ((List Int) × ((List Int) × Unit))) (a2 : Int) (a3 : Int) (a4 : Bool) : Option (Unit × ((Int × (Int × ((List Int) × ((List Int) × Unit)))) × (((List Int) × ((List Int) × Unit)) × (Int × (Int × (Bool × Unit)))))) :=
  go_spec_guBest_look_T k a0 a1 a2 a3 a4 (fun y => go_spec_guBest_look_L0 k a0 a1 a2 a3 a4 y) (fun y => go_spec_guBest_look_L1 k a0 a1 a2 a3 a4 y)
theorem go_spec_guBest_look_t (k : Nat) (a0 : (Int × (Int × ((List Int) × ((List Int) × Unit))))) (a1 : ((List Int) × ((List Int) × Unit))) (a2 : Int) (a3 : Int) (a4 : Bool) : runEff (go_spec_guBest_look_C k) (bodyOf Go.Proofs.Try.f87) Go.Proofs.Try.f87.results.toList true (.pr (.box (.pr (.val I) (.pr (.val I) (.pr (.own 3 I) (.pr (.own 3 I) .un))))) (.pr (.val (.pair (.sl I) (.pair (.sl I) .unit))) (.pr (.val I) (.pr (.val I) (.pr (.val .bool) .un))))) .un (a0, a1, a2, a3, a4, ()) = go_spec_guBest_look k a0 a1 a2 a3 a4 := by
  have h : runEff (go_spec_guBest_look_C k) (bodyOf Go.Proofs.Try.f87) Go.Proofs.Try.f87.results.toList true (.pr (.box (.pr (.val I) (.pr (.val I) (.pr (.own 3 I) (.pr (.own 3 I) .un))))) (.pr (.val (.pair (.sl I) (.pair (.sl I) .unit))) (.pr (.val I) (.pr (.val I) (.pr (.val .bool) .un))))) .un (a0, a1, a2, a3, a4, ()) = go_spec_guBest_look_T k a0 a1 a2 a3 a4 (fun y => iter k (loopAt (go_spec_guBest_look_C k) (bodyOf Go.Proofs.Try.f87) [1, 1, 1, 1, 0, 1, 0] [] (finEff (go_spec_guBest_look_C k) Go.Proofs.Try.f87.results.toList true (.pr (.box (.pr (.val I) (.pr (.val I) (.pr (.own 3 I) (.pr (.own 3 I) .un))))) (.pr (.val (.pair (.sl I) (.pair (.sl I) .unit))) (.pr (.val I) (.pr (.val I) (.pr (.val .bool) .un))))) .un (a0, a1, a2, a3, a4, ()))) (go_spec_guBest_look_L0_E a0 a1 a2 a3 a4 y)) (fun y => iter k (loopAt (go_spec_guBest_look_C k) (bodyOf Go.Proofs.Try.f87) [1, 1, 1, 1, 0, 1, 0] [] (finEff (go_spec_guBest_look_C k) Go.Proofs.Try.f87.results.toList true (.pr (.box (.pr (.val I) (.pr (.val I) (.pr (.own 3 I) (.pr (.own 3 I) .un))))) (.pr (.val (.pair (.sl I) (.pair (.sl I) .unit))) (.pr (.val I) (.pr (.val I) (.pr (.val .bool) .un))))) .un (a0, a1, a2, a3, a4, ()))) (go_spec_guBest_look_L1_E a0 a1 a2 a3 a4 y)) := by kernel_rfl
  have h0 : (fun y => iter k (loopAt (go_spec_guBest_look_C k) (bodyOf Go.Proofs.Try.f87) [1, 1, 1, 1, 0, 1, 0] [] (finEff (go_spec_guBest_look_C k) Go.Proofs.Try.f87.results.toList true (.pr (.box (.pr (.val I) (.pr (.val I) (.pr (.own 3 I) (.pr (.own 3 I) .un))))) (.pr (.val (.pair (.sl I) (.pair (.sl I) .unit))) (.pr (.val I) (.pr (.val I) (.pr (.val .bool) .un))))) .un (a0, a1, a2, a3, a4, ()))) (go_spec_guBest_look_L0_E a0 a1 a2 a3 a4 y)) = (fun y => go_spec_guBest_look_L0 k a0 a1 a2 a3 a4 y) := by
    funext y
    exact go_spec_guBest_look_L0_t k a0 a1 a2 a3 a4 y
  have h1 : (fun y => iter k (loopAt (go_spec_guBest_look_C k) (bodyOf Go.Proofs.Try.f87) [1, 1, 1, 1, 0, 1, 0] [] (finEff (go_spec_guBest_look_C k) Go.Proofs.Try.f87.results.toList true (.pr (.box (.pr (.val I) (.pr (.val I) (.pr (.own 3 I) (.pr (.own 3 I) .un))))) (.pr (.val (.pair (.sl I) (.pair (.sl I) .unit))) (.pr (.val I) (.pr (.val I) (.pr (.val .bool) .un))))) .un (a0, a1, a2, a3, a4, ()))) (go_spec_guBest_look_L1_E a0 a1 a2 a3 a4 y)) = (fun y => go_spec_guBest_look_L1 k a0 a1 a2 a3 a4 y) := by
    funext y
    exact go_spec_guBest_look_L1_t k a0 a1 a2 a3 a4 y
  rw [h, h0, h1]
  rfl
def go_spec_guBest_look_S (k : Nat) : Spec := ⟨(.pr (.box (.pr (.val I) (.pr (.val I) (.pr (.own 3 I) (.pr (.own 3 I) .un))))) (.pr (.val (.pair (.sl I) (.pair (.sl I) .unit))) (.pr (.val I) (.pr (.val I) (.pr (.val .bool) .un))))), .un, true, .inr fun x => go_spec_guBest_look k x.1 x.2.1 x.2.2.1 x.2.2.2.1 x.2.2.2.2.1⟩
theorem go_spec_guBest_look_F (k : Nat) : Fits Go.Proofs.Try.prog (go_spec_guBest_look_C k) 87 Go.Proofs.Try.f87 (bodyOf Go.Proofs.Try.f87) (.pr (.box (.pr (.val I) (.pr (.val I) (.pr (.own 3 I) (.pr (.own 3 I) .un))))) (.pr (.val (.pair (.sl I) (.pair (.sl I) .unit))) (.pr (.val I) (.pr (.val I) (.pr (.val .bool) .un))))) .un true :=
  ⟨th0, mixed0, by kernel_rfl, Go.Proofs.Try.func87, rfl, by kernel_rfl, rfl, rfl, rfl, rfl, rfl, rfl⟩
theorem go_spec_guBest_look_M (k : Nat) : Meets Go.Proofs.Try.prog 87 (go_spec_guBest_look_S k) :=
  meets_eff (go_spec_guBest_look_F k) (sigs_all (l := [(106, go_spec_guBefore_S k)]) rfl ⟨go_spec_guBefore_M k, trivial⟩) fun x => go_spec_guBest_look_t k x.1 x.2.1 x.2.2.1 x.2.2.2.1 x.2.2.2.2.1

/-! ### spec.guAll -/
def go_spec_guAll_C (k : Nat) : Ctx := { th := TH, se := SE, sg := [(86, go_spec_guNew_S k), (87, go_spec_guBest_look_S k)], mu := [], an := [(5, [(2, false), (3, false), (4, false), (10, false), (11, false), (12, false), (13, true), (14, false)]), (9, [(2, false), (3, false), (4, false), (10, false), (11, false), (12, false), (13, false), (14, false), (15, false), (16, false), (17, false), (18, false)])], dr := [(14, 11)], pre := [], d2 := [], m := 0, fx := [], n := 95, k := k }
def go_spec_guAll_L0_E (a0 : (Int × (Int × ((List Int) × Unit)))) (a1 : (Int × (Int × Unit))) (a2 : Bool) (a3 : Bool) (a4 : Bool) (r1 : ((List Int) × ((List Int) × Unit))) (x91 : (Int × Int × Int × (List Int) × (List Int))) : St :=
  ⟨[(2, .one (.val .bool a2), []), (3, .one (.val .bool a3), []), (4, .one (.val .bool a4), []), (10, .one (.bx 0 0 (.pair I (.pair I (.pair (.sl I) (.pair (.sl I) .unit))))), []), (11, .one (.bx 1 0 (.pair (.sl I) (.pair (.sl I) .unit))), []), (12, .one (.val I (r1.1.length : Int)), []), (13, .one (.bx 2 0 (.pair I (.pair I (.pair (.sl I) (.pair (.sl I) .unit))))), []), (14, .one (.val I x91.1), [])], [.box (.pr (.val I (0 : Int)) (.pr (.val I (0 : Int)) (.pr (.nsl 3 I) (.pr (.nsl 3 I) .un)))), .box (.pr (.val (.sl I) r1.1) (.pr (.val (.sl I) r1.2.1) .un)), .box (.pr (.val I x91.2.1) (.pr (.val I x91.2.2.1) (.pr (.own 3) (.pr (.own 4) .un)))), .arr 3 I x91.2.2.2.1, .arr 3 I x91.2.2.2.2], []⟩
def go_spec_guAll_L1_E (a0 : (Int × (Int × ((List Int) × Unit)))) (a1 : (Int × (Int × Unit))) (a2 : Bool) (a3 : Bool) (a4 : Bool) (r1 : ((List Int) × ((List Int) × Unit))) (x91 : (Int × Int × Int × (List Int) × (List Int))) (x101 : (Int × Int × Bool × Int)) : St :=
  ⟨[(2, .one (.val .bool a2), []), (3, .one (.val .bool a3), []), (4, .one (.val .bool a4), []), (10, .one (.bx 0 0 (.pair I (.pair I (.pair (.sl I) (.pair (.sl I) .unit))))), []), (11, .one (.bx 1 0 (.pair (.sl I) (.pair (.sl I) .unit))), []), (12, .one (.val I (r1.1.length : Int)), []), (13, .one (.bx 2 0 (.pair I (.pair I (.pair (.sl I) (.pair (.sl I) .unit))))), []), (14, .one (.val I x91.1), []), (15, .one (.val I x101.1), []), (16, .one (.val I x101.2.1), []), (17, .one (.val .bool x101.2.2.1), []), (18, .one (.val I x101.2.2.2), [])], [.box (.pr (.val I (0 : Int)) (.pr (.val I (0 : Int)) (.pr (.nsl 3 I) (.pr (.nsl 3 I) .un)))), .box (.pr (.val (.sl I) r1.1) (.pr (.val (.sl I) r1.2.1) .un)), .box (.pr (.val I x91.2.1) (.pr (.val I x91.2.2.1) (.pr (.own 3) (.pr (.own 4) .un)))), .arr 3 I x91.2.2.2.1, .arr 3 I x91.2.2.2.2], []⟩
def go_spec_guAll_L1_G (k : Nat) (a0 : (Int × (Int × ((List Int) × Unit)))) (a1 : (Int × (Int × Unit))) (a2 : Bool) (a3 : Bool) (a4 : Bool) (r1 : ((List Int) × ((List Int) × Unit))) (x91 : (Int × Int × Int × (List Int) × (List Int))) (rec92 : (Int × Int × Int × (List Int) × (List Int)) → Option (Int × (Int × ((List Int) × ((List Int) × Unit))))) (rec102 : (Int × Int × Bool × Int) → Option (Int × (Int × ((List Int) × ((List Int) × Unit))))) (x101 : (Int × Int × Bool × Int)) : Option (Int × (Int × ((List Int) × ((List Int) × Unit)))) :=
  if (decide (x101.2.2.2 < (r1.1.length : Int))) = true then
    if (decide (0 ≤ x101.2.2.2)) = true then
    if (decide ((Int.tmod (Int.fdiv x91.1 (2 ^ (min x101.2.2.2.toNat (IntKind.i64.bits)))) (2 : Int)) = (0 : Int))) = true then
      rec102 (x101.1, x101.2.1, x101.2.2.1, (IntKind.i64.wrap (x101.2.2.2 + (1 : Int))))
    else
      if (inb x101.2.2.2 r1.2.1.length) = true then
      if (!x101.2.2.1 || (inb x101.2.2.2 r1.2.1.length)) = true then
      if (!x101.2.2.1 || (decide (0 ≤ x101.2.2.2))) = true then
      rec102 ((IntKind.i64.wrap (((BitVec.ofInt (IntKind.i64.bits) x101.1 ||| BitVec.ofInt (IntKind.i64.bits) (r1.2.1.getD x101.2.2.2.toNat (0 : Int))).toNat : Int))), (IntKind.i64.wrap (x101.2.1 + (1 : Int))), (x101.2.2.1 && (decide ((IntKind.i64.wrap (((BitVec.ofInt (IntKind.i64.bits) (r1.2.1.getD x101.2.2.2.toNat (0 : Int)) &&& BitVec.ofInt (IntKind.i64.bits) x91.1).toNat : Int))) = (IntKind.i64.wrap ((1 : Int) * 2 ^ (min x101.2.2.2.toNat (IntKind.i64.bits))))))), (IntKind.i64.wrap (x101.2.2.2 + (1 : Int))))
      else none
      else none
      else none
    else none
  else
    if (!a2 || (decide (0 ≤ (r1.1.length : Int)))) = true then
    if ((a2 && (!decide (x101.1 = (IntKind.i64.wrap ((IntKind.i64.wrap ((1 : Int) * 2 ^ (min (r1.1.length : Int).toNat (IntKind.i64.bits)))) - (1 : Int)))))) || (a3 && (!x101.2.2.1))) = true then
      rec92 ((IntKind.i64.wrap (x91.1 + (1 : Int))), x91.2.1, x91.2.2.1, x91.2.2.2.1, x91.2.2.2.2)
    else
      if (inb x101.2.1 x91.2.2.2.2.length) = true then
      if (inb x101.2.1 x91.2.2.2.2.length) = true then
      (go_spec_guBest_look k (x91.2.1, (x91.2.2.1, (x91.2.2.2.1, ((x91.2.2.2.2.set x101.2.1.toNat (IntKind.i64.wrap ((x91.2.2.2.2.getD x101.2.1.toNat (0 : Int)) + (1 : Int)))), ())))) (r1.1, (r1.2.1, ())) x91.1 x101.2.1 a4).bind fun r103 =>
      rec92 ((IntKind.i64.wrap (x91.1 + (1 : Int))), r103.2.1.1, r103.2.1.2.1, r103.2.1.2.2.1, r103.2.1.2.2.2.1)
      else none
      else none
    else none
def go_spec_guAll_L1 (k : Nat) (a0 : (Int × (Int × ((List Int) × Unit)))) (a1 : (Int × (Int × Unit))) (a2 : Bool) (a3 : Bool) (a4 : Bool) (rec92 : (Int × Int × Int × (List Int) × (List Int)) → Option (Int × (Int × ((List Int) × ((List Int) × Unit))))) (r1 : ((List Int) × ((List Int) × Unit))) (x91 : (Int × Int × Int × (List Int) × (List Int))) : (Int × Int × Bool × Int) → Option (Int × (Int × ((List Int) × ((List Int) × Unit)))) :=
  iter k fun rec102 x101 => go_spec_guAll_L1_G k a0 a1 a2 a3 a4 r1 x91 rec92 rec102 x101
theorem go_spec_guAll_L1_t (k : Nat) (a0 : (Int × (Int × ((List Int) × Unit)))) (a1 : (Int × (Int × Unit))) (a2 : Bool) (a3 : Bool) (a4 : Bool) (s0 : St → Option (Int × (Int × ((List Int) × ((List Int) × Unit))))) (r1 : ((List Int) × ((List Int) × Unit))) (x91 : (Int × Int × Int × (List Int) × (List Int))) (x : (Int × Int × Bool × Int)) :
    iter k (loopAt (go_spec_guAll_C k) (bodyOf Go.Proofs.Try.f60) [1, 1, 1, 1, 0, 1, 0, 0, 1, 0, 0, 1, 0, 1, 0] [s0] (finPure (go_spec_guAll_C k) Go.Proofs.Try.f60.results.toList false (.pr (.val I) (.pr (.val I) (.pr (.own 3 I) (.pr (.own 3 I) .un)))))) (go_spec_guAll_L1_E a0 a1 a2 a3 a4 r1 x91 x) = go_spec_guAll_L1 k a0 a1 a2 a3 a4 (fun y => s0 (go_spec_guAll_L0_E a0 a1 a2 a3 a4 r1 y)) r1 x91 x := by
  refine iter_tie (G := fun rec x => go_spec_guAll_L1_G k a0 a1 a2 a3 a4 r1 x91 (fun y => s0 (go_spec_guAll_L0_E a0 a1 a2 a3 a4 r1 y)) rec x) (go_spec_guAll_L1_E a0 a1 a2 a3 a4 r1 x91) (fun rec x => ?_) k x
  have h : loopAt (go_spec_guAll_C k) (bodyOf Go.Proofs.Try.f60) [1, 1, 1, 1, 0, 1, 0, 0, 1, 0, 0, 1, 0, 1, 0] [s0] (finPure (go_spec_guAll_C k) Go.Proofs.Try.f60.results.toList false (.pr (.val I) (.pr (.val I) (.pr (.own 3 I) (.pr (.own 3 I) .un))))) rec (go_spec_guAll_L1_E a0 a1 a2 a3 a4 r1 x91 x) = go_spec_guAll_L1_G k a0 a1 a2 a3 a4 r1 x91 (fun y => s0 (go_spec_guAll_L0_E a0 a1 a2 a3 a4 r1 y)) (fun y => rec (go_spec_guAll_L1_E a0 a1 a2 a3 a4 r1 x91 y)) x := by kernel_rfl
  rw [h]
def go_spec_guAll_L0_G (k : Nat) (a0 : (Int × (Int × ((List Int) × Unit)))) (a1 : (Int × (Int × Unit))) (a2 : Bool) (a3 : Bool) (a4 : Bool) (r1 : ((List Int) × ((List Int) × Unit))) (l_1 : (Int × Int × Int × (List Int) × (List Int)) → (Int × Int × Bool × Int) → Option (Int × (Int × ((List Int) × ((List Int) × Unit))))) (rec92 : (Int × Int × Int × (List Int) × (List Int)) → Option (Int × (Int × ((List Int) × ((List Int) × Unit))))) (x91 : (Int × Int × Int × (List Int) × (List Int))) : Option (Int × (Int × ((List Int) × ((List Int) × Unit)))) :=
  if (decide (0 ≤ (r1.1.length : Int))) = true then
  if (decide (x91.1 < (IntKind.i64.wrap ((1 : Int) * 2 ^ (min (r1.1.length : Int).toNat (IntKind.i64.bits)))))) = true then
    l_1 x91 ((0 : Int), (0 : Int), true, (0 : Int))
  else
    some (x91.2.1, (x91.2.2.1, (x91.2.2.2.1, (x91.2.2.2.2, ()))))
  else none
def go_spec_guAll_L0 (k : Nat) (a0 : (Int × (Int × ((List Int) × Unit)))) (a1 : (Int × (Int × Unit))) (a2 : Bool) (a3 : Bool) (a4 : Bool) (r1 : ((List Int) × ((List Int) × Unit))) : (Int × Int × Int × (List Int) × (List Int)) → Option (Int × (Int × ((List Int) × ((List Int) × Unit)))) :=
  iter k fun rec92 x91 => go_spec_guAll_L0_G k a0 a1 a2 a3 a4 r1 (fun c0 y => go_spec_guAll_L1 k a0 a1 a2 a3 a4 rec92 r1 c0 y) rec92 x91
theorem go_spec_guAll_L0_t (k : Nat) (a0 : (Int × (Int × ((List Int) × Unit)))) (a1 : (Int × (Int × Unit))) (a2 : Bool) (a3 : Bool) (a4 : Bool) (r1 : ((List Int) × ((List Int) × Unit))) (x : (Int × Int × Int × (List Int) × (List Int))) :
    iter k (loopAt (go_spec_guAll_C k) (bodyOf Go.Proofs.Try.f60) [1, 1, 1, 1, 0, 1, 0] [] (finPure (go_spec_guAll_C k) Go.Proofs.Try.f60.results.toList false (.pr (.val I) (.pr (.val I) (.pr (.own 3 I) (.pr (.own 3 I) .un)))))) (go_spec_guAll_L0_E a0 a1 a2 a3 a4 r1 x) = go_spec_guAll_L0 k a0 a1 a2 a3 a4 r1 x := by
  refine iter_tie (G := fun rec x => go_spec_guAll_L0_G k a0 a1 a2 a3 a4 r1 (fun c0 y => go_spec_guAll_L1 k a0 a1 a2 a3 a4 rec r1 c0 y) rec x) (go_spec_guAll_L0_E a0 a1 a2 a3 a4 r1) (fun rec x => ?_) k x
  have h : loopAt (go_spec_guAll_C k) (bodyOf Go.Proofs.Try.f60) [1, 1, 1, 1, 0, 1, 0] [] (finPure (go_spec_guAll_C k) Go.Proofs.Try.f60.results.toList false (.pr (.val I) (.pr (.val I) (.pr (.own 3 I) (.pr (.own 3 I) .un))))) rec (go_spec_guAll_L0_E a0 a1 a2 a3 a4 r1 x) = go_spec_guAll_L0_G k a0 a1 a2 a3 a4 r1 (fun c0 y => iter k (loopAt (go_spec_guAll_C k) (bodyOf Go.Proofs.Try.f60) [1, 1, 1, 1, 0, 1, 0, 0, 1, 0, 0, 1, 0, 1, 0] [rec] (finPure (go_spec_guAll_C k) Go.Proofs.Try.f60.results.toList false (.pr (.val I) (.pr (.val I) (.pr (.own 3 I) (.pr (.own 3 I) .un)))))) (go_spec_guAll_L1_E a0 a1 a2 a3 a4 r1 c0 y)) (fun y => rec (go_spec_guAll_L0_E a0 a1 a2 a3 a4 r1 y)) x := by kernel_rfl
  have h0 : (fun c0 y => iter k (loopAt (go_spec_guAll_C k) (bodyOf Go.Proofs.Try.f60) [1, 1, 1, 1, 0, 1, 0, 0, 1, 0, 0, 1, 0, 1, 0] [rec] (finPure (go_spec_guAll_C k) Go.Proofs.Try.f60.results.toList false (.pr (.val I) (.pr (.val I) (.pr (.own 3 I) (.pr (.own 3 I) .un)))))) (go_spec_guAll_L1_E a0 a1 a2 a3 a4 r1 c0 y)) = (fun c0 y => go_spec_guAll_L1 k a0 a1 a2 a3 a4 (fun y => rec (go_spec_guAll_L0_E a0 a1 a2 a3 a4 r1 y)) r1 c0 y) := by
    funext c0 y
    exact go_spec_guAll_L1_t k a0 a1 a2 a3 a4 rec r1 c0 y
  rw [h, h0]
def go_spec_guAll_T (k : Nat) (a0 : (Int × (Int × ((List Int) × Unit)))) (a1 : (Int × (Int × Unit))) (a2 : Bool) (a3 : Bool) (a4 : Bool) (l_0 : ((List Int) × ((List Int) × Unit)) → (Int × Int × Int × (List Int) × (List Int)) → Option (Int × (Int × ((List Int) × ((List Int) × Unit))))) : Option (Int × (Int × ((List Int) × ((List Int) × Unit)))) :=
  (go_spec_guNew k a0 a1).bind fun r1 =>
  if (decide (0 ≤ (IntKind.i64.wrap ((r1.1.length : Int) + (1 : Int))) ∧ (IntKind.i64.wrap ((r1.1.length : Int) + (1 : Int))) ≤ (LIM : Int))) = true then
  l_0 r1 ((0 : Int), (0 : Int), (0 : Int), [], (List.replicate (IntKind.i64.wrap ((r1.1.length : Int) + (1 : Int))).toNat (0 : Int)))
  else none
def go_spec_guAll (k : Nat) (a0 : (Int × (Int × ((List Int) × Unit)))) (a1 : (Int × (Int × Unit))) (a2 : Bool) (a3 : Bool) (a4 : Bool) : Option (Int × (Int × ((List Int) × ((List Int) × Unit)))) :=
  go_spec_guAll_T k a0 a1 a2 a3 a4 (fun r1 y => go_spec_guAll_L0 k a0 a1 a2 a3 a4 r1 y)
theorem go_spec_guAll_t (k : Nat) (a0 : (Int × (Int × ((List Int) × Unit)))) (a1 : (Int × (Int × Unit))) (a2 : Bool) (a3 : Bool) (a4 : Bool) : runPure (go_spec_guAll_C k) (bodyOf Go.Proofs.Try.f60) Go.Proofs.Try.f60.results.toList false (.pr (.val (.pair I (.pair I (.pair (.sl I) .unit)))) (.pr (.val (.pair I (.pair I .unit))) (.pr (.val .bool) (.pr (.val .bool) (.pr (.val .bool) .un))))) (.pr (.val I) (.pr (.val I) (.pr (.own 3 I) (.pr (.own 3 I) .un)))) (a0, a1, a2, a3, a4, ()) = go_spec_guAll k a0 a1 a2 a3 a4 := by
  have h : runPure (go_spec_guAll_C k) (bodyOf Go.Proofs.Try.f60) Go.Proofs.Try.f60.results.toList false (.pr (.val (.pair I (.pair I (.pair (.sl I) .unit)))) (.pr (.val (.pair I (.pair I .unit))) (.pr (.val .bool) (.pr (.val .bool) (.pr (.val .bool) .un))))) (.pr (.val I) (.pr (.val I) (.pr (.own 3 I) (.pr (.own 3 I) .un)))) (a0, a1, a2, a3, a4, ()) = go_spec_guAll_T k a0 a1 a2 a3 a4 (fun r1 y => iter k (loopAt (go_spec_guAll_C k) (bodyOf Go.Proofs.Try.f60) [1, 1, 1, 1, 0, 1, 0] [] (finPure (go_spec_guAll_C k) Go.Proofs.Try.f60.results.toList false (.pr (.val I) (.pr (.val I) (.pr (.own 3 I) (.pr (.own 3 I) .un)))))) (go_spec_guAll_L0_E a0 a1 a2 a3 a4 r1 y)) := by kernel_rfl
  have h0 : (fun r1 y => iter k (loopAt (go_spec_guAll_C k) (bodyOf Go.Proofs.Try.f60) [1, 1, 1, 1, 0, 1, 0] [] (finPure (go_spec_guAll_C k) Go.Proofs.Try.f60.results.toList false (.pr (.val I) (.pr (.val I) (.pr (.own 3 I) (.pr (.own 3 I) .un)))))) (go_spec_guAll_L0_E a0 a1 a2 a3 a4 r1 y)) = (fun r1 y => go_spec_guAll_L0 k a0 a1 a2 a3 a4 r1 y) := by
    funext r1 y
    exact go_spec_guAll_L0_t k a0 a1 a2 a3 a4 r1 y
  rw [h, h0]
  rfl
def go_spec_guAll_S (k : Nat) : Spec := ⟨(.pr (.val (.pair I (.pair I (.pair (.sl I) .unit)))) (.pr (.val (.pair I (.pair I .unit))) (.pr (.val .bool) (.pr (.val .bool) (.pr (.val .bool) .un))))), (.pr (.val I) (.pr (.val I) (.pr (.own 3 I) (.pr (.own 3 I) .un)))), false, .inl fun x => go_spec_guAll k x.1 x.2.1 x.2.2.1 x.2.2.2.1 x.2.2.2.2.1⟩
theorem go_spec_guAll_F (k : Nat) : Fits Go.Proofs.Try.prog (go_spec_guAll_C k) 60 Go.Proofs.Try.f60 (bodyOf Go.Proofs.Try.f60) (.pr (.val (.pair I (.pair I (.pair (.sl I) .unit)))) (.pr (.val (.pair I (.pair I .unit))) (.pr (.val .bool) (.pr (.val .bool) (.pr (.val .bool) .un))))) (.pr (.val I) (.pr (.val I) (.pr (.own 3 I) (.pr (.own 3 I) .un)))) false :=
  ⟨th0, mixed0, by kernel_rfl, Go.Proofs.Try.func60, rfl, by kernel_rfl, rfl, rfl, rfl, rfl, rfl, rfl⟩
theorem go_spec_guAll_M (k : Nat) : Meets Go.Proofs.Try.prog 60 (go_spec_guAll_S k) :=
  meets_pure (go_spec_guAll_F k) (sigs_all (l := [(86, go_spec_guNew_S k), (87, go_spec_guBest_look_S k)]) rfl ⟨go_spec_guNew_M k, ⟨go_spec_guBest_look_M k, trivial⟩⟩) rfl fun x => go_spec_guAll_t k x.1 x.2.1 x.2.2.1 x.2.2.2.1 x.2.2.2.2.1

/-! ### spec.CountPeaceful -/
def go_spec_CountPeaceful_C (k : Nat) : Ctx := { th := TH, se := SE, sg := [(59, go_spec_guFew_S k), (60, go_spec_guAll_S k)], mu := [], an := [(5, [(6, false), (16, false), (17, false), (18, false)])], dr := [], pre := [], d2 := [], m := 0, fx := [], n := 27, k := k }
def go_spec_CountPeaceful_L0_E (a0 : (Int × (Int × ((List Int) × Unit)))) (a1 : (Int × (Int × Unit))) (r2 : (Int × (Int × ((List Int) × ((List Int) × Unit))))) (x7 : (Int × Int)) : St :=
  ⟨[(6, .one (.val I x7.1), []), (16, .one (.val (.sl I) r2.2.2.2.1), []), (17, .one (.val I (r2.2.2.2.1.length : Int)), []), (18, .one (.val I x7.2), [])], [], []⟩
def go_spec_CountPeaceful_L0_G (k : Nat) (a0 : (Int × (Int × ((List Int) × Unit)))) (a1 : (Int × (Int × Unit))) (r2 : (Int × (Int × ((List Int) × ((List Int) × Unit))))) (rec8 : (Int × Int) → Option (Int × (Bool × Unit))) (x7 : (Int × Int)) : Option (Int × (Bool × Unit)) :=
  if (decide (x7.2 < (r2.2.2.2.1.length : Int))) = true then
    if (inb x7.2 r2.2.2.2.1.length) = true then
    rec8 ((IntKind.i64.wrap (x7.1 + (r2.2.2.2.1.getD x7.2.toNat (0 : Int)))), (IntKind.i64.wrap (x7.2 + (1 : Int))))
    else none
  else
    some (x7.1, (true, ()))
def go_spec_CountPeaceful_L0 (k : Nat) (a0 : (Int × (Int × ((List Int) × Unit)))) (a1 : (Int × (Int × Unit))) (r2 : (Int × (Int × ((List Int) × ((List Int) × Unit))))) : (Int × Int) → Option (Int × (Bool × Unit)) :=
  iter k fun rec8 x7 => go_spec_CountPeaceful_L0_G k a0 a1 r2 rec8 x7
theorem go_spec_CountPeaceful_L0_t (k : Nat) (a0 : (Int × (Int × ((List Int) × Unit)))) (a1 : (Int × (Int × Unit))) (r2 : (Int × (Int × ((List Int) × ((List Int) × Unit))))) (x : (Int × Int)) :
    iter k (loopAt (go_spec_CountPeaceful_C k) (bodyOf Go.Proofs.Try.f27) [1, 1, 1, 0, 1, 0] [] (finPure (go_spec_CountPeaceful_C k) Go.Proofs.Try.f27.results.toList true (.pr (.val I) (.pr (.val .bool) .un)))) (go_spec_CountPeaceful_L0_E a0 a1 r2 x) = go_spec_CountPeaceful_L0 k a0 a1 r2 x := by
  refine iter_tie (G := fun rec x => go_spec_CountPeaceful_L0_G k a0 a1 r2 rec x) (go_spec_CountPeaceful_L0_E a0 a1 r2) (fun rec x => ?_) k x
  have h : loopAt (go_spec_CountPeaceful_C k) (bodyOf Go.Proofs.Try.f27) [1, 1, 1, 0, 1, 0] [] (finPure (go_spec_CountPeaceful_C k) Go.Proofs.Try.f27.results.toList true (.pr (.val I) (.pr (.val .bool) .un))) rec (go_spec_CountPeaceful_L0_E a0 a1 r2 x) = go_spec_CountPeaceful_L0_G k a0 a1 r2 (fun y => rec (go_spec_CountPeaceful_L0_E a0 a1 r2 y)) x := by kernel_rfl
  rw [h]
def go_spec_CountPeaceful_T (k : Nat) (a0 : (Int × (Int × ((List Int) × Unit)))) (a1 : (Int × (Int × Unit))) (l_0 : (Int × (Int × ((List Int) × ((List Int) × Unit)))) → (Int × Int) → Option (Int × (Bool × Unit))) : Option (Int × (Bool × Unit)) :=
  (go_spec_guFew k a0 a1).bind fun r1 =>
  if (!r1) = true then
    some ((0 : Int), (false, ()))
  else
    (go_spec_guAll k a0 a1 false true false).bind fun r2 =>
    l_0 r2 ((0 : Int), (0 : Int))
def go_spec_CountPeaceful (k : Nat) (a0 : (Int × (Int × ((List Int) × Unit)))) (a1 : (Int × (Int × Unit))) : Option (Int × (Bool × Unit)) :=
  go_spec_CountPeaceful_T k a0 a1 (fun r2 y => go_spec_CountPeaceful_L0 k a0 a1 r2 y)
theorem go_spec_CountPeaceful_t (k : Nat) (a0 : (Int × (Int × ((List Int) × Unit)))) (a1 : (Int × (Int × Unit))) : runPure (go_spec_CountPeaceful_C k) (bodyOf Go.Proofs.Try.f27) Go.Proofs.Try.f27.results.toList true (.pr (.val (.pair I (.pair I (.pair (.sl I) .unit)))) (.pr (.val (.pair I (.pair I .unit))) .un)) (.pr (.val I) (.pr (.val .bool) .un)) (a0, a1, ()) = go_spec_CountPeaceful k a0 a1 := by
  have h : runPure (go_spec_CountPeaceful_C k) (bodyOf Go.Proofs.Try.f27) Go.Proofs.Try.f27.results.toList true (.pr (.val (.pair I (.pair I (.pair (.sl I) .unit)))) (.pr (.val (.pair I (.pair I .unit))) .un)) (.pr (.val I) (.pr (.val .bool) .un)) (a0, a1, ()) = go_spec_CountPeaceful_T k a0 a1 (fun r2 y => iter k (loopAt (go_spec_CountPeaceful_C k) (bodyOf Go.Proofs.Try.f27) [1, 1, 1, 0, 1, 0] [] (finPure (go_spec_CountPeaceful_C k) Go.Proofs.Try.f27.results.toList true (.pr (.val I) (.pr (.val .bool) .un)))) (go_spec_CountPeaceful_L0_E a0 a1 r2 y)) := by kernel_rfl
  have h0 : (fun r2 y => iter k (loopAt (go_spec_CountPeaceful_C k) (bodyOf Go.Proofs.Try.f27) [1, 1, 1, 0, 1, 0] [] (finPure (go_spec_CountPeaceful_C k) Go.Proofs.Try.f27.results.toList true (.pr (.val I) (.pr (.val .bool) .un)))) (go_spec_CountPeaceful_L0_E a0 a1 r2 y)) = (fun r2 y => go_spec_CountPeaceful_L0 k a0 a1 r2 y) := by
    funext r2 y
    exact go_spec_CountPeaceful_L0_t k a0 a1 r2 y
  rw [h, h0]
  rfl
def go_spec_CountPeaceful_S (k : Nat) : Spec := ⟨(.pr (.val (.pair I (.pair I (.pair (.sl I) .unit)))) (.pr (.val (.pair I (.pair I .unit))) .un)), (.pr (.val I) (.pr (.val .bool) .un)), true, .inl fun x => go_spec_CountPeaceful k x.1 x.2.1⟩
theorem go_spec_CountPeaceful_F (k : Nat) : Fits Go.Proofs.Try.prog (go_spec_CountPeaceful_C k) 27 Go.Proofs.Try.f27 (bodyOf Go.Proofs.Try.f27) (.pr (.val (.pair I (.pair I (.pair (.sl I) .unit)))) (.pr (.val (.pair I (.pair I .unit))) .un)) (.pr (.val I) (.pr (.val .bool) .un)) true :=
  ⟨th0, mixed0, by kernel_rfl, Go.Proofs.Try.func27, rfl, by kernel_rfl, rfl, rfl, rfl, rfl, rfl, rfl⟩
theorem go_spec_CountPeaceful_M (k : Nat) : Meets Go.Proofs.Try.prog 27 (go_spec_CountPeaceful_S k) :=
  meets_pure (go_spec_CountPeaceful_F k) (sigs_all (l := [(59, go_spec_guFew_S k), (60, go_spec_guAll_S k)]) rfl ⟨go_spec_guFew_M k, ⟨go_spec_guAll_M k, trivial⟩⟩) rfl fun x => go_spec_CountPeaceful_t k x.1 x.2.1

/-! ### impl.tourGraph -/
def go_impl_tourGraph_C (k : Nat) : Ctx := { th := TH, se := SE, sg := [(83, go_impl_graphOf_S k)], mu := [], an := [], dr := [], pre := [], d2 := [], m := 0, fx := [], n := 28, k := k }
def go_impl_tourGraph (k : Nat) (a0 : (Int × (Int × ((List Int) × Unit)))) (a1 : (Int × (Int × Unit))) (a2 : Int) : Option ((Option ((Int × (Int × ((List Int) × Unit))) × ((Int × (Int × Unit)) × ((List Int) × ((List (List Int)) × Unit))))) × (Bool × Unit)) :=
  (go_impl_graphOf k a0 a1).bind fun r1 =>
  if (!(!(!r1.2.1)) || r1.1.isSome) = true then
  if ((!r1.2.1) || (decide (a2 < ((r1.1.getD (((0 : Int), ((0 : Int), ([], ()))), (((0 : Int), ((0 : Int), ())), ([], ([], ()))))).2.2.1.length : Int)))) = true then
    some (none, (false, ()))
  else
    some (r1.1, (true, ()))
  else none
theorem go_impl_tourGraph_t (k : Nat) (a0 : (Int × (Int × ((List Int) × Unit)))) (a1 : (Int × (Int × Unit))) (a2 : Int) : runPure (go_impl_tourGraph_C k) (bodyOf Go.Proofs.Try.f66) Go.Proofs.Try.f66.results.toList true (.pr (.val (.pair I (.pair I (.pair (.sl I) .unit)))) (.pr (.val (.pair I (.pair I .unit))) (.pr (.val I) .un))) (.pr (.val (.pt (.pair (.pair I (.pair I (.pair (.sl I) .unit))) (.pair (.pair I (.pair I .unit)) (.pair (.sl I) (.pair (.sl (.sl I)) .unit)))))) (.pr (.val .bool) .un)) (a0, a1, a2, ()) = go_impl_tourGraph k a0 a1 a2 := by kernel_rfl
def go_impl_tourGraph_S (k : Nat) : Spec := ⟨(.pr (.val (.pair I (.pair I (.pair (.sl I) .unit)))) (.pr (.val (.pair I (.pair I .unit))) (.pr (.val I) .un))), (.pr (.val (.pt (.pair (.pair I (.pair I (.pair (.sl I) .unit))) (.pair (.pair I (.pair I .unit)) (.pair (.sl I) (.pair (.sl (.sl I)) .unit)))))) (.pr (.val .bool) .un)), true, .inl fun x => go_impl_tourGraph k x.1 x.2.1 x.2.2.1⟩
theorem go_impl_tourGraph_F (k : Nat) : Fits Go.Proofs.Try.prog (go_impl_tourGraph_C k) 66 Go.Proofs.Try.f66 (bodyOf Go.Proofs.Try.f66) (.pr (.val (.pair I (.pair I (.pair (.sl I) .unit)))) (.pr (.val (.pair I (.pair I .unit))) (.pr (.val I) .un))) (.pr (.val (.pt (.pair (.pair I (.pair I (.pair (.sl I) .unit))) (.pair (.pair I (.pair I .unit)) (.pair (.sl I) (.pair (.sl (.sl I)) .unit)))))) (.pr (.val .bool) .un)) true :=
  ⟨th0, mixed0, by kernel_rfl, Go.Proofs.Try.func66, rfl, by kernel_rfl, rfl, rfl, rfl, rfl, rfl, rfl⟩
theorem go_impl_tourGraph_M (k : Nat) : Meets Go.Proofs.Try.prog 66 (go_impl_tourGraph_S k) :=
  meets_pure (go_impl_tourGraph_F k) (sigs_all (l := [(83, go_impl_graphOf_S k)]) rfl ⟨go_impl_graphOf_M k, trivial⟩) rfl fun x => go_impl_tourGraph_t k x.1 x.2.1 x.2.2.1

/-! ### (*impl.graph).leaps -/
def go_impl_graph_leaps_C (k : Nat) : Ctx := { th := TH, se := SE, sg := [(120, go_slices_Contains_int_S k)], mu := [], an := [], dr := [], pre := [], d2 := [], m := 0, fx := [], n := 16, k := k }
def go_impl_graph_leaps (k : Nat) (a0 : (Option ((Int × (Int × ((List Int) × Unit))) × ((Int × (Int × Unit)) × ((List Int) × ((List (List Int)) × Unit)))))) (a1 : Int) (a2 : Int) : Option Bool :=
  if a0.isSome = true then
  if (inb a1 (a0.getD (((0 : Int), ((0 : Int), ([], ()))), (((0 : Int), ((0 : Int), ())), ([], ([], ()))))).2.2.2.1.length) = true then
  (go_slices_Contains_int k ((a0.getD (((0 : Int), ((0 : Int), ([], ()))), (((0 : Int), ((0 : Int), ())), ([], ([], ()))))).2.2.2.1.getD a1.toNat []) a2).bind fun r1 =>
  some r1
  else none
  else none
theorem go_impl_graph_leaps_t (k : Nat) (a0 : (Option ((Int × (Int × ((List Int) × Unit))) × ((Int × (Int × Unit)) × ((List Int) × ((List (List Int)) × Unit)))))) (a1 : Int) (a2 : Int) : runPure (go_impl_graph_leaps_C k) (bodyOf Go.Proofs.Try.f107) Go.Proofs.Try.f107.results.toList false (.pr (.val (.pt (.pair (.pair I (.pair I (.pair (.sl I) .unit))) (.pair (.pair I (.pair I .unit)) (.pair (.sl I) (.pair (.sl (.sl I)) .unit)))))) (.pr (.val I) (.pr (.val I) .un))) (.val .bool) (a0, a1, a2, ()) = go_impl_graph_leaps k a0 a1 a2 := by kernel_rfl
def go_impl_graph_leaps_S (k : Nat) : Spec := ⟨(.pr (.val (.pt (.pair (.pair I (.pair I (.pair (.sl I) .unit))) (.pair (.pair I (.pair I .unit)) (.pair (.sl I) (.pair (.sl (.sl I)) .unit)))))) (.pr (.val I) (.pr (.val I) .un))), (.val .bool), false, .inl fun x => go_impl_graph_leaps k x.1 x.2.1 x.2.2.1⟩
theorem go_impl_graph_leaps_F (k : Nat) : Fits Go.Proofs.Try.prog (go_impl_graph_leaps_C k) 107 Go.Proofs.Try.f107 (bodyOf Go.Proofs.Try.f107) (.pr (.val (.pt (.pair (.pair I (.pair I (.pair (.sl I) .unit))) (.pair (.pair I (.pair I .unit)) (.pair (.sl I) (.pair (.sl (.sl I)) .unit)))))) (.pr (.val I) (.pr (.val I) .un))) (.val .bool) false :=
  ⟨th0, mixed0, by kernel_rfl, Go.Proofs.Try.func107, rfl, by kernel_rfl, rfl, rfl, rfl, rfl, rfl, rfl⟩
theorem go_impl_graph_leaps_M (k : Nat) : Meets Go.Proofs.Try.prog 107 (go_impl_graph_leaps_S k) :=
  meets_pure (go_impl_graph_leaps_F k) (sigs_all (l := [(120, go_slices_Contains_int_S k)]) rfl ⟨go_slices_Contains_int_M k, trivial⟩) rfl fun x => go_impl_graph_leaps_t k x.1 x.2.1 x.2.2.1

/-! ### (*impl.graph).masks -/
def go_impl_graph_masks_C (k : Nat) : Ctx := { th := TH, se := SE, sg := [(107, go_impl_graph_leaps_S k)], mu := [], an := [(3, [(0, false), (3, true), (12, false), (13, false), (14, false)]), (7, [(0, false), (3, false), (5, false), (6, false), (12, false), (13, false), (14, false), (21, false), (22, false), (23, false)])], dr := [], pre := [], d2 := [], m := 0, fx := [], n := 43, k := k }
def go_impl_graph_masks_L0_E (a0 : (Option ((Int × (Int × ((List Int) × Unit))) × ((Int × (Int × Unit)) × ((List Int) × ((List (List Int)) × Unit)))))) (x34 : (Int × (List Int))) : St :=
  ⟨[(0, .one (.val (.pt (.pair (.pair I (.pair I (.pair (.sl I) .unit))) (.pair (.pair I (.pair I .unit)) (.pair (.sl I) (.pair (.sl (.sl I)) .unit))))) a0), []), (3, .one (.own 0), []), (12, .one (.val (.sl I) (a0.getD (((0 : Int), ((0 : Int), ([], ()))), (((0 : Int), ((0 : Int), ())), ([], ([], ()))))).2.2.1), []), (13, .one (.val I ((a0.getD (((0 : Int), ((0 : Int), ([], ()))), (((0 : Int), ((0 : Int), ())), ([], ([], ()))))).2.2.1.length : Int)), []), (14, .one (.val I x34.1), [])], [.arr 3 I x34.2], []⟩
def go_impl_graph_masks_L1_E (a0 : (Option ((Int × (Int × ((List Int) × Unit))) × ((Int × (Int × Unit)) × ((List Int) × ((List (List Int)) × Unit)))))) (x34 : (Int × (List Int))) (x42 : (Int × Int)) : St :=
  ⟨[(0, .one (.val (.pt (.pair (.pair I (.pair I (.pair (.sl I) .unit))) (.pair (.pair I (.pair I .unit)) (.pair (.sl I) (.pair (.sl (.sl I)) .unit))))) a0), []), (3, .one (.own 0), []), (5, .one (.val I ((a0.getD (((0 : Int), ((0 : Int), ([], ()))), (((0 : Int), ((0 : Int), ())), ([], ([], ()))))).2.2.1.getD x34.1.toNat (0 : Int))), []), (6, .one (.val I x42.1), []), (12, .one (.val (.sl I) (a0.getD (((0 : Int), ((0 : Int), ([], ()))), (((0 : Int), ((0 : Int), ())), ([], ([], ()))))).2.2.1), []), (13, .one (.val I ((a0.getD (((0 : Int), ((0 : Int), ([], ()))), (((0 : Int), ((0 : Int), ())), ([], ([], ()))))).2.2.1.length : Int)), []), (14, .one (.val I x34.1), []), (21, .one (.val (.sl I) (a0.getD (((0 : Int), ((0 : Int), ([], ()))), (((0 : Int), ((0 : Int), ())), ([], ([], ()))))).2.2.1), []), (22, .one (.val I ((a0.getD (((0 : Int), ((0 : Int), ([], ()))), (((0 : Int), ((0 : Int), ())), ([], ([], ()))))).2.2.1.length : Int)), []), (23, .one (.val I x42.2), [])], [.arr 3 I x34.2], []⟩
def go_impl_graph_masks_L1_G (k : Nat) (a0 : (Option ((Int × (Int × ((List Int) × Unit))) × ((Int × (Int × Unit)) × ((List Int) × ((List (List Int)) × Unit)))))) (x34 : (Int × (List Int))) (rec35 : (Int × (List Int)) → Option (List Int)) (rec43 : (Int × Int) → Option (List Int)) (x42 : (Int × Int)) : Option (List Int) :=
  if (decide (x42.2 < ((a0.getD (((0 : Int), ((0 : Int), ([], ()))), (((0 : Int), ((0 : Int), ())), ([], ([], ()))))).2.2.1.length : Int))) = true then
    if (inb x42.2 (a0.getD (((0 : Int), ((0 : Int), ([], ()))), (((0 : Int), ((0 : Int), ())), ([], ([], ()))))).2.2.1.length) = true then
    (go_impl_graph_leaps k a0 ((a0.getD (((0 : Int), ((0 : Int), ([], ()))), (((0 : Int), ((0 : Int), ())), ([], ([], ()))))).2.2.1.getD x34.1.toNat (0 : Int)) ((a0.getD (((0 : Int), ((0 : Int), ([], ()))), (((0 : Int), ((0 : Int), ())), ([], ([], ()))))).2.2.1.getD x42.2.toNat (0 : Int))).bind fun r44 =>
    if r44 = true then
      if (decide (0 ≤ x42.2)) = true then
      rec43 ((IntKind.i64.wrap (((BitVec.ofInt (IntKind.i64.bits) x42.1 ||| BitVec.ofInt (IntKind.i64.bits) (IntKind.i64.wrap ((1 : Int) * 2 ^ (min x42.2.toNat (IntKind.i64.bits))))).toNat : Int))), (IntKind.i64.wrap (x42.2 + (1 : Int))))
      else none
    else
      rec43 (x42.1, (IntKind.i64.wrap (x42.2 + (1 : Int))))
    else none
  else
    if (decide (x34.2.length + [x42.1].length ≤ LIM)) = true then
    rec35 ((IntKind.i64.wrap (x34.1 + (1 : Int))), (x34.2 ++ [x42.1]))
    else none
def go_impl_graph_masks_L1 (k : Nat) (a0 : (Option ((Int × (Int × ((List Int) × Unit))) × ((Int × (Int × Unit)) × ((List Int) × ((List (List Int)) × Unit)))))) (rec35 : (Int × (List Int)) → Option (List Int)) (x34 : (Int × (List Int))) : (Int × Int) → Option (List Int) :=
  iter k fun rec43 x42 => go_impl_graph_masks_L1_G k a0 x34 rec35 rec43 x42
theorem go_impl_graph_masks_L1_t (k : Nat) (a0 : (Option ((Int × (Int × ((List Int) × Unit))) × ((Int × (Int × Unit)) × ((List Int) × ((List (List Int)) × Unit)))))) (s0 : St → Option (List Int)) (x34 : (Int × (List Int))) (x : (Int × Int)) :
    iter k (loopAt (go_impl_graph_masks_C k) (bodyOf Go.Proofs.Try.f88) [1, 1, 0, 1, 0, 0, 1, 1, 0, 0, 1, 1, 0, 1, 0] [s0] (finPure (go_impl_graph_masks_C k) Go.Proofs.Try.f88.results.toList false (.val (.sl I)))) (go_impl_graph_masks_L1_E a0 x34 x) = go_impl_graph_masks_L1 k a0 (fun y => s0 (go_impl_graph_masks_L0_E a0 y)) x34 x := by
  refine iter_tie (G := fun rec x => go_impl_graph_masks_L1_G k a0 x34 (fun y => s0 (go_impl_graph_masks_L0_E a0 y)) rec x) (go_impl_graph_masks_L1_E a0 x34) (fun rec x => ?_) k x
  have h : loopAt (go_impl_graph_masks_C k) (bodyOf Go.Proofs.Try.f88) [1, 1, 0, 1, 0, 0, 1, 1, 0, 0, 1, 1, 0, 1, 0] [s0] (finPure (go_impl_graph_masks_C k) Go.Proofs.Try.f88.results.toList false (.val (.sl I))) rec (go_impl_graph_masks_L1_E a0 x34 x) = go_impl_graph_masks_L1_G k a0 x34 (fun y => s0 (go_impl_graph_masks_L0_E a0 y)) (fun y => rec (go_impl_graph_masks_L1_E a0 x34 y)) x := by kernel_rfl
  rw [h]
def go_impl_graph_masks_L0_G (k : Nat) (a0 : (Option ((Int × (Int × ((List Int) × Unit))) × ((Int × (Int × Unit)) × ((List Int) × ((List (List Int)) × Unit)))))) (l_1 : (Int × (List Int)) → (Int × Int) → Option (List Int)) (rec35 : (Int × (List Int)) → Option (List Int)) (x34 : (Int × (List Int))) : Option (List Int) :=
  if (decide (x34.1 < ((a0.getD (((0 : Int), ((0 : Int), ([], ()))), (((0 : Int), ((0 : Int), ())), ([], ([], ()))))).2.2.1.length : Int))) = true then
    if (inb x34.1 (a0.getD (((0 : Int), ((0 : Int), ([], ()))), (((0 : Int), ((0 : Int), ())), ([], ([], ()))))).2.2.1.length) = true then
    if a0.isSome = true then
    l_1 x34 ((0 : Int), (0 : Int))
    else none
    else none
  else
    some x34.2
def go_impl_graph_masks_L0 (k : Nat) (a0 : (Option ((Int × (Int × ((List Int) × Unit))) × ((Int × (Int × Unit)) × ((List Int) × ((List (List Int)) × Unit)))))) : (Int × (List Int)) → Option (List Int) :=
  iter k fun rec35 x34 => go_impl_graph_masks_L0_G k a0 (fun c0 y => go_impl_graph_masks_L1 k a0 rec35 c0 y) rec35 x34
theorem go_impl_graph_masks_L0_t (k : Nat) (a0 : (Option ((Int × (Int × ((List Int) × Unit))) × ((Int × (Int × Unit)) × ((List Int) × ((List (List Int)) × Unit)))))) (x : (Int × (List Int))) :
    iter k (loopAt (go_impl_graph_masks_C k) (bodyOf Go.Proofs.Try.f88) [1, 1, 0, 1, 0] [] (finPure (go_impl_graph_masks_C k) Go.Proofs.Try.f88.results.toList false (.val (.sl I)))) (go_impl_graph_masks_L0_E a0 x) = go_impl_graph_masks_L0 k a0 x := by
  refine iter_tie (G := fun rec x => go_impl_graph_masks_L0_G k a0 (fun c0 y => go_impl_graph_masks_L1 k a0 rec c0 y) rec x) (go_impl_graph_masks_L0_E a0) (fun rec x => ?_) k x
  have h : loopAt (go_impl_graph_masks_C k) (bodyOf Go.Proofs.Try.f88) [1, 1, 0, 1, 0] [] (finPure (go_impl_graph_masks_C k) Go.Proofs.Try.f88.results.toList false (.val (.sl I))) rec (go_impl_graph_masks_L0_E a0 x) = go_impl_graph_masks_L0_G k a0 (fun c0 y => iter k (loopAt (go_impl_graph_masks_C k) (bodyOf Go.Proofs.Try.f88) [1, 1, 0, 1, 0, 0, 1, 1, 0, 0, 1, 1, 0, 1, 0] [rec] (finPure (go_impl_graph_masks_C k) Go.Proofs.Try.f88.results.toList false (.val (.sl I)))) (go_impl_graph_masks_L1_E a0 c0 y)) (fun y => rec (go_impl_graph_masks_L0_E a0 y)) x := by kernel_rfl
  have h0 : (fun c0 y => iter k (loopAt (go_impl_graph_masks_C k) (bodyOf Go.Proofs.Try.f88) [1, 1, 0, 1, 0, 0, 1, 1, 0, 0, 1, 1, 0, 1, 0] [rec] (finPure (go_impl_graph_masks_C k) Go.Proofs.Try.f88.results.toList false (.val (.sl I)))) (go_impl_graph_masks_L1_E a0 c0 y)) = (fun c0 y => go_impl_graph_masks_L1 k a0 (fun y => rec (go_impl_graph_masks_L0_E a0 y)) c0 y) := by
    funext c0 y
    exact go_impl_graph_masks_L1_t k a0 rec c0 y
  rw [h, h0]
def go_impl_graph_masks_T (k : Nat) (a0 : (Option ((Int × (Int × ((List Int) × Unit))) × ((Int × (Int × Unit)) × ((List Int) × ((List (List Int)) × Unit)))))) (l_0 : (Int × (List Int)) → Option (List Int)) : Option (List Int) :=
  if a0.isSome = true then
  l_0 ((0 : Int), [])
  else none
def go_impl_graph_masks (k : Nat) (a0 : (Option ((Int × (Int × ((List Int) × Unit))) × ((Int × (Int × Unit)) × ((List Int) × ((List (List Int)) × Unit)))))) : Option (List Int) :=
  go_impl_graph_masks_T k a0 (fun y => go_impl_graph_masks_L0 k a0 y)
theorem go_impl_graph_masks_t (k : Nat) (a0 : (Option ((Int × (Int × ((List Int) × Unit))) × ((Int × (Int × Unit)) × ((List Int) × ((List (List Int)) × Unit)))))) : runPure (go_impl_graph_masks_C k) (bodyOf Go.Proofs.Try.f88) Go.Proofs.Try.f88.results.toList false (.pr (.val (.pt (.pair (.pair I (.pair I (.pair (.sl I) .unit))) (.pair (.pair I (.pair I .unit)) (.pair (.sl I) (.pair (.sl (.sl I)) .unit)))))) .un) (.val (.sl I)) (a0, ()) = go_impl_graph_masks k a0 := by
  have h : runPure (go_impl_graph_masks_C k) (bodyOf Go.Proofs.Try.f88) Go.Proofs.Try.f88.results.toList false (.pr (.val (.pt (.pair (.pair I (.pair I (.pair (.sl I) .unit))) (.pair (.pair I (.pair I .unit)) (.pair (.sl I) (.pair (.sl (.sl I)) .unit)))))) .un) (.val (.sl I)) (a0, ()) = go_impl_graph_masks_T k a0 (fun y => iter k (loopAt (go_impl_graph_masks_C k) (bodyOf Go.Proofs.Try.f88) [1, 1, 0, 1, 0] [] (finPure (go_impl_graph_masks_C k) Go.Proofs.Try.f88.results.toList false (.val (.sl I)))) (go_impl_graph_masks_L0_E a0 y)) := by kernel_rfl
  have h0 : (fun y => iter k (loopAt (go_impl_graph_masks_C k) (bodyOf Go.Proofs.Try.f88) [1, 1, 0, 1, 0] [] (finPure (go_impl_graph_masks_C k) Go.Proofs.Try.f88.results.toList false (.val (.sl I)))) (go_impl_graph_masks_L0_E a0 y)) = (fun y => go_impl_graph_masks_L0 k a0 y) := by
    funext y
    exact go_impl_graph_masks_L0_t k a0 y
  rw [h, h0]
  rfl
def go_impl_graph_masks_S (k : Nat) : Spec := ⟨(.pr (.val (.pt (.pair (.pair I (.pair I (.pair (.sl I) .unit))) (.pair (.pair I (.pair I .unit)) (.pair (.sl I) (.pair (.sl (.sl I)) .unit)))))) .un), (.val (.sl I)), false, .inl fun x => go_impl_graph_masks k x.1⟩
theorem go_impl_graph_masks_F (k : Nat) : Fits Go.Proofs.Try.prog (go_impl_graph_masks_C k) 88 Go.Proofs.Try.f88 (bodyOf Go.Proofs.Try.f88) (.pr (.val (.pt (.pair (.pair I (.pair I (.pair (.sl I) .unit))) (.pair (.pair I (.pair I .unit)) (.pair (.sl I) (.pair (.sl (.sl I)) .unit)))))) .un) (.val (.sl I)) false :=
  ⟨th0, mixed0, by kernel_rfl, Go.Proofs.Try.func88, rfl, by kernel_rfl, rfl, rfl, rfl, rfl, rfl, rfl⟩
theorem go_impl_graph_masks_M (k : Nat) : Meets Go.Proofs.Try.prog 88 (go_impl_graph_masks_S k) :=
  meets_pure (go_impl_graph_masks_F k) (sigs_all (l := [(107, go_impl_graph_leaps_S k)]) rfl ⟨go_impl_graph_leaps_M k, trivial⟩) rfl fun x => go_impl_graph_masks_t k x.1

/-! ### math/bits.OnesCount32 -/
def go_math_bits_OnesCount32_C (k : Nat) : Ctx := { th := TH, se := SE, sg := [], mu := [], an := [], dr := [(1, 16)], pre := [], d2 := [], m := 0, fx := [], n := 21, k := k }
def go_math_bits_OnesCount32 (k : Nat) (a0 : Int) : Option Int :=
  if (inb (Int.fdiv a0 (2 ^ (min (24 : Int).toNat (IntKind.u32.bits)))) str_00_01_01_02_01_02_02_03_01_02_02_03_256.size) = true then
  if (inb (IntKind.u32.wrap (((BitVec.ofInt (IntKind.u32.bits) (Int.fdiv a0 (2 ^ (min (16 : Int).toNat (IntKind.u32.bits)))) &&& BitVec.ofInt (IntKind.u32.bits) (255 : Int)).toNat : Int))) str_00_01_01_02_01_02_02_03_01_02_02_03_256.size) = true then
  if (inb (IntKind.u32.wrap (((BitVec.ofInt (IntKind.u32.bits) (Int.fdiv a0 (2 ^ (min (8 : Int).toNat (IntKind.u32.bits)))) &&& BitVec.ofInt (IntKind.u32.bits) (255 : Int)).toNat : Int))) str_00_01_01_02_01_02_02_03_01_02_02_03_256.size) = true then
  if (inb (IntKind.u32.wrap (((BitVec.ofInt (IntKind.u32.bits) a0 &&& BitVec.ofInt (IntKind.u32.bits) (255 : Int)).toNat : Int))) str_00_01_01_02_01_02_02_03_01_02_02_03_256.size) = true then
  some (IntKind.i64.wrap ((IntKind.u8.wrap ((IntKind.u8.wrap ((IntKind.u8.wrap (((str_00_01_01_02_01_02_02_03_01_02_02_03_256[(Int.fdiv a0 (2 ^ (min (24 : Int).toNat (IntKind.u32.bits)))).toNat]?.getD 0).toNat : Int) + ((str_00_01_01_02_01_02_02_03_01_02_02_03_256[(IntKind.u32.wrap (((BitVec.ofInt (IntKind.u32.bits) (Int.fdiv a0 (2 ^ (min (16 : Int).toNat (IntKind.u32.bits)))) &&& BitVec.ofInt (IntKind.u32.bits) (255 : Int)).toNat : Int))).toNat]?.getD 0).toNat : Int))) + ((str_00_01_01_02_01_02_02_03_01_02_02_03_256[(IntKind.u32.wrap (((BitVec.ofInt (IntKind.u32.bits) (Int.fdiv a0 (2 ^ (min (8 : Int).toNat (IntKind.u32.bits)))) &&& BitVec.ofInt (IntKind.u32.bits) (255 : Int)).toNat : Int))).toNat]?.getD 0).toNat : Int))) + ((str_00_01_01_02_01_02_02_03_01_02_02_03_256[(IntKind.u32.wrap (((BitVec.ofInt (IntKind.u32.bits) a0 &&& BitVec.ofInt (IntKind.u32.bits) (255 : Int)).toNat : Int))).toNat]?.getD 0).toNat : Int)))))
  else none
  else none
  else none
  else none
theorem go_math_bits_OnesCount32_t (k : Nat) (a0 : Int) : runPure (go_math_bits_OnesCount32_C k) (bodyOf Go.Proofs.Try.f108) Go.Proofs.Try.f108.results.toList false (.pr (.val (.int .u32)) .un) (.val I) (a0, ()) = go_math_bits_OnesCount32 k a0 := by kernel_rfl
def go_math_bits_OnesCount32_S (k : Nat) : Spec := ⟨(.pr (.val (.int .u32)) .un), (.val I), false, .inl fun x => go_math_bits_OnesCount32 k x.1⟩
theorem go_math_bits_OnesCount32_F (k : Nat) : Fits Go.Proofs.Try.prog (go_math_bits_OnesCount32_C k) 108 Go.Proofs.Try.f108 (bodyOf Go.Proofs.Try.f108) (.pr (.val (.int .u32)) .un) (.val I) false :=
  ⟨th0, mixed0, by kernel_rfl, Go.Proofs.Try.func108, rfl, by kernel_rfl, rfl, rfl, rfl, rfl, rfl, rfl⟩
theorem go_math_bits_OnesCount32_M (k : Nat) : Meets Go.Proofs.Try.prog 108 (go_math_bits_OnesCount32_S k) :=
  meets_pure (go_math_bits_OnesCount32_F k) (sigs_all (l := []) rfl trivial) rfl fun x => go_math_bits_OnesCount32_t k x.1

/-! ### math/bits.OnesCount64 -/
def go_math_bits_OnesCount64_C (k : Nat) : Ctx := { th := TH, se := SE, sg := [], mu := [], an := [], dr := [], pre := [], d2 := [], m := 0, fx := [], n := 35, k := k }
def go_math_bits_OnesCount64 (k : Nat) (a0 : Int) : Option Int :=
  some (IntKind.i64.wrap (((BitVec.ofInt (IntKind.i64.bits) (IntKind.i64.wrap ((IntKind.u64.wrap ((IntKind.u64.wrap ((IntKind.u64.wrap ((IntKind.u64.wrap (((BitVec.ofInt (IntKind.u64.bits) (IntKind.u64.wrap ((Int.fdiv (IntKind.u64.wrap ((IntKind.u64.wrap (((BitVec.ofInt (IntKind.u64.bits) (Int.fdiv (IntKind.u64.wrap ((IntKind.u64.wrap (((BitVec.ofInt (IntKind.u64.bits) (Int.fdiv a0 (2 ^ (min (1 : Int).toNat (IntKind.u64.bits)))) &&& BitVec.ofInt (IntKind.u64.bits) (6148914691236517205 : Int)).toNat : Int))) + (IntKind.u64.wrap (((BitVec.ofInt (IntKind.u64.bits) a0 &&& BitVec.ofInt (IntKind.u64.bits) (6148914691236517205 : Int)).toNat : Int))))) (2 ^ (min (2 : Int).toNat (IntKind.u64.bits)))) &&& BitVec.ofInt (IntKind.u64.bits) (3689348814741910323 : Int)).toNat : Int))) + (IntKind.u64.wrap (((BitVec.ofInt (IntKind.u64.bits) (IntKind.u64.wrap ((IntKind.u64.wrap (((BitVec.ofInt (IntKind.u64.bits) (Int.fdiv a0 (2 ^ (min (1 : Int).toNat (IntKind.u64.bits)))) &&& BitVec.ofInt (IntKind.u64.bits) (6148914691236517205 : Int)).toNat : Int))) + (IntKind.u64.wrap (((BitVec.ofInt (IntKind.u64.bits) a0 &&& BitVec.ofInt (IntKind.u64.bits) (6148914691236517205 : Int)).toNat : Int))))) &&& BitVec.ofInt (IntKind.u64.bits) (3689348814741910323 : Int)).toNat : Int))))) (2 ^ (min (4 : Int).toNat (IntKind.u64.bits)))) + (IntKind.u64.wrap ((IntKind.u64.wrap (((BitVec.ofInt (IntKind.u64.bits) (Int.fdiv (IntKind.u64.wrap ((IntKind.u64.wrap (((BitVec.ofInt (IntKind.u64.bits) (Int.fdiv a0 (2 ^ (min (1 : Int).toNat (IntKind.u64.bits)))) &&& BitVec.ofInt (IntKind.u64.bits) (6148914691236517205 : Int)).toNat : Int))) + (IntKind.u64.wrap (((BitVec.ofInt (IntKind.u64.bits) a0 &&& BitVec.ofInt (IntKind.u64.bits) (6148914691236517205 : Int)).toNat : Int))))) (2 ^ (min (2 : Int).toNat (IntKind.u64.bits)))) &&& BitVec.ofInt (IntKind.u64.bits) (3689348814741910323 : Int)).toNat : Int))) + (IntKind.u64.wrap (((BitVec.ofInt (IntKind.u64.bits) (IntKind.u64.wrap ((IntKind.u64.wrap (((BitVec.ofInt (IntKind.u64.bits) (Int.fdiv a0 (2 ^ (min (1 : Int).toNat (IntKind.u64.bits)))) &&& BitVec.ofInt (IntKind.u64.bits) (6148914691236517205 : Int)).toNat : Int))) + (IntKind.u64.wrap (((BitVec.ofInt (IntKind.u64.bits) a0 &&& BitVec.ofInt (IntKind.u64.bits) (6148914691236517205 : Int)).toNat : Int))))) &&& BitVec.ofInt (IntKind.u64.bits) (3689348814741910323 : Int)).toNat : Int))))))) &&& BitVec.ofInt (IntKind.u64.bits) (1085102592571150095 : Int)).toNat : Int))) + (Int.fdiv (IntKind.u64.wrap (((BitVec.ofInt (IntKind.u64.bits) (IntKind.u64.wrap ((Int.fdiv (IntKind.u64.wrap ((IntKind.u64.wrap (((BitVec.ofInt (IntKind.u64.bits) (Int.fdiv (IntKind.u64.wrap ((IntKind.u64.wrap (((BitVec.ofInt (IntKind.u64.bits) (Int.fdiv a0 (2 ^ (min (1 : Int).toNat (IntKind.u64.bits)))) &&& BitVec.ofInt (IntKind.u64.bits) (6148914691236517205 : Int)).toNat : Int))) + (IntKind.u64.wrap (((BitVec.ofInt (IntKind.u64.bits) a0 &&& BitVec.ofInt (IntKind.u64.bits) (6148914691236517205 : Int)).toNat : Int))))) (2 ^ (min (2 : Int).toNat (IntKind.u64.bits)))) &&& BitVec.ofInt (IntKind.u64.bits) (3689348814741910323 : Int)).toNat : Int))) + (IntKind.u64.wrap (((BitVec.ofInt (IntKind.u64.bits) (IntKind.u64.wrap ((IntKind.u64.wrap (((BitVec.ofInt (IntKind.u64.bits) (Int.fdiv a0 (2 ^ (min (1 : Int).toNat (IntKind.u64.bits)))) &&& BitVec.ofInt (IntKind.u64.bits) (6148914691236517205 : Int)).toNat : Int))) + (IntKind.u64.wrap (((BitVec.ofInt (IntKind.u64.bits) a0 &&& BitVec.ofInt (IntKind.u64.bits) (6148914691236517205 : Int)).toNat : Int))))) &&& BitVec.ofInt (IntKind.u64.bits) (3689348814741910323 : Int)).toNat : Int))))) (2 ^ (min (4 : Int).toNat (IntKind.u64.bits)))) + (IntKind.u64.wrap ((IntKind.u64.wrap (((BitVec.ofInt (IntKind.u64.bits) (Int.fdiv (IntKind.u64.wrap ((IntKind.u64.wrap (((BitVec.ofInt (IntKind.u64.bits) (Int.fdiv a0 (2 ^ (min (1 : Int).toNat (IntKind.u64.bits)))) &&& BitVec.ofInt (IntKind.u64.bits) (6148914691236517205 : Int)).toNat : Int))) + (IntKind.u64.wrap (((BitVec.ofInt (IntKind.u64.bits) a0 &&& BitVec.ofInt (IntKind.u64.bits) (6148914691236517205 : Int)).toNat : Int))))) (2 ^ (min (2 : Int).toNat (IntKind.u64.bits)))) &&& BitVec.ofInt (IntKind.u64.bits) (3689348814741910323 : Int)).toNat : Int))) + (IntKind.u64.wrap (((BitVec.ofInt (IntKind.u64.bits) (IntKind.u64.wrap ((IntKind.u64.wrap (((BitVec.ofInt (IntKind.u64.bits) (Int.fdiv a0 (2 ^ (min (1 : Int).toNat (IntKind.u64.bits)))) &&& BitVec.ofInt (IntKind.u64.bits) (6148914691236517205 : Int)).toNat : Int))) + (IntKind.u64.wrap (((BitVec.ofInt (IntKind.u64.bits) a0 &&& BitVec.ofInt (IntKind.u64.bits) (6148914691236517205 : Int)).toNat : Int))))) &&& BitVec.ofInt (IntKind.u64.bits) (3689348814741910323 : Int)).toNat : Int))))))) &&& BitVec.ofInt (IntKind.u64.bits) (1085102592571150095 : Int)).toNat : Int))) (2 ^ (min (8 : Int).toNat (IntKind.u64.bits)))))) + (Int.fdiv (IntKind.u64.wrap ((IntKind.u64.wrap (((BitVec.ofInt (IntKind.u64.bits) (IntKind.u64.wrap ((Int.fdiv (IntKind.u64.wrap ((IntKind.u64.wrap (((BitVec.ofInt (IntKind.u64.bits) (Int.fdiv (IntKind.u64.wrap ((IntKind.u64.wrap (((BitVec.ofInt (IntKind.u64.bits) (Int.fdiv a0 (2 ^ (min (1 : Int).toNat (IntKind.u64.bits)))) &&& BitVec.ofInt (IntKind.u64.bits) (6148914691236517205 : Int)).toNat : Int))) + (IntKind.u64.wrap (((BitVec.ofInt (IntKind.u64.bits) a0 &&& BitVec.ofInt (IntKind.u64.bits) (6148914691236517205 : Int)).toNat : Int))))) (2 ^ (min (2 : Int).toNat (IntKind.u64.bits)))) &&& BitVec.ofInt (IntKind.u64.bits) (3689348814741910323 : Int)).toNat : Int))) + (IntKind.u64.wrap (((BitVec.ofInt (IntKind.u64.bits) (IntKind.u64.wrap ((IntKind.u64.wrap (((BitVec.ofInt (IntKind.u64.bits) (Int.fdiv a0 (2 ^ (min (1 : Int).toNat (IntKind.u64.bits)))) &&& BitVec.ofInt (IntKind.u64.bits) (6148914691236517205 : Int)).toNat : Int))) + (IntKind.u64.wrap (((BitVec.ofInt (IntKind.u64.bits) a0 &&& BitVec.ofInt (IntKind.u64.bits) (6148914691236517205 : Int)).toNat : Int))))) &&& BitVec.ofInt (IntKind.u64.bits) (3689348814741910323 : Int)).toNat : Int))))) (2 ^ (min (4 : Int).toNat (IntKind.u64.bits)))) + (IntKind.u64.wrap ((IntKind.u64.wrap (((BitVec.ofInt (IntKind.u64.bits) (Int.fdiv (IntKind.u64.wrap ((IntKind.u64.wrap (((BitVec.ofInt (IntKind.u64.bits) (Int.fdiv a0 (2 ^ (min (1 : Int).toNat (IntKind.u64.bits)))) &&& BitVec.ofInt (IntKind.u64.bits) (6148914691236517205 : Int)).toNat : Int))) + (IntKind.u64.wrap (((BitVec.ofInt (IntKind.u64.bits) a0 &&& BitVec.ofInt (IntKind.u64.bits) (6148914691236517205 : Int)).toNat : Int))))) (2 ^ (min (2 : Int).toNat (IntKind.u64.bits)))) &&& BitVec.ofInt (IntKind.u64.bits) (3689348814741910323 : Int)).toNat : Int))) + (IntKind.u64.wrap (((BitVec.ofInt (IntKind.u64.bits) (IntKind.u64.wrap ((IntKind.u64.wrap (((BitVec.ofInt (IntKind.u64.bits) (Int.fdiv a0 (2 ^ (min (1 : Int).toNat (IntKind.u64.bits)))) &&& BitVec.ofInt (IntKind.u64.bits) (6148914691236517205 : Int)).toNat : Int))) + (IntKind.u64.wrap (((BitVec.ofInt (IntKind.u64.bits) a0 &&& BitVec.ofInt (IntKind.u64.bits) (6148914691236517205 : Int)).toNat : Int))))) &&& BitVec.ofInt (IntKind.u64.bits) (3689348814741910323 : Int)).toNat : Int))))))) &&& BitVec.ofInt (IntKind.u64.bits) (1085102592571150095 : Int)).toNat : Int))) + (Int.fdiv (IntKind.u64.wrap (((BitVec.ofInt (IntKind.u64.bits) (IntKind.u64.wrap ((Int.fdiv (IntKind.u64.wrap ((IntKind.u64.wrap (((BitVec.ofInt (IntKind.u64.bits) (Int.fdiv (IntKind.u64.wrap ((IntKind.u64.wrap (((BitVec.ofInt (IntKind.u64.bits) (Int.fdiv a0 (2 ^ (min (1 : Int).toNat (IntKind.u64.bits)))) &&& BitVec.ofInt (IntKind.u64.bits) (6148914691236517205 : Int)).toNat : Int))) + (IntKind.u64.wrap (((BitVec.ofInt (IntKind.u64.bits) a0 &&& BitVec.ofInt (IntKind.u64.bits) (6148914691236517205 : Int)).toNat : Int))))) (2 ^ (min (2 : Int).toNat (IntKind.u64.bits)))) &&& BitVec.ofInt (IntKind.u64.bits) (3689348814741910323 : Int)).toNat : Int))) + (IntKind.u64.wrap (((BitVec.ofInt (IntKind.u64.bits) (IntKind.u64.wrap ((IntKind.u64.wrap (((BitVec.ofInt (IntKind.u64.bits) (Int.fdiv a0 (2 ^ (min (1 : Int).toNat (IntKind.u64.bits)))) &&& BitVec.ofInt (IntKind.u64.bits) (6148914691236517205 : Int)).toNat : Int))) + (IntKind.u64.wrap (((BitVec.ofInt (IntKind.u64.bits) a0 &&& BitVec.ofInt (IntKind.u64.bits) (6148914691236517205 : Int)).toNat : Int))))) &&& BitVec.ofInt (IntKind.u64.bits) (3689348814741910323 : Int)).toNat : Int))))) (2 ^ (min (4 : Int).toNat (IntKind.u64.bits)))) + (IntKind.u64.wrap ((IntKind.u64.wrap (((BitVec.ofInt (IntKind.u64.bits) (Int.fdiv (IntKind.u64.wrap ((IntKind.u64.wrap (((BitVec.ofInt (IntKind.u64.bits) (Int.fdiv a0 (2 ^ (min (1 : Int).toNat (IntKind.u64.bits)))) &&& BitVec.ofInt (IntKind.u64.bits) (6148914691236517205 : Int)).toNat : Int))) + (IntKind.u64.wrap (((BitVec.ofInt (IntKind.u64.bits) a0 &&& BitVec.ofInt (IntKind.u64.bits) (6148914691236517205 : Int)).toNat : Int))))) (2 ^ (min (2 : Int).toNat (IntKind.u64.bits)))) &&& BitVec.ofInt (IntKind.u64.bits) (3689348814741910323 : Int)).toNat : Int))) + (IntKind.u64.wrap (((BitVec.ofInt (IntKind.u64.bits) (IntKind.u64.wrap ((IntKind.u64.wrap (((BitVec.ofInt (IntKind.u64.bits) (Int.fdiv a0 (2 ^ (min (1 : Int).toNat (IntKind.u64.bits)))) &&& BitVec.ofInt (IntKind.u64.bits) (6148914691236517205 : Int)).toNat : Int))) + (IntKind.u64.wrap (((BitVec.ofInt (IntKind.u64.bits) a0 &&& BitVec.ofInt (IntKind.u64.bits) (6148914691236517205 : Int)).toNat : Int))))) &&& BitVec.ofInt (IntKind.u64.bits) (3689348814741910323 : Int)).toNat : Int))))))) &&& BitVec.ofInt (IntKind.u64.bits) (1085102592571150095 : Int)).toNat : Int))) (2 ^ (min (8 : Int).toNat (IntKind.u64.bits)))))) (2 ^ (min (16 : Int).toNat (IntKind.u64.bits)))))) + (Int.fdiv (IntKind.u64.wrap ((IntKind.u64.wrap ((IntKind.u64.wrap (((BitVec.ofInt (IntKind.u64.bits) (IntKind.u64.wrap ((Int.fdiv (IntKind.u64.wrap ((IntKind.u64.wrap (((BitVec.ofInt (IntKind.u64.bits) (Int.fdiv (IntKind.u64.wrap ((IntKind.u64.wrap (((BitVec.ofInt (IntKind.u64.bits) (Int.fdiv a0 (2 ^ (min (1 : Int).toNat (IntKind.u64.bits)))) &&& BitVec.ofInt (IntKind.u64.bits) (6148914691236517205 : Int)).toNat : Int))) + (IntKind.u64.wrap (((BitVec.ofInt (IntKind.u64.bits) a0 &&& BitVec.ofInt (IntKind.u64.bits) (6148914691236517205 : Int)).toNat : Int))))) (2 ^ (min (2 : Int).toNat (IntKind.u64.bits)))) &&& BitVec.ofInt (IntKind.u64.bits) (3689348814741910323 : Int)).toNat : Int))) + (IntKind.u64.wrap (((BitVec.ofInt (IntKind.u64.bits) (IntKind.u64.wrap ((IntKind.u64.wrap (((BitVec.ofInt (IntKind.u64.bits) (Int.fdiv a0 (2 ^ (min (1 : Int).toNat (IntKind.u64.bits)))) &&& BitVec.ofInt (IntKind.u64.bits) (6148914691236517205 : Int)).toNat : Int))) + (IntKind.u64.wrap (((BitVec.ofInt (IntKind.u64.bits) a0 &&& BitVec.ofInt (IntKind.u64.bits) (6148914691236517205 : Int)).toNat : Int))))) &&& BitVec.ofInt (IntKind.u64.bits) (3689348814741910323 : Int)).toNat : Int))))) (2 ^ (min (4 : Int).toNat (IntKind.u64.bits)))) + (IntKind.u64.wrap ((IntKind.u64.wrap (((BitVec.ofInt (IntKind.u64.bits) (Int.fdiv (IntKind.u64.wrap ((IntKind.u64.wrap (((BitVec.ofInt (IntKind.u64.bits) (Int.fdiv a0 (2 ^ (min (1 : Int).toNat (IntKind.u64.bits)))) &&& BitVec.ofInt (IntKind.u64.bits) (6148914691236517205 : Int)).toNat : Int))) + (IntKind.u64.wrap (((BitVec.ofInt (IntKind.u64.bits) a0 &&& BitVec.ofInt (IntKind.u64.bits) (6148914691236517205 : Int)).toNat : Int))))) (2 ^ (min (2 : Int).toNat (IntKind.u64.bits)))) &&& BitVec.ofInt (IntKind.u64.bits) (3689348814741910323 : Int)).toNat : Int))) + (IntKind.u64.wrap (((BitVec.ofInt (IntKind.u64.bits) (IntKind.u64.wrap ((IntKind.u64.wrap (((BitVec.ofInt (IntKind.u64.bits) (Int.fdiv a0 (2 ^ (min (1 : Int).toNat (IntKind.u64.bits)))) &&& BitVec.ofInt (IntKind.u64.bits) (6148914691236517205 : Int)).toNat : Int))) + (IntKind.u64.wrap (((BitVec.ofInt (IntKind.u64.bits) a0 &&& BitVec.ofInt (IntKind.u64.bits) (6148914691236517205 : Int)).toNat : Int))))) &&& BitVec.ofInt (IntKind.u64.bits) (3689348814741910323 : Int)).toNat : Int))))))) &&& BitVec.ofInt (IntKind.u64.bits) (1085102592571150095 : Int)).toNat : Int))) + (Int.fdiv (IntKind.u64.wrap (((BitVec.ofInt (IntKind.u64.bits) (IntKind.u64.wrap ((Int.fdiv (IntKind.u64.wrap ((IntKind.u64.wrap (((BitVec.ofInt (IntKind.u64.bits) (Int.fdiv (IntKind.u64.wrap ((IntKind.u64.wrap (((BitVec.ofInt (IntKind.u64.bits) (Int.fdiv a0 (2 ^ (min (1 : Int).toNat (IntKind.u64.bits)))) &&& BitVec.ofInt (IntKind.u64.bits) (6148914691236517205 : Int)).toNat : Int))) + (IntKind.u64.wrap (((BitVec.ofInt (IntKind.u64.bits) a0 &&& BitVec.ofInt (IntKind.u64.bits) (6148914691236517205 : Int)).toNat : Int))))) (2 ^ (min (2 : Int).toNat (IntKind.u64.bits)))) &&& BitVec.ofInt (IntKind.u64.bits) (3689348814741910323 : Int)).toNat : Int))) + (IntKind.u64.wrap (((BitVec.ofInt (IntKind.u64.bits) (IntKind.u64.wrap ((IntKind.u64.wrap (((BitVec.ofInt (IntKind.u64.bits) (Int.fdiv a0 (2 ^ (min (1 : Int).toNat (IntKind.u64.bits)))) &&& BitVec.ofInt (IntKind.u64.bits) (6148914691236517205 : Int)).toNat : Int))) + (IntKind.u64.wrap (((BitVec.ofInt (IntKind.u64.bits) a0 &&& BitVec.ofInt (IntKind.u64.bits) (6148914691236517205 : Int)).toNat : Int))))) &&& BitVec.ofInt (IntKind.u64.bits) (3689348814741910323 : Int)).toNat : Int))))) (2 ^ (min (4 : Int).toNat (IntKind.u64.bits)))) + (IntKind.u64.wrap ((IntKind.u64.wrap (((BitVec.ofInt (IntKind.u64.bits) (Int.fdiv (IntKind.u64.wrap ((IntKind.u64.wrap (((BitVec.ofInt (IntKind.u64.bits) (Int.fdiv a0 (2 ^ (min (1 : Int).toNat (IntKind.u64.bits)))) &&& BitVec.ofInt (IntKind.u64.bits) (6148914691236517205 : Int)).toNat : Int))) + (IntKind.u64.wrap (((BitVec.ofInt (IntKind.u64.bits) a0 &&& BitVec.ofInt (IntKind.u64.bits) (6148914691236517205 : Int)).toNat : Int))))) (2 ^ (min (2 : Int).toNat (IntKind.u64.bits)))) &&& BitVec.ofInt (IntKind.u64.bits) (3689348814741910323 : Int)).toNat : Int))) + (IntKind.u64.wrap (((BitVec.ofInt (IntKind.u64.bits) (IntKind.u64.wrap ((IntKind.u64.wrap (((BitVec.ofInt (IntKind.u64.bits) (Int.fdiv a0 (2 ^ (min (1 : Int).toNat (IntKind.u64.bits)))) &&& BitVec.ofInt (IntKind.u64.bits) (6148914691236517205 : Int)).toNat : Int))) + (IntKind.u64.wrap (((BitVec.ofInt (IntKind.u64.bits) a0 &&& BitVec.ofInt (IntKind.u64.bits) (6148914691236517205 : Int)).toNat : Int))))) &&& BitVec.ofInt (IntKind.u64.bits) (3689348814741910323 : Int)).toNat : Int))))))) &&& BitVec.ofInt (IntKind.u64.bits) (1085102592571150095 : Int)).toNat : Int))) (2 ^ (min (8 : Int).toNat (IntKind.u64.bits)))))) + (Int.fdiv (IntKind.u64.wrap ((IntKind.u64.wrap (((BitVec.ofInt (IntKind.u64.bits) (IntKind.u64.wrap ((Int.fdiv (IntKind.u64.wrap ((IntKind.u64.wrap (((BitVec.ofInt (IntKind.u64.bits) (Int.fdiv (IntKind.u64.wrap ((IntKind.u64.wrap (((BitVec.ofInt (IntKind.u64.bits) (Int.fdiv a0 (2 ^ (min (1 : Int).toNat (IntKind.u64.bits)))) &&& BitVec.ofInt (IntKind.u64.bits) (6148914691236517205 : Int)).toNat : Int))) + (IntKind.u64.wrap (((BitVec.ofInt (IntKind.u64.bits) a0 &&& BitVec.ofInt (IntKind.u64.bits) (6148914691236517205 : Int)).toNat : Int))))) (2 ^ (min (2 : Int).toNat (IntKind.u64.bits)))) &&& BitVec.ofInt (IntKind.u64.bits) (3689348814741910323 : Int)).toNat : Int))) + (IntKind.u64.wrap (((BitVec.ofInt (IntKind.u64.bits) (IntKind.u64.wrap ((IntKind.u64.wrap (((BitVec.ofInt (IntKind.u64.bits) (Int.fdiv a0 (2 ^ (min (1 : Int).toNat (IntKind.u64.bits)))) &&& BitVec.ofInt (IntKind.u64.bits) (6148914691236517205 : Int)).toNat : Int))) + (IntKind.u64.wrap (((BitVec.ofInt (IntKind.u64.bits) a0 &&& BitVec.ofInt (IntKind.u64.bits) (6148914691236517205 : Int)).toNat : Int))))) &&& BitVec.ofInt (IntKind.u64.bits) (3689348814741910323 : Int)).toNat : Int))))) (2 ^ (min (4 : Int).toNat (IntKind.u64.bits)))) + (IntKind.u64.wrap ((IntKind.u64.wrap (((BitVec.ofInt (IntKind.u64.bits) (Int.fdiv (IntKind.u64.wrap ((IntKind.u64.wrap (((BitVec.ofInt (IntKind.u64.bits) (Int.fdiv a0 (2 ^ (min (1 : Int).toNat (IntKind.u64.bits)))) &&& BitVec.ofInt (IntKind.u64.bits) (6148914691236517205 : Int)).toNat : Int))) + (IntKind.u64.wrap (((BitVec.ofInt (IntKind.u64.bits) a0 &&& BitVec.ofInt (IntKind.u64.bits) (6148914691236517205 : Int)).toNat : Int))))) (2 ^ (min (2 : Int).toNat (IntKind.u64.bits)))) &&& BitVec.ofInt (IntKind.u64.bits) (3689348814741910323 : Int)).toNat : Int))) + (IntKind.u64.wrap (((BitVec.ofInt (IntKind.u64.bits) (IntKind.u64.wrap ((IntKind.u64.wrap (((BitVec.ofInt (IntKind.u64.bits) (Int.fdiv a0 (2 ^ (min (1 : Int).toNat (IntKind.u64.bits)))) &&& BitVec.ofInt (IntKind.u64.bits) (6148914691236517205 : Int)).toNat : Int))) + (IntKind.u64.wrap (((BitVec.ofInt (IntKind.u64.bits) a0 &&& BitVec.ofInt (IntKind.u64.bits) (6148914691236517205 : Int)).toNat : Int))))) &&& BitVec.ofInt (IntKind.u64.bits) (3689348814741910323 : Int)).toNat : Int))))))) &&& BitVec.ofInt (IntKind.u64.bits) (1085102592571150095 : Int)).toNat : Int))) + (Int.fdiv (IntKind.u64.wrap (((BitVec.ofInt (IntKind.u64.bits) (IntKind.u64.wrap ((Int.fdiv (IntKind.u64.wrap ((IntKind.u64.wrap (((BitVec.ofInt (IntKind.u64.bits) (Int.fdiv (IntKind.u64.wrap ((IntKind.u64.wrap (((BitVec.ofInt (IntKind.u64.bits) (Int.fdiv a0 (2 ^ (min (1 : Int).toNat (IntKind.u64.bits)))) &&& BitVec.ofInt (IntKind.u64.bits) (6148914691236517205 : Int)).toNat : Int))) + (IntKind.u64.wrap (((BitVec.ofInt (IntKind.u64.bits) a0 &&& BitVec.ofInt (IntKind.u64.bits) (6148914691236517205 : Int)).toNat : Int))))) (2 ^ (min (2 : Int).toNat (IntKind.u64.bits)))) &&& BitVec.ofInt (IntKind.u64.bits) (3689348814741910323 : Int)).toNat : Int))) + (IntKind.u64.wrap (((BitVec.ofInt (IntKind.u64.bits) (IntKind.u64.wrap ((IntKind.u64.wrap (((BitVec.ofInt (IntKind.u64.bits) (Int.fdiv a0 (2 ^ (min (1 : Int).toNat (IntKind.u64.bits)))) &&& BitVec.ofInt (IntKind.u64.bits) (6148914691236517205 : Int)).toNat : Int))) + (IntKind.u64.wrap (((BitVec.ofInt (IntKind.u64.bits) a0 &&& BitVec.ofInt (IntKind.u64.bits) (6148914691236517205 : Int)).toNat : Int))))) &&& BitVec.ofInt (IntKind.u64.bits) (3689348814741910323 : Int)).toNat : Int))))) (2 ^ (min (4 : Int).toNat (IntKind.u64.bits)))) + (IntKind.u64.wrap ((IntKind.u64.wrap (((BitVec.ofInt (IntKind.u64.bits) (Int.fdiv (IntKind.u64.wrap ((IntKind.u64.wrap (((BitVec.ofInt (IntKind.u64.bits) (Int.fdiv a0 (2 ^ (min (1 : Int).toNat (IntKind.u64.bits)))) &&& BitVec.ofInt (IntKind.u64.bits) (6148914691236517205 : Int)).toNat : Int))) + (IntKind.u64.wrap (((BitVec.ofInt (IntKind.u64.bits) a0 &&& BitVec.ofInt (IntKind.u64.bits) (6148914691236517205 : Int)).toNat : Int))))) (2 ^ (min (2 : Int).toNat (IntKind.u64.bits)))) &&& BitVec.ofInt (IntKind.u64.bits) (3689348814741910323 : Int)).toNat : Int))) + (IntKind.u64.wrap (((BitVec.ofInt (IntKind.u64.bits) (IntKind.u64.wrap ((IntKind.u64.wrap (((BitVec.ofInt (IntKind.u64.bits) (Int.fdiv a0 (2 ^ (min (1 : Int).toNat (IntKind.u64.bits)))) &&& BitVec.ofInt (IntKind.u64.bits) (6148914691236517205 : Int)).toNat : Int))) + (IntKind.u64.wrap (((BitVec.ofInt (IntKind.u64.bits) a0 &&& BitVec.ofInt (IntKind.u64.bits) (6148914691236517205 : Int)).toNat : Int))))) &&& BitVec.ofInt (IntKind.u64.bits) (3689348814741910323 : Int)).toNat : Int))))))) &&& BitVec.ofInt (IntKind.u64.bits) (1085102592571150095 : Int)).toNat : Int))) (2 ^ (min (8 : Int).toNat (IntKind.u64.bits)))))) (2 ^ (min (16 : Int).toNat (IntKind.u64.bits)))))) (2 ^ (min (32 : Int).toNat (IntKind.u64.bits)))))))) &&& BitVec.ofInt (IntKind.i64.bits) (127 : Int)).toNat : Int)))
theorem go_math_bits_OnesCount64_t (k : Nat) (a0 : Int) : runPure (go_math_bits_OnesCount64_C k) (bodyOf Go.Proofs.Try.f109) Go.Proofs.Try.f109.results.toList false (.pr (.val (.int .u64)) .un) (.val I) (a0, ()) = go_math_bits_OnesCount64 k a0 := by kernel_rfl
def go_math_bits_OnesCount64_S (k : Nat) : Spec := ⟨(.pr (.val (.int .u64)) .un), (.val I), false, .inl fun x => go_math_bits_OnesCount64 k x.1⟩
theorem go_math_bits_OnesCount64_F (k : Nat) : Fits Go.Proofs.Try.prog (go_math_bits_OnesCount64_C k) 109 Go.Proofs.Try.f109 (bodyOf Go.Proofs.Try.f109) (.pr (.val (.int .u64)) .un) (.val I) false :=
  ⟨th0, mixed0, by kernel_rfl, Go.Proofs.Try.func109, rfl, by kernel_rfl, rfl, rfl, rfl, rfl, rfl, rfl⟩
theorem go_math_bits_OnesCount64_M (k : Nat) : Meets Go.Proofs.Try.prog 109 (go_math_bits_OnesCount64_S k) :=
  meets_pure (go_math_bits_OnesCount64_F k) (sigs_all (l := []) rfl trivial) rfl fun x => go_math_bits_OnesCount64_t k x.1

/-! ### math/bits.OnesCount -/
def go_math_bits_OnesCount_C (k : Nat) : Ctx := { th := TH, se := SE, sg := [(108, go_math_bits_OnesCount32_S k), (109, go_math_bits_OnesCount64_S k)], mu := [], an := [], dr := [], pre := [], d2 := [], m := 0, fx := [], n := 8, k := k }
def go_math_bits_OnesCount (k : Nat) (a0 : Int) : Option Int :=
  if false = true then
    (go_math_bits_OnesCount32 k (IntKind.u32.wrap (a0))).bind fun r1 =>
    some r1
  else
    (go_math_bits_OnesCount64 k a0).bind fun r2 =>
    some r2
theorem go_math_bits_OnesCount_t (k : Nat) (a0 : Int) : runPure (go_math_bits_OnesCount_C k) (bodyOf Go.Proofs.Try.f89) Go.Proofs.Try.f89.results.toList false (.pr (.val (.int .u64)) .un) (.val I) (a0, ()) = go_math_bits_OnesCount k a0 := by kernel_rfl
def go_math_bits_OnesCount_S (k : Nat) : Spec := ⟨(.pr (.val (.int .u64)) .un), (.val I), false, .inl fun x => go_math_bits_OnesCount k x.1⟩
theorem go_math_bits_OnesCount_F (k : Nat) : Fits Go.Proofs.Try.prog (go_math_bits_OnesCount_C k) 89 Go.Proofs.Try.f89 (bodyOf Go.Proofs.Try.f89) (.pr (.val (.int .u64)) .un) (.val I) false :=
  ⟨th0, mixed0, by kernel_rfl, Go.Proofs.Try.func89, rfl, by kernel_rfl, rfl, rfl, rfl, rfl, rfl, rfl⟩
theorem go_math_bits_OnesCount_M (k : Nat) : Meets Go.Proofs.Try.prog 89 (go_math_bits_OnesCount_S k) :=
  meets_pure (go_math_bits_OnesCount_F k) (sigs_all (l := [(108, go_math_bits_OnesCount32_S k), (109, go_math_bits_OnesCount64_S k)]) rfl ⟨go_math_bits_OnesCount32_M k, ⟨go_math_bits_OnesCount64_M k, trivial⟩⟩) rfl fun x => go_math_bits_OnesCount_t k x.1

/-! ### impl.calm -/
def go_impl_calm_C (k : Nat) : Ctx := { th := TH, se := SE, sg := [(66, go_impl_tourGraph_S k), (88, go_impl_graph_masks_S k), (89, go_math_bits_OnesCount_S k)], mu := [], an := [(7, [(2, false), (10, false), (11, false), (27, false), (28, false)]), (12, [(2, false), (10, false), (11, false), (12, false), (13, false), (27, false), (28, false), (41, false), (42, false)])], dr := [], pre := [], d2 := [], m := 0, fx := [], n := 68, k := k }
def go_impl_calm_L0_E (a0 : (Int × (Int × ((List Int) × Unit)))) (a1 : (Int × (Int × Unit))) (a2 : Int) (r2 : (List Int)) (x15 : (Int × Int)) : St :=
  ⟨[(2, .one (.val I a2), []), (10, .one (.val (.sl I) r2), []), (11, .one (.val I x15.1), []), (27, .one (.val I (IntKind.i64.wrap ((1 : Int) * 2 ^ (min (r2.length : Int).toNat (IntKind.i64.bits))))), []), (28, .one (.val I x15.2), [])], [], []⟩
def go_impl_calm_L1_E (a0 : (Int × (Int × ((List Int) × Unit)))) (a1 : (Int × (Int × Unit))) (a2 : Int) (r2 : (List Int)) (x15 : (Int × Int)) (x22 : (Bool × Int)) : St :=
  ⟨[(2, .one (.val I a2), []), (10, .one (.val (.sl I) r2), []), (11, .one (.val I x15.1), []), (12, .one (.val I x15.2), []), (13, .one (.val .bool x22.1), []), (27, .one (.val I (IntKind.i64.wrap ((1 : Int) * 2 ^ (min (r2.length : Int).toNat (IntKind.i64.bits))))), []), (28, .one (.val I x15.2), []), (41, .one (.val I (r2.length : Int)), []), (42, .one (.val I x22.2), [])], [], []⟩
def go_impl_calm_L1_G (k : Nat) (a0 : (Int × (Int × ((List Int) × Unit)))) (a1 : (Int × (Int × Unit))) (a2 : Int) (r2 : (List Int)) (x15 : (Int × Int)) (rec16 : (Int × Int) → Option (Int × (Bool × Unit))) (rec23 : (Bool × Int) → Option (Int × (Bool × Unit))) (x22 : (Bool × Int)) : Option (Int × (Bool × Unit)) :=
  if (decide (x22.2 < (r2.length : Int))) = true then
    if (!x22.1 || (decide (0 ≤ x22.2))) = true then
    if (!((!(decide ((IntKind.i64.wrap (((BitVec.ofInt (IntKind.i64.bits) (Int.fdiv x15.2 (2 ^ (min x22.2.toNat (IntKind.i64.bits)))) &&& BitVec.ofInt (IntKind.i64.bits) (1 : Int)).toNat : Int))) = (0 : Int)))) && x22.1) || (inb x22.2 r2.length)) = true then
    rec23 ((x22.1 && ((decide ((IntKind.i64.wrap (((BitVec.ofInt (IntKind.i64.bits) (Int.fdiv x15.2 (2 ^ (min x22.2.toNat (IntKind.i64.bits)))) &&& BitVec.ofInt (IntKind.i64.bits) (1 : Int)).toNat : Int))) = (0 : Int))) || (decide ((IntKind.i64.wrap (((BitVec.ofInt (IntKind.i64.bits) (r2.getD x22.2.toNat (0 : Int)) &&& BitVec.ofInt (IntKind.i64.bits) x15.2).toNat : Int))) = (0 : Int))))), (IntKind.i64.wrap (x22.2 + (1 : Int))))
    else none
    else none
  else
    if x22.1 = true then
      rec16 ((IntKind.i64.wrap (x15.1 + (1 : Int))), (IntKind.i64.wrap (x15.2 + (1 : Int))))
    else
      rec16 (x15.1, (IntKind.i64.wrap (x15.2 + (1 : Int))))
def go_impl_calm_L1 (k : Nat) (a0 : (Int × (Int × ((List Int) × Unit)))) (a1 : (Int × (Int × Unit))) (a2 : Int) (rec16 : (Int × Int) → Option (Int × (Bool × Unit))) (r2 : (List Int)) (x15 : (Int × Int)) : (Bool × Int) → Option (Int × (Bool × Unit)) :=
  iter k fun rec23 x22 => go_impl_calm_L1_G k a0 a1 a2 r2 x15 rec16 rec23 x22
theorem go_impl_calm_L1_t (k : Nat) (a0 : (Int × (Int × ((List Int) × Unit)))) (a1 : (Int × (Int × Unit))) (a2 : Int) (s0 : St → Option (Int × (Bool × Unit))) (r2 : (List Int)) (x15 : (Int × Int)) (x : (Bool × Int)) :
    iter k (loopAt (go_impl_calm_C k) (bodyOf Go.Proofs.Try.f61) [1, 1, 1, 1, 1, 0, 1, 0, 0, 1, 1, 0, 0, 1, 1, 1, 0, 1, 0] [s0] (finPure (go_impl_calm_C k) Go.Proofs.Try.f61.results.toList true (.pr (.val I) (.pr (.val .bool) .un)))) (go_impl_calm_L1_E a0 a1 a2 r2 x15 x) = go_impl_calm_L1 k a0 a1 a2 (fun y => s0 (go_impl_calm_L0_E a0 a1 a2 r2 y)) r2 x15 x := by
  refine iter_tie (G := fun rec x => go_impl_calm_L1_G k a0 a1 a2 r2 x15 (fun y => s0 (go_impl_calm_L0_E a0 a1 a2 r2 y)) rec x) (go_impl_calm_L1_E a0 a1 a2 r2 x15) (fun rec x => ?_) k x
  have h : loopAt (go_impl_calm_C k) (bodyOf Go.Proofs.Try.f61) [1, 1, 1, 1, 1, 0, 1, 0, 0, 1, 1, 0, 0, 1, 1, 1, 0, 1, 0] [s0] (finPure (go_impl_calm_C k) Go.Proofs.Try.f61.results.toList true (.pr (.val I) (.pr (.val .bool) .un))) rec (go_impl_calm_L1_E a0 a1 a2 r2 x15 x) = go_impl_calm_L1_G k a0 a1 a2 r2 x15 (fun y => s0 (go_impl_calm_L0_E a0 a1 a2 r2 y)) (fun y => rec (go_impl_calm_L1_E a0 a1 a2 r2 x15 y)) x := by kernel_rfl
  rw [h]
def go_impl_calm_L0_G (k : Nat) (a0 : (Int × (Int × ((List Int) × Unit)))) (a1 : (Int × (Int × Unit))) (a2 : Int) (r2 : (List Int)) (l_1 : (Int × Int) → (Bool × Int) → Option (Int × (Bool × Unit))) (rec16 : (Int × Int) → Option (Int × (Bool × Unit))) (x15 : (Int × Int)) : Option (Int × (Bool × Unit)) :=
  if (decide (x15.2 < (IntKind.i64.wrap ((1 : Int) * 2 ^ (min (r2.length : Int).toNat (IntKind.i64.bits)))))) = true then
    (if (decide ((0 : Int) ≤ a2)) = true then go_math_bits_OnesCount k (IntKind.u64.wrap (x15.2)) else some (0 : Int)).bind fun r17 =>
    if ((decide ((0 : Int) ≤ a2)) && (!decide (r17 = a2))) = true then
      rec16 (x15.1, (IntKind.i64.wrap (x15.2 + (1 : Int))))
    else
      l_1 x15 (true, (0 : Int))
  else
    some (x15.1, (true, ()))
def go_impl_calm_L0 (k : Nat) (a0 : (Int × (Int × ((List Int) × Unit)))) (a1 : (Int × (Int × Unit))) (a2 : Int) (r2 : (List Int)) : (Int × Int) → Option (Int × (Bool × Unit)) :=
  iter k fun rec16 x15 => go_impl_calm_L0_G k a0 a1 a2 r2 (fun c0 y => go_impl_calm_L1 k a0 a1 a2 rec16 r2 c0 y) rec16 x15
theorem go_impl_calm_L0_t (k : Nat) (a0 : (Int × (Int × ((List Int) × Unit)))) (a1 : (Int × (Int × Unit))) (a2 : Int) (r2 : (List Int)) (x : (Int × Int)) :
    iter k (loopAt (go_impl_calm_C k) (bodyOf Go.Proofs.Try.f61) [1, 1, 1, 1, 1, 0, 1, 0] [] (finPure (go_impl_calm_C k) Go.Proofs.Try.f61.results.toList true (.pr (.val I) (.pr (.val .bool) .un)))) (go_impl_calm_L0_E a0 a1 a2 r2 x) = go_impl_calm_L0 k a0 a1 a2 r2 x := by
  refine iter_tie (G := fun rec x => go_impl_calm_L0_G k a0 a1 a2 r2 (fun c0 y => go_impl_calm_L1 k a0 a1 a2 rec r2 c0 y) rec x) (go_impl_calm_L0_E a0 a1 a2 r2) (fun rec x => ?_) k x
  have h : loopAt (go_impl_calm_C k) (bodyOf Go.Proofs.Try.f61) [1, 1, 1, 1, 1, 0, 1, 0] [] (finPure (go_impl_calm_C k) Go.Proofs.Try.f61.results.toList true (.pr (.val I) (.pr (.val .bool) .un))) rec (go_impl_calm_L0_E a0 a1 a2 r2 x) = go_impl_calm_L0_G k a0 a1 a2 r2 (fun c0 y => iter k (loopAt (go_impl_calm_C k) (bodyOf Go.Proofs.Try.f61) [1, 1, 1, 1, 1, 0, 1, 0, 0, 1, 1, 0, 0, 1, 1, 1, 0, 1, 0] [rec] (finPure (go_impl_calm_C k) Go.Proofs.Try.f61.results.toList true (.pr (.val I) (.pr (.val .bool) .un)))) (go_impl_calm_L1_E a0 a1 a2 r2 c0 y)) (fun y => rec (go_impl_calm_L0_E a0 a1 a2 r2 y)) x := by kernel_rfl
  have h0 : (fun c0 y => iter k (loopAt (go_impl_calm_C k) (bodyOf Go.Proofs.Try.f61) [1, 1, 1, 1, 1, 0, 1, 0, 0, 1, 1, 0, 0, 1, 1, 1, 0, 1, 0] [rec] (finPure (go_impl_calm_C k) Go.Proofs.Try.f61.results.toList true (.pr (.val I) (.pr (.val .bool) .un)))) (go_impl_calm_L1_E a0 a1 a2 r2 c0 y)) = (fun c0 y => go_impl_calm_L1 k a0 a1 a2 (fun y => rec (go_impl_calm_L0_E a0 a1 a2 r2 y)) r2 c0 y) := by
    funext c0 y
    exact go_impl_calm_L1_t k a0 a1 a2 rec r2 c0 y
  rw [h, h0]
def go_impl_calm_T (k : Nat) (a0 : (Int × (Int × ((List Int) × Unit)))) (a1 : (Int × (Int × Unit))) (a2 : Int) (l_0 : (List Int) → (Int × Int) → Option (Int × (Bool × Unit))) : Option (Int × (Bool × Unit)) :=
  (go_impl_tourGraph k a0 a1 (16 : Int)).bind fun r1 =>
  if (!r1.2.1) = true then
    some ((0 : Int), (false, ()))
  else
    (go_impl_graph_masks k r1.1).bind fun r2 =>
    if (decide (0 ≤ (r2.length : Int))) = true then
    l_0 r2 ((0 : Int), (0 : Int))
    else none
def go_impl_calm (k : Nat) (a0 : (Int × (Int × ((List Int) × Unit)))) (a1 : (Int × (Int × Unit))) (a2 : Int) : Option (Int × (Bool × Unit)) :=
  go_impl_calm_T k a0 a1 a2 (fun r2 y => go_impl_calm_L0 k a0 a1 a2 r2 y)
theorem go_impl_calm_t (k : Nat) (a0 : (Int × (Int × ((List Int) × Unit)))) (a1 : (Int × (Int × Unit))) (a2 : Int) : runPure (go_impl_calm_C k) (bodyOf Go.Proofs.Try.f61) Go.Proofs.Try.f61.results.toList true (.pr (.val (.pair I (.pair I (.pair (.sl I) .unit)))) (.pr (.val (.pair I (.pair I .unit))) (.pr (.val I) .un))) (.pr (.val I) (.pr (.val .bool) .un)) (a0, a1, a2, ()) = go_impl_calm k a0 a1 a2 := by
  have h : runPure (go_impl_calm_C k) (bodyOf Go.Proofs.Try.f61) Go.Proofs.Try.f61.results.toList true (.pr (.val (.pair I (.pair I (.pair (.sl I) .unit)))) (.pr (.val (.pair I (.pair I .unit))) (.pr (.val I) .un))) (.pr (.val I) (.pr (.val .bool) .un)) (a0, a1, a2, ()) = go_impl_calm_T k a0 a1 a2 (fun r2 y => iter k (loopAt (go_impl_calm_C k) (bodyOf Go.Proofs.Try.f61) [1, 1, 1, 1, 1, 0, 1, 0] [] (finPure (go_impl_calm_C k) Go.Proofs.Try.f61.results.toList true (.pr (.val I) (.pr (.val .bool) .un)))) (go_impl_calm_L0_E a0 a1 a2 r2 y)) := by kernel_rfl
  have h0 : (fun r2 y => iter k (loopAt (go_impl_calm_C k) (bodyOf Go.Proofs.Try.f61) [1, 1, 1, 1, 1, 0, 1, 0] [] (finPure (go_impl_calm_C k) Go.Proofs.Try.f61.results.toList true (.pr (.val I) (.pr (.val .bool) .un)))) (go_impl_calm_L0_E a0 a1 a2 r2 y)) = (fun r2 y => go_impl_calm_L0 k a0 a1 a2 r2 y) := by
    funext r2 y
    exact go_impl_calm_L0_t k a0 a1 a2 r2 y
  rw [h, h0]
  rfl
def go_impl_calm_S (k : Nat) : Spec := ⟨(.pr (.val (.pair I (.pair I (.pair (.sl I) .unit)))) (.pr (.val (.pair I (.pair I .unit))) (.pr (.val I) .un))), (.pr (.val I) (.pr (.val .bool) .un)), true, .inl fun x => go_impl_calm k x.1 x.2.1 x.2.2.1⟩
theorem go_impl_calm_F (k : Nat) : Fits Go.Proofs.Try.prog (go_impl_calm_C k) 61 Go.Proofs.Try.f61 (bodyOf Go.Proofs.Try.f61) (.pr (.val (.pair I (.pair I (.pair (.sl I) .unit)))) (.pr (.val (.pair I (.pair I .unit))) (.pr (.val I) .un))) (.pr (.val I) (.pr (.val .bool) .un)) true :=
  ⟨th0, mixed0, by kernel_rfl, Go.Proofs.Try.func61, rfl, by kernel_rfl, rfl, rfl, rfl, rfl, rfl, rfl⟩
theorem go_impl_calm_M (k : Nat) : Meets Go.Proofs.Try.prog 61 (go_impl_calm_S k) :=
  meets_pure (go_impl_calm_F k) (sigs_all (l := [(66, go_impl_tourGraph_S k), (88, go_impl_graph_masks_S k), (89, go_math_bits_OnesCount_S k)]) rfl ⟨go_impl_tourGraph_M k, ⟨go_impl_graph_masks_M k, ⟨go_math_bits_OnesCount_M k, trivial⟩⟩⟩) rfl fun x => go_impl_calm_t k x.1 x.2.1 x.2.2.1

/-! ### impl.CountPeaceful -/
def go_impl_CountPeaceful_C (k : Nat) : Ctx := { th := TH, se := SE, sg := [(61, go_impl_calm_S k)], mu := [], an := [], dr := [], pre := [], d2 := [], m := 0, fx := [], n := 11, k := k }
def go_impl_CountPeaceful (k : Nat) (a0 : (Int × (Int × ((List Int) × Unit)))) (a1 : (Int × (Int × Unit))) : Option (Int × (Bool × Unit)) :=
  (go_impl_calm k a0 a1 (-1 : Int)).bind fun r1 =>
  some (r1.1, (r1.2.1, ()))
theorem go_impl_CountPeaceful_t (k : Nat) (a0 : (Int × (Int × ((List Int) × Unit)))) (a1 : (Int × (Int × Unit))) : runPure (go_impl_CountPeaceful_C k) (bodyOf Go.Proofs.Try.f28) Go.Proofs.Try.f28.results.toList true (.pr (.val (.pair I (.pair I (.pair (.sl I) .unit)))) (.pr (.val (.pair I (.pair I .unit))) .un)) (.pr (.val I) (.pr (.val .bool) .un)) (a0, a1, ()) = go_impl_CountPeaceful k a0 a1 := by kernel_rfl
def go_impl_CountPeaceful_S (k : Nat) : Spec := ⟨(.pr (.val (.pair I (.pair I (.pair (.sl I) .unit)))) (.pr (.val (.pair I (.pair I .unit))) .un)), (.pr (.val I) (.pr (.val .bool) .un)), true, .inl fun x => go_impl_CountPeaceful k x.1 x.2.1⟩
theorem go_impl_CountPeaceful_F (k : Nat) : Fits Go.Proofs.Try.prog (go_impl_CountPeaceful_C k) 28 Go.Proofs.Try.f28 (bodyOf Go.Proofs.Try.f28) (.pr (.val (.pair I (.pair I (.pair (.sl I) .unit)))) (.pr (.val (.pair I (.pair I .unit))) .un)) (.pr (.val I) (.pr (.val .bool) .un)) true :=
  ⟨th0, mixed0, by kernel_rfl, Go.Proofs.Try.func28, rfl, by kernel_rfl, rfl, rfl, rfl, rfl, rfl, rfl⟩
theorem go_impl_CountPeaceful_M (k : Nat) : Meets Go.Proofs.Try.prog 28 (go_impl_CountPeaceful_S k) :=
  meets_pure (go_impl_CountPeaceful_F k) (sigs_all (l := [(61, go_impl_calm_S k)]) rfl ⟨go_impl_calm_M k, trivial⟩) rfl fun x => go_impl_CountPeaceful_t k x.1 x.2.1

/-! ### laws.FnExactCountPeaceful -/
def go_laws_FnExactCountPeaceful_C (k : Nat) : Ctx := { th := TH, se := SE, sg := [(15, go_laws_szBoard_S k), (17, go_laws_toBoard_S k), (18, go_laws_toLeaper_S k), (27, go_spec_CountPeaceful_S k), (28, go_impl_CountPeaceful_S k), (21, go_laws_eqBoard_S k)], mu := [], an := [], dr := [(5, 9), (7, 8), (10, 3)], pre := [], d2 := [], m := 0, fx := [], n := 46, k := k }
def go_laws_FnExactCountPeaceful (k : Nat) (a0 : (Int × (Int × ((List Int) × Unit)))) (a1 : (Int × (Int × Unit))) : Option Bool :=
  (go_laws_szBoard k a0 (1048576 : Int)).bind fun r1 =>
  if (decide (r1 < (0 : Int))) = true then
    some true
  else
    (go_laws_toBoard k a0).bind fun r2 =>
    (go_laws_toLeaper k a1).bind fun r3 =>
    (go_spec_CountPeaceful k (r2.1, (r2.2.1, (r2.2.2.1, ()))) r3).bind fun r4 =>
    (go_laws_toBoard k a0).bind fun r5 =>
    (go_laws_toLeaper k a1).bind fun r6 =>
    (go_impl_CountPeaceful k (r5.1, (r5.2.1, (r5.2.2.1, ()))) r6).bind fun r7 =>
    if ((!decide (r7.1 = r4.1)) || (r7.2.1 != r4.2.1)) = true then
      some false
    else
      (go_laws_toBoard k a0).bind fun r8 =>
      (go_laws_eqBoard k (r5.1, (r5.2.1, (r5.2.2.1, ()))) (r8.1, (r8.2.1, (r8.2.2.1, ())))).bind fun r9 =>
      if (!r9) = true then
        some false
      else
        some true
theorem go_laws_FnExactCountPeaceful_t (k : Nat) (a0 : (Int × (Int × ((List Int) × Unit)))) (a1 : (Int × (Int × Unit))) : runPure (go_laws_FnExactCountPeaceful_C k) (bodyOf Go.Proofs.Try.f5) Go.Proofs.Try.f5.results.toList false (.pr (.val (.pair I (.pair I (.pair (.sl I) .unit)))) (.pr (.val (.pair I (.pair I .unit))) .un)) (.val .bool) (a0, a1, ()) = go_laws_FnExactCountPeaceful k a0 a1 := by kernel_rfl
def go_laws_FnExactCountPeaceful_S (k : Nat) : Spec := ⟨(.pr (.val (.pair I (.pair I (.pair (.sl I) .unit)))) (.pr (.val (.pair I (.pair I .unit))) .un)), (.val .bool), false, .inl fun x => go_laws_FnExactCountPeaceful k x.1 x.2.1⟩
theorem go_laws_FnExactCountPeaceful_F (k : Nat) : Fits Go.Proofs.Try.prog (go_laws_FnExactCountPeaceful_C k) 5 Go.Proofs.Try.f5 (bodyOf Go.Proofs.Try.f5) (.pr (.val (.pair I (.pair I (.pair (.sl I) .unit)))) (.pr (.val (.pair I (.pair I .unit))) .un)) (.val .bool) false :=
  ⟨th0, mixed0, by kernel_rfl, Go.Proofs.Try.func5, rfl, by kernel_rfl, rfl, rfl, rfl, rfl, rfl, rfl⟩
theorem go_laws_FnExactCountPeaceful_M (k : Nat) : Meets Go.Proofs.Try.prog 5 (go_laws_FnExactCountPeaceful_S k) :=
  meets_pure (go_laws_FnExactCountPeaceful_F k) (sigs_all (l := [(15, go_laws_szBoard_S k), (17, go_laws_toBoard_S k), (18, go_laws_toLeaper_S k), (27, go_spec_CountPeaceful_S k), (28, go_impl_CountPeaceful_S k), (21, go_laws_eqBoard_S k)]) rfl ⟨go_laws_szBoard_M k, ⟨go_laws_toBoard_M k, ⟨go_laws_toLeaper_M k, ⟨go_spec_CountPeaceful_M k, ⟨go_impl_CountPeaceful_M k, ⟨go_laws_eqBoard_M k, trivial⟩⟩⟩⟩⟩⟩) rfl fun x => go_laws_FnExactCountPeaceful_t k x.1 x.2.1

/-! ### spec.CountPeacefulOf -/
def go_spec_CountPeacefulOf_C (k : Nat) : Ctx := { th := TH, se := SE, sg := [(59, go_spec_guFew_S k), (62, go_spec_l1In_S k), (60, go_spec_guAll_S k)], mu := [], an := [], dr := [], pre := [], d2 := [], m := 0, fx := [], n := 30, k := k }
def go_spec_CountPeacefulOf (k : Nat) (a0 : (Int × (Int × ((List Int) × Unit)))) (a1 : (Int × (Int × Unit))) (a2 : Int) : Option (Int × (Bool × Unit)) :=
  (go_spec_guFew k a0 a1).bind fun r1 =>
  (if (!(!r1)) = true then go_spec_l1In k a2 (0 : Int) (64 : Int) else some false).bind fun r2 =>
  if ((!r1) || (!r2)) = true then
    some ((0 : Int), (false, ()))
  else
    (go_spec_guAll k a0 a1 false true false).bind fun r3 =>
    if (decide ((r3.2.2.2.1.length : Int) ≤ a2)) = true then
      some ((0 : Int), (true, ()))
    else
      if (inb a2 r3.2.2.2.1.length) = true then
      some ((r3.2.2.2.1.getD a2.toNat (0 : Int)), (true, ()))
      else none
theorem go_spec_CountPeacefulOf_t (k : Nat) (a0 : (Int × (Int × ((List Int) × Unit)))) (a1 : (Int × (Int × Unit))) (a2 : Int) : runPure (go_spec_CountPeacefulOf_C k) (bodyOf Go.Proofs.Try.f29) Go.Proofs.Try.f29.results.toList true (.pr (.val (.pair I (.pair I (.pair (.sl I) .unit)))) (.pr (.val (.pair I (.pair I .unit))) (.pr (.val I) .un))) (.pr (.val I) (.pr (.val .bool) .un)) (a0, a1, a2, ()) = go_spec_CountPeacefulOf k a0 a1 a2 := by kernel_rfl
def go_spec_CountPeacefulOf_S (k : Nat) : Spec := ⟨(.pr (.val (.pair I (.pair I (.pair (.sl I) .unit)))) (.pr (.val (.pair I (.pair I .unit))) (.pr (.val I) .un))), (.pr (.val I) (.pr (.val .bool) .un)), true, .inl fun x => go_spec_CountPeacefulOf k x.1 x.2.1 x.2.2.1⟩
theorem go_spec_CountPeacefulOf_F (k : Nat) : Fits Go.Proofs.Try.prog (go_spec_CountPeacefulOf_C k) 29 Go.Proofs.Try.f29 (bodyOf Go.Proofs.Try.f29) (.pr (.val (.pair I (.pair I (.pair (.sl I) .unit)))) (.pr (.val (.pair I (.pair I .unit))) (.pr (.val I) .un))) (.pr (.val I) (.pr (.val .bool) .un)) true :=
  ⟨th0, mixed0, by kernel_rfl, Go.Proofs.Try.func29, rfl, by kernel_rfl, rfl, rfl, rfl, rfl, rfl, rfl⟩
theorem go_spec_CountPeacefulOf_M (k : Nat) : Meets Go.Proofs.Try.prog 29 (go_spec_CountPeacefulOf_S k) :=
  meets_pure (go_spec_CountPeacefulOf_F k) (sigs_all (l := [(59, go_spec_guFew_S k), (62, go_spec_l1In_S k), (60, go_spec_guAll_S k)]) rfl ⟨go_spec_guFew_M k, ⟨go_spec_l1In_M k, ⟨go_spec_guAll_M k, trivial⟩⟩⟩) rfl fun x => go_spec_CountPeacefulOf_t k x.1 x.2.1 x.2.2.1

/-! ### impl.CountPeacefulOf -/
def go_impl_CountPeacefulOf_C (k : Nat) : Ctx := { th := TH, se := SE, sg := [(61, go_impl_calm_S k)], mu := [], an := [], dr := [], pre := [], d2 := [], m := 0, fx := [], n := 20, k := k }
def go_impl_CountPeacefulOf (k : Nat) (a0 : (Int × (Int × ((List Int) × Unit)))) (a1 : (Int × (Int × Unit))) (a2 : Int) : Option (Int × (Bool × Unit)) :=
  if ((decide (a2 < (0 : Int))) || (decide ((64 : Int) < a2))) = true then
    some ((0 : Int), (false, ()))
  else
    (go_impl_calm k a0 a1 a2).bind fun r1 =>
    some (r1.1, (r1.2.1, ()))
theorem go_impl_CountPeacefulOf_t (k : Nat) (a0 : (Int × (Int × ((List Int) × Unit)))) (a1 : (Int × (Int × Unit))) (a2 : Int) : runPure (go_impl_CountPeacefulOf_C k) (bodyOf Go.Proofs.Try.f30) Go.Proofs.Try.f30.results.toList true (.pr (.val (.pair I (.pair I (.pair (.sl I) .unit)))) (.pr (.val (.pair I (.pair I .unit))) (.pr (.val I) .un))) (.pr (.val I) (.pr (.val .bool) .un)) (a0, a1, a2, ()) = go_impl_CountPeacefulOf k a0 a1 a2 := by kernel_rfl
def go_impl_CountPeacefulOf_S (k : Nat) : Spec := ⟨(.pr (.val (.pair I (.pair I (.pair (.sl I) .unit)))) (.pr (.val (.pair I (.pair I .unit))) (.pr (.val I) .un))), (.pr (.val I) (.pr (.val .bool) .un)), true, .inl fun x => go_impl_CountPeacefulOf k x.1 x.2.1 x.2.2.1⟩
theorem go_impl_CountPeacefulOf_F (k : Nat) : Fits Go.Proofs.Try.prog (go_impl_CountPeacefulOf_C k) 30 Go.Proofs.Try.f30 (bodyOf Go.Proofs.Try.f30) (.pr (.val (.pair I (.pair I (.pair (.sl I) .unit)))) (.pr (.val (.pair I (.pair I .unit))) (.pr (.val I) .un))) (.pr (.val I) (.pr (.val .bool) .un)) true :=
  ⟨th0, mixed0, by kernel_rfl, Go.Proofs.Try.func30, rfl, by kernel_rfl, rfl, rfl, rfl, rfl, rfl, rfl⟩
theorem go_impl_CountPeacefulOf_M (k : Nat) : Meets Go.Proofs.Try.prog 30 (go_impl_CountPeacefulOf_S k) :=
  meets_pure (go_impl_CountPeacefulOf_F k) (sigs_all (l := [(61, go_impl_calm_S k)]) rfl ⟨go_impl_calm_M k, trivial⟩) rfl fun x => go_impl_CountPeacefulOf_t k x.1 x.2.1 x.2.2.1

/-! ### laws.FnExactCountPeacefulOf -/
def go_laws_FnExactCountPeacefulOf_C (k : Nat) : Ctx := { th := TH, se := SE, sg := [(15, go_laws_szBoard_S k), (17, go_laws_toBoard_S k), (18, go_laws_toLeaper_S k), (29, go_spec_CountPeacefulOf_S k), (30, go_impl_CountPeacefulOf_S k), (21, go_laws_eqBoard_S k)], mu := [], an := [], dr := [(5, 10), (7, 9), (10, 3)], pre := [], d2 := [], m := 0, fx := [], n := 50, k := k }
def go_laws_FnExactCountPeacefulOf (k : Nat) (a0 : (Int × (Int × ((List Int) × Unit)))) (a1 : (Int × (Int × Unit))) (a2 : Int) : Option Bool :=
  (go_laws_szBoard k a0 (1048576 : Int)).bind fun r1 =>
  if (decide (r1 < (0 : Int))) = true then
    some true
  else
    (go_laws_toBoard k a0).bind fun r2 =>
    (go_laws_toLeaper k a1).bind fun r3 =>
    (go_spec_CountPeacefulOf k (r2.1, (r2.2.1, (r2.2.2.1, ()))) r3 a2).bind fun r4 =>
    (go_laws_toBoard k a0).bind fun r5 =>
    (go_laws_toLeaper k a1).bind fun r6 =>
    (go_impl_CountPeacefulOf k (r5.1, (r5.2.1, (r5.2.2.1, ()))) r6 a2).bind fun r7 =>
    if ((!decide (r7.1 = r4.1)) || (r7.2.1 != r4.2.1)) = true then
      some false
    else
      (go_laws_toBoard k a0).bind fun r8 =>
      (go_laws_eqBoard k (r5.1, (r5.2.1, (r5.2.2.1, ()))) (r8.1, (r8.2.1, (r8.2.2.1, ())))).bind fun r9 =>
      if (!r9) = true then
        some false
      else
        some true
theorem go_laws_FnExactCountPeacefulOf_t (k : Nat) (a0 : (Int × (Int × ((List Int) × Unit)))) (a1 : (Int × (Int × Unit))) (a2 : Int) : runPure (go_laws_FnExactCountPeacefulOf_C k) (bodyOf Go.Proofs.Try.f6) Go.Proofs.Try.f6.results.toList false (.pr (.val (.pair I (.pair I (.pair (.sl I) .unit)))) (.pr (.val (.pair I (.pair I .unit))) (.pr (.val I) .un))) (.val .bool) (a0, a1, a2, ()) = go_laws_FnExactCountPeacefulOf k a0 a1 a2 := by kernel_rfl
def go_laws_FnExactCountPeacefulOf_S (k : Nat) : Spec := ⟨(.pr (.val (.pair I (.pair I (.pair (.sl I) .unit)))) (.pr (.val (.pair I (.pair I .unit))) (.pr (.val I) .un))), (.val .bool), false, .inl fun x => go_laws_FnExactCountPeacefulOf k x.1 x.2.1 x.2.2.1⟩
theorem go_laws_FnExactCountPeacefulOf_F (k : Nat) : Fits Go.Proofs.Try.prog (go_laws_FnExactCountPeacefulOf_C k) 6 Go.Proofs.Try.f6 (bodyOf Go.Proofs.Try.f6) (.pr (.val (.pair I (.pair I (.pair (.sl I) .unit)))) (.pr (.val (.pair I (.pair I .unit))) (.pr (.val I) .un))) (.val .bool) false :=
  ⟨th0, mixed0, by kernel_rfl, Go.Proofs.Try.func6, rfl, by kernel_rfl, rfl, rfl, rfl, rfl, rfl, rfl⟩
theorem go_laws_FnExactCountPeacefulOf_M (k : Nat) : Meets Go.Proofs.Try.prog 6 (go_laws_FnExactCountPeacefulOf_S k) :=
  meets_pure (go_laws_FnExactCountPeacefulOf_F k) (sigs_all (l := [(15, go_laws_szBoard_S k), (17, go_laws_toBoard_S k), (18, go_laws_toLeaper_S k), (29, go_spec_CountPeacefulOf_S k), (30, go_impl_CountPeacefulOf_S k), (21, go_laws_eqBoard_S k)]) rfl ⟨go_laws_szBoard_M k, ⟨go_laws_toBoard_M k, ⟨go_laws_toLeaper_M k, ⟨go_spec_CountPeacefulOf_M k, ⟨go_impl_CountPeacefulOf_M k, ⟨go_laws_eqBoard_M k, trivial⟩⟩⟩⟩⟩⟩) rfl fun x => go_laws_FnExactCountPeacefulOf_t k x.1 x.2.1 x.2.2.1

/-! ### spec.FewestGuards -/
def go_spec_FewestGuards_C (k : Nat) : Ctx := { th := TH, se := SE, sg := [(59, go_spec_guFew_S k), (60, go_spec_guAll_S k)], mu := [], an := [], dr := [], pre := [], d2 := [], m := 0, fx := [], n := 14, k := k }
def go_spec_FewestGuards (k : Nat) (a0 : (Int × (Int × ((List Int) × Unit)))) (a1 : (Int × (Int × Unit))) : Option (Int × (Bool × Unit)) :=
  (go_spec_guFew k a0 a1).bind fun r1 =>
  if (!r1) = true then
    some ((0 : Int), (false, ()))
  else
    (go_spec_guAll k a0 a1 true false true).bind fun r2 =>
    some (r2.1, (true, ()))
theorem go_spec_FewestGuards_t (k : Nat) (a0 : (Int × (Int × ((List Int) × Unit)))) (a1 : (Int × (Int × Unit))) : runPure (go_spec_FewestGuards_C k) (bodyOf Go.Proofs.Try.f35) Go.Proofs.Try.f35.results.toList true (.pr (.val (.pair I (.pair I (.pair (.sl I) .unit)))) (.pr (.val (.pair I (.pair I .unit))) .un)) (.pr (.val I) (.pr (.val .bool) .un)) (a0, a1, ()) = go_spec_FewestGuards k a0 a1 := by kernel_rfl
def go_spec_FewestGuards_S (k : Nat) : Spec := ⟨(.pr (.val (.pair I (.pair I (.pair (.sl I) .unit)))) (.pr (.val (.pair I (.pair I .unit))) .un)), (.pr (.val I) (.pr (.val .bool) .un)), true, .inl fun x => go_spec_FewestGuards k x.1 x.2.1⟩
theorem go_spec_FewestGuards_F (k : Nat) : Fits Go.Proofs.Try.prog (go_spec_FewestGuards_C k) 35 Go.Proofs.Try.f35 (bodyOf Go.Proofs.Try.f35) (.pr (.val (.pair I (.pair I (.pair (.sl I) .unit)))) (.pr (.val (.pair I (.pair I .unit))) .un)) (.pr (.val I) (.pr (.val .bool) .un)) true :=
  ⟨th0, mixed0, by kernel_rfl, Go.Proofs.Try.func35, rfl, by kernel_rfl, rfl, rfl, rfl, rfl, rfl, rfl⟩
theorem go_spec_FewestGuards_M (k : Nat) : Meets Go.Proofs.Try.prog 35 (go_spec_FewestGuards_S k) :=
  meets_pure (go_spec_FewestGuards_F k) (sigs_all (l := [(59, go_spec_guFew_S k), (60, go_spec_guAll_S k)]) rfl ⟨go_spec_guFew_M k, ⟨go_spec_guAll_M k, trivial⟩⟩) rfl fun x => go_spec_FewestGuards_t k x.1 x.2.1

/-! ### slices.Clone[[]int,int] -/
def go_slices_Clone_int_C (k : Nat) : Ctx := { th := TH, se := SE, sg := [], mu := [5], an := [], dr := [], pre := [], d2 := [], m := 0, fx := [], n := 8, k := k }
def go_slices_Clone_int (k : Nat) (a0 : (List Int)) : Option (List Int) :=
  if (List.isEmpty a0) = true then
    both (
    some []) (
    if (decide (([] : List Int).length + a0.length ≤ LIM)) = true then
    some (([] : List Int) ++ a0)
    else none)
  else
    if (decide (([] : List Int).length + a0.length ≤ LIM)) = true then
    some (([] : List Int) ++ a0)
    else none
theorem go_slices_Clone_int_t (k : Nat) (a0 : (List Int)) : runPure (go_slices_Clone_int_C k) (bodyOf Go.Proofs.Try.f138) Go.Proofs.Try.f138.results.toList false (.pr (.val (.sl I)) .un) (.own 3 I) (a0, ()) = go_slices_Clone_int k a0 := by kernel_rfl
def go_slices_Clone_int_S (k : Nat) : Spec := ⟨(.pr (.val (.sl I)) .un), (.own 3 I), false, .inl fun x => go_slices_Clone_int k x.1⟩
theorem go_slices_Clone_int_F (k : Nat) : Fits Go.Proofs.Try.prog (go_slices_Clone_int_C k) 138 Go.Proofs.Try.f138 (bodyOf Go.Proofs.Try.f138) (.pr (.val (.sl I)) .un) (.own 3 I) false :=
  ⟨th0, mixed0, by kernel_rfl, Go.Proofs.Try.func138, rfl, by kernel_rfl, rfl, rfl, rfl, rfl, rfl, rfl⟩
theorem go_slices_Clone_int_M (k : Nat) : Meets Go.Proofs.Try.prog 138 (go_slices_Clone_int_S k) :=
  meets_pure (go_slices_Clone_int_F k) (sigs_all (l := []) rfl trivial) rfl fun x => go_slices_Clone_int_t k x.1

/-! ### impl.some -/
def go_impl_some_C (k : Nat) : Ctx := { th := TH, se := SE, sg := [(138, go_slices_Clone_int_S k)], mu := [26], an := [(3, [(1, false), (5, true), (8, false), (9, false), (10, false)])], dr := [], pre := [], d2 := [], m := 0, fx := [], n := 27, k := k }
def go_impl_some_L0_E (a0 : (List Int)) (a1 : Int) (x7 : (Int × (List Int))) : St :=
  ⟨[(1, .one (.val I a1), []), (5, .one (.own 0), []), (8, .one (.val (.sl I) a0), []), (9, .one (.val I (a0.length : Int)), []), (10, .one (.val I x7.1), [])], [.arr 3 I x7.2], []⟩
def go_impl_some_L0_G (k : Nat) (a0 : (List Int)) (a1 : Int) (rec8 : (Int × (List Int)) → Option (List Int)) (x7 : (Int × (List Int))) : Option (List Int) :=
  if (decide (x7.1 < (a0.length : Int))) = true then
    if (inb x7.1 a0.length) = true then
    if (decide (0 ≤ x7.1)) = true then
    if (decide ((IntKind.i64.wrap (((BitVec.ofInt (IntKind.i64.bits) (Int.fdiv a1 (2 ^ (min x7.1.toNat (IntKind.i64.bits)))) &&& BitVec.ofInt (IntKind.i64.bits) (1 : Int)).toNat : Int))) = (1 : Int))) = true then
      if (decide (x7.2.length + [(a0.getD x7.1.toNat (0 : Int))].length ≤ LIM)) = true then
      rec8 ((IntKind.i64.wrap (x7.1 + (1 : Int))), (x7.2 ++ [(a0.getD x7.1.toNat (0 : Int))]))
      else none
    else
      rec8 ((IntKind.i64.wrap (x7.1 + (1 : Int))), x7.2)
    else none
    else none
  else
    (go_slices_Clone_int k x7.2).bind fun r9 =>
    some r9
def go_impl_some_L0 (k : Nat) (a0 : (List Int)) (a1 : Int) : (Int × (List Int)) → Option (List Int) :=
  iter k fun rec8 x7 => go_impl_some_L0_G k a0 a1 rec8 x7
theorem go_impl_some_L0_t (k : Nat) (a0 : (List Int)) (a1 : Int) (x : (Int × (List Int))) :
    iter k (loopAt (go_impl_some_C k) (bodyOf Go.Proofs.Try.f124) [1, 1, 0, 1, 0] [] (finPure (go_impl_some_C k) Go.Proofs.Try.f124.results.toList false (.own 3 I))) (go_impl_some_L0_E a0 a1 x) = go_impl_some_L0 k a0 a1 x := by
  refine iter_tie (G := fun rec x => go_impl_some_L0_G k a0 a1 rec x) (go_impl_some_L0_E a0 a1) (fun rec x => ?_) k x
  have h : loopAt (go_impl_some_C k) (bodyOf Go.Proofs.Try.f124) [1, 1, 0, 1, 0] [] (finPure (go_impl_some_C k) Go.Proofs.Try.f124.results.toList false (.own 3 I)) rec (go_impl_some_L0_E a0 a1 x) = go_impl_some_L0_G k a0 a1 (fun y => rec (go_impl_some_L0_E a0 a1 y)) x := by kernel_rfl
  rw [h]
def go_impl_some_T (k : Nat) (a0 : (List Int)) (a1 : Int) (l_0 : (Int × (List Int)) → Option (List Int)) : Option (List Int) :=
  l_0 ((0 : Int), [])
def go_impl_some (k : Nat) (a0 : (List Int)) (a1 : Int) : Option (List Int) :=
  go_impl_some_T k a0 a1 (fun y => go_impl_some_L0 k a0 a1 y)
theorem go_impl_some_t (k : Nat) (a0 : (List Int)) (a1 : Int) : runPure (go_impl_some_C k) (bodyOf Go.Proofs.Try.f124) Go.Proofs.Try.f124.results.toList false (.pr (.val (.sl I)) (.pr (.val I) .un)) (.own 3 I) (a0, a1, ()) = go_impl_some k a0 a1 := by
  have h : runPure (go_impl_some_C k) (bodyOf Go.Proofs.Try.f124) Go.Proofs.Try.f124.results.toList false (.pr (.val (.sl I)) (.pr (.val I) .un)) (.own 3 I) (a0, a1, ()) = go_impl_some_T k a0 a1 (fun y => iter k (loopAt (go_impl_some_C k) (bodyOf Go.Proofs.Try.f124) [1, 1, 0, 1, 0] [] (finPure (go_impl_some_C k) Go.Proofs.Try.f124.results.toList false (.own 3 I))) (go_impl_some_L0_E a0 a1 y)) := by kernel_rfl
  have h0 : (fun y => iter k (loopAt (go_impl_some_C k) (bodyOf Go.Proofs.Try.f124) [1, 1, 0, 1, 0] [] (finPure (go_impl_some_C k) Go.Proofs.Try.f124.results.toList false (.own 3 I))) (go_impl_some_L0_E a0 a1 y)) = (fun y => go_impl_some_L0 k a0 a1 y) := by
    funext y
    exact go_impl_some_L0_t k a0 a1 y
  rw [h, h0]
  rfl
def go_impl_some_S (k : Nat) : Spec := ⟨(.pr (.val (.sl I)) (.pr (.val I) .un)), (.own 3 I), false, .inl fun x => go_impl_some k x.1 x.2.1⟩
theorem go_impl_some_F (k : Nat) : Fits Go.Proofs.Try.prog (go_impl_some_C k) 124 Go.Proofs.Try.f124 (bodyOf Go.Proofs.Try.f124) (.pr (.val (.sl I)) (.pr (.val I) .un)) (.own 3 I) false :=
  ⟨th0, mixed0, by kernel_rfl, Go.Proofs.Try.func124, rfl, by kernel_rfl, rfl, rfl, rfl, rfl, rfl, rfl⟩
theorem go_impl_some_M (k : Nat) : Meets Go.Proofs.Try.prog 124 (go_impl_some_S k) :=
  meets_pure (go_impl_some_F k) (sigs_all (l := [(138, go_slices_Clone_int_S k)]) rfl ⟨go_slices_Clone_int_M k, trivial⟩) rfl fun x => go_impl_some_t k x.1 x.2.1

/-! ### cmp.Compare[int] -/
def go_cmp_Compare_int_C (k : Nat) : Ctx := { th := TH, se := SE, sg := [(145, go_cmp_isNaN_int_S k)], mu := [], an := [], dr := [], pre := [], d2 := [], m := 0, fx := [], n := 20, k := k }
def go_cmp_Compare_int (k : Nat) (a0 : Int) (a1 : Int) : Option Int :=
  (go_cmp_isNaN_int k a0).bind fun r1 =>
  (go_cmp_isNaN_int k a1).bind fun r2 =>
  if r1 = true then
    if r2 = true then
      some (0 : Int)
    else
      some (-1 : Int)
  else
    if r2 = true then
      some (1 : Int)
    else
      if (decide (a0 < a1)) = true then
        some (-1 : Int)
      else
        if (decide (a1 < a0)) = true then
          some (1 : Int)
        else
          some (0 : Int)
theorem go_cmp_Compare_int_t (k : Nat) (a0 : Int) (a1 : Int) : runPure (go_cmp_Compare_int_C k) (bodyOf Go.Proofs.Try.f139) Go.Proofs.Try.f139.results.toList false (.pr (.val I) (.pr (.val I) .un)) (.val I) (a0, a1, ()) = go_cmp_Compare_int k a0 a1 := by kernel_rfl
def go_cmp_Compare_int_S (k : Nat) : Spec := ⟨(.pr (.val I) (.pr (.val I) .un)), (.val I), false, .inl fun x => go_cmp_Compare_int k x.1 x.2.1⟩
theorem go_cmp_Compare_int_F (k : Nat) : Fits Go.Proofs.Try.prog (go_cmp_Compare_int_C k) 139 Go.Proofs.Try.f139 (bodyOf Go.Proofs.Try.f139) (.pr (.val I) (.pr (.val I) .un)) (.val I) false :=
  ⟨th0, mixed0, by kernel_rfl, Go.Proofs.Try.func139, rfl, by kernel_rfl, rfl, rfl, rfl, rfl, rfl, rfl⟩
theorem go_cmp_Compare_int_M (k : Nat) : Meets Go.Proofs.Try.prog 139 (go_cmp_Compare_int_S k) :=
  meets_pure (go_cmp_Compare_int_F k) (sigs_all (l := [(145, go_cmp_isNaN_int_S k)]) rfl ⟨go_cmp_isNaN_int_M k, trivial⟩) rfl fun x => go_cmp_Compare_int_t k x.1 x.2.1

/-! ### slices.Compare[[]int,int] -/
def go_slices_Compare_int_C (k : Nat) : Ctx := { th := TH, se := SE, sg := [(139, go_cmp_Compare_int_S k)], mu := [], an := [(2, [(0, false), (1, false), (9, false), (10, false), (11, false)])], dr := [], pre := [], d2 := [], m := 0, fx := [], n := 36, k := k }
def go_slices_Compare_int_L0_E (a0 : (List Int)) (a1 : (List Int)) (x4 : (Int)) : St :=
  ⟨[(0, .one (.val (.sl I) a0), []), (1, .one (.val (.sl I) a1), []), (9, .one (.val (.sl I) a0), []), (10, .one (.val I (a0.length : Int)), []), (11, .one (.val I x4), [])], [], []⟩
def go_slices_Compare_int_L0_G (k : Nat) (a0 : (List Int)) (a1 : (List Int)) (rec5 : (Int) → Option Int) (x4 : (Int)) : Option Int :=
  if (decide (x4 < (a0.length : Int))) = true then
    if (inb x4 a0.length) = true then
    if (decide ((a1.length : Int) ≤ x4)) = true then
      some (1 : Int)
    else
      if (inb x4 a1.length) = true then
      (go_cmp_Compare_int k (a0.getD x4.toNat (0 : Int)) (a1.getD x4.toNat (0 : Int))).bind fun r6 =>
      if (!decide (r6 = (0 : Int))) = true then
        some r6
      else
        rec5 (IntKind.i64.wrap (x4 + (1 : Int)))
      else none
    else none
  else
    if (decide ((a0.length : Int) < (a1.length : Int))) = true then
      some (-1 : Int)
    else
      some (0 : Int)
def go_slices_Compare_int_L0 (k : Nat) (a0 : (List Int)) (a1 : (List Int)) : (Int) → Option Int :=
  iter k fun rec5 x4 => go_slices_Compare_int_L0_G k a0 a1 rec5 x4
theorem go_slices_Compare_int_L0_t (k : Nat) (a0 : (List Int)) (a1 : (List Int)) (x : (Int)) :
    iter k (loopAt (go_slices_Compare_int_C k) (bodyOf Go.Proofs.Try.f125) [1, 0, 1, 0] [] (finPure (go_slices_Compare_int_C k) Go.Proofs.Try.f125.results.toList false (.val I))) (go_slices_Compare_int_L0_E a0 a1 x) = go_slices_Compare_int_L0 k a0 a1 x := by
  refine iter_tie (G := fun rec x => go_slices_Compare_int_L0_G k a0 a1 rec x) (go_slices_Compare_int_L0_E a0 a1) (fun rec x => ?_) k x
  have h : loopAt (go_slices_Compare_int_C k) (bodyOf Go.Proofs.Try.f125) [1, 0, 1, 0] [] (finPure (go_slices_Compare_int_C k) Go.Proofs.Try.f125.results.toList false (.val I)) rec (go_slices_Compare_int_L0_E a0 a1 x) = go_slices_Compare_int_L0_G k a0 a1 (fun y => rec (go_slices_Compare_int_L0_E a0 a1 y)) x := by kernel_rfl
  rw [h]
def go_slices_Compare_int_T (k : Nat) (a0 : (List Int)) (a1 : (List Int)) (l_0 : (Int) → Option Int) : Option Int :=
  l_0 (0 : Int)
def go_slices_Compare_int (k : Nat) (a0 : (List Int)) (a1 : (List Int)) : Option Int :=
  go_slices_Compare_int_T k a0 a1 (fun y => go_slices_Compare_int_L0 k a0 a1 y)
theorem go_slices_Compare_int_t (k : Nat) (a0 : (List Int)) (a1 : (List Int)) : runPure (go_slices_Compare_int_C k) (bodyOf Go.Proofs.Try.f125) Go.Proofs.Try.f125.results.toList false (.pr (.val (.sl I)) (.pr (.val (.sl I)) .un)) (.val I) (a0, a1, ()) = go_slices_Compare_int k a0 a1 := by
  have h : runPure (go_slices_Compare_int_C k) (bodyOf Go.Proofs.Try.f125) Go.Proofs.Try.f125.results.toList false (.pr (.val (.sl I)) (.pr (.val (.sl I)) .un)) (.val I) (a0, a1, ()) = go_slices_Compare_int_T k a0 a1 (fun y => iter k (loopAt (go_slices_Compare_int_C k) (bodyOf Go.Proofs.Try.f125) [1, 0, 1, 0] [] (finPure (go_slices_Compare_int_C k) Go.Proofs.Try.f125.results.toList false (.val I))) (go_slices_Compare_int_L0_E a0 a1 y)) := by kernel_rfl
  have h0 : (fun y => iter k (loopAt (go_slices_Compare_int_C k) (bodyOf Go.Proofs.Try.f125) [1, 0, 1, 0] [] (finPure (go_slices_Compare_int_C k) Go.Proofs.Try.f125.results.toList false (.val I))) (go_slices_Compare_int_L0_E a0 a1 y)) = (fun y => go_slices_Compare_int_L0 k a0 a1 y) := by
    funext y
    exact go_slices_Compare_int_L0_t k a0 a1 y
  rw [h, h0]
  rfl
def go_slices_Compare_int_S (k : Nat) : Spec := ⟨(.pr (.val (.sl I)) (.pr (.val (.sl I)) .un)), (.val I), false, .inl fun x => go_slices_Compare_int k x.1 x.2.1⟩
theorem go_slices_Compare_int_F (k : Nat) : Fits Go.Proofs.Try.prog (go_slices_Compare_int_C k) 125 Go.Proofs.Try.f125 (bodyOf Go.Proofs.Try.f125) (.pr (.val (.sl I)) (.pr (.val (.sl I)) .un)) (.val I) false :=
  ⟨th0, mixed0, by kernel_rfl, Go.Proofs.Try.func125, rfl, by kernel_rfl, rfl, rfl, rfl, rfl, rfl, rfl⟩
theorem go_slices_Compare_int_M (k : Nat) : Meets Go.Proofs.Try.prog 125 (go_slices_Compare_int_S k) :=
  meets_pure (go_slices_Compare_int_F k) (sigs_all (l := [(139, go_cmp_Compare_int_S k)]) rfl ⟨go_cmp_Compare_int_M k, trivial⟩) rfl fun x => go_slices_Compare_int_t k x.1 x.2.1

/-! ### (*impl.found).add -/
def go_impl_found_add_C (k : Nat) : Ctx := { th := TH, se := SE, sg := [(124, go_impl_some_S k), (125, go_slices_Compare_int_S k)], mu := [19], an := [], dr := [], pre := [], d2 := [], m := 2, fx := [0], n := 38, k := k }
def go_impl_found_add (k : Nat) (a0 : (Int × (Int × ((List Int) × Unit)))) (a1 : (Option ((Int × (Int × ((List Int) × Unit))) × ((Int × (Int × Unit)) × ((List Int) × ((List (List Int)) × Unit)))))) (a2 : Int) : Option (Unit × ((Int × (Int × ((List Int) × Unit))) × ((Option ((Int × (Int × ((List Int) × Unit))) × ((Int × (Int × Unit)) × ((List Int) × ((List (List Int)) × Unit))))) × (Int × Unit)))) :=
  if a1.isSome = true then
  (go_impl_some k (a1.getD (((0 : Int), ((0 : Int), ([], ()))), (((0 : Int), ((0 : Int), ())), ([], ([], ()))))).2.2.1 a2).bind fun r1 =>
  (if (!(decide ((IntKind.i64.wrap (a0.2.1 + (1 : Int))) = (1 : Int)))) = true then go_slices_Compare_int k r1 a0.2.2.1 else some (0 : Int)).bind fun r2 =>
  if ((decide ((IntKind.i64.wrap (a0.2.1 + (1 : Int))) = (1 : Int))) || (decide (r2 < (0 : Int)))) = true then
    some ((), ((a0.1, ((IntKind.i64.wrap (a0.2.1 + (1 : Int))), (r1, ()))), (a1, (a2, ()))))
  else
    some ((), ((a0.1, ((IntKind.i64.wrap (a0.2.1 + (1 : Int))), (a0.2.2.1, ()))), (a1, (a2, ()))))
  else none
theorem go_impl_found_add_t (k : Nat) (a0 : (Int × (Int × ((List Int) × Unit)))) (a1 : (Option ((Int × (Int × ((List Int) × Unit))) × ((Int × (Int × Unit)) × ((List Int) × ((List (List Int)) × Unit)))))) (a2 : Int) : runEff (go_impl_found_add_C k) (bodyOf Go.Proofs.Try.f117) Go.Proofs.Try.f117.results.toList true (.pr (.box (.pr (.val I) (.pr (.val I) (.pr (.own 3 I) .un)))) (.pr (.val (.pt (.pair (.pair I (.pair I (.pair (.sl I) .unit))) (.pair (.pair I (.pair I .unit)) (.pair (.sl I) (.pair (.sl (.sl I)) .unit)))))) (.pr (.val I) .un))) .un (a0, a1, a2, ()) = go_impl_found_add k a0 a1 a2 := by kernel_rfl
def go_impl_found_add_S (k : Nat) : Spec := ⟨(.pr (.box (.pr (.val I) (.pr (.val I) (.pr (.own 3 I) .un)))) (.pr (.val (.pt (.pair (.pair I (.pair I (.pair (.sl I) .unit))) (.pair (.pair I (.pair I .unit)) (.pair (.sl I) (.pair (.sl (.sl I)) .unit)))))) (.pr (.val I) .un))), .un, true, .inr fun x => go_impl_found_add k x.1 x.2.1 x.2.2.1⟩
theorem go_impl_found_add_F (k : Nat) : Fits Go.Proofs.Try.prog (go_impl_found_add_C k) 117 Go.Proofs.Try.f117 (bodyOf Go.Proofs.Try.f117) (.pr (.box (.pr (.val I) (.pr (.val I) (.pr (.own 3 I) .un)))) (.pr (.val (.pt (.pair (.pair I (.pair I (.pair (.sl I) .unit))) (.pair (.pair I (.pair I .unit)) (.pair (.sl I) (.pair (.sl (.sl I)) .unit)))))) (.pr (.val I) .un))) .un true :=
  ⟨th0, mixed0, by kernel_rfl, Go.Proofs.Try.func117, rfl, by kernel_rfl, rfl, rfl, rfl, rfl, rfl, rfl⟩
theorem go_impl_found_add_M (k : Nat) : Meets Go.Proofs.Try.prog 117 (go_impl_found_add_S k) :=
  meets_eff (go_impl_found_add_F k) (sigs_all (l := [(124, go_impl_some_S k), (125, go_slices_Compare_int_S k)]) rfl ⟨go_impl_some_M k, ⟨go_slices_Compare_int_M k, trivial⟩⟩) fun x => go_impl_found_add_t k x.1 x.2.1 x.2.2.1

/-! ### (*impl.graph).search -/
def go_impl_graph_search_C (k : Nat) : Ctx := { th := TH, se := SE, sg := [(88, go_impl_graph_masks_S k), (89, go_math_bits_OnesCount_S k), (117, go_impl_found_add_S k)], mu := [], an := [(5, [(0, false), (1, false), (2, false), (3, false), (8, false), (9, false), (10, false), (11, true), (23, false), (24, false)]), (11, [(0, false), (1, false), (2, false), (3, false), (8, false), (9, false), (10, false), (11, false), (12, false), (13, false), (14, false), (15, false), (23, false), (24, false), (53, false), (54, false)])], dr := [], pre := [], d2 := [], m := 0, fx := [], n := 105, k := k }
def go_impl_graph_search_L0_E (a0 : (Option ((Int × (Int × ((List Int) × Unit))) × ((Int × (Int × Unit)) × ((List Int) × ((List (List Int)) × Unit)))))) (a1 : Bool) (a2 : Bool) (a3 : Bool) (r1 : (List Int)) (x56 : (Int × Int × Int × (List Int))) : St :=
  ⟨[(0, .one (.val (.pt (.pair (.pair I (.pair I (.pair (.sl I) .unit))) (.pair (.pair I (.pair I .unit)) (.pair (.sl I) (.pair (.sl (.sl I)) .unit))))) a0), []), (1, .one (.val .bool a1), []), (2, .one (.val .bool a2), []), (3, .one (.val .bool a3), []), (8, .one (.bx 0 0 (.pair I (.pair I (.pair (.sl I) .unit)))), []), (9, .one (.val (.sl I) r1), []), (10, .one (.val I (r1.length : Int)), []), (11, .one (.bx 1 0 (.pair I (.pair I (.pair (.sl I) .unit)))), []), (23, .one (.val I (IntKind.i64.wrap ((1 : Int) * 2 ^ (min (r1.length : Int).toNat (IntKind.i64.bits))))), []), (24, .one (.val I x56.1), [])], [.box (.pr (.val I (0 : Int)) (.pr (.val I (0 : Int)) (.pr (.nsl 3 I) .un))), .box (.pr (.val I x56.2.1) (.pr (.val I x56.2.2.1) (.pr (.own 2) .un))), .arr 3 I x56.2.2.2], []⟩
def go_impl_graph_search_L1_E (a0 : (Option ((Int × (Int × ((List Int) × Unit))) × ((Int × (Int × Unit)) × ((List Int) × ((List (List Int)) × Unit)))))) (a1 : Bool) (a2 : Bool) (a3 : Bool) (r1 : (List Int)) (x56 : (Int × Int × Int × (List Int))) (r58 : Int) (x65 : (Int × Bool × Int)) : St :=
  ⟨[(0, .one (.val (.pt (.pair (.pair I (.pair I (.pair (.sl I) .unit))) (.pair (.pair I (.pair I .unit)) (.pair (.sl I) (.pair (.sl (.sl I)) .unit))))) a0), []), (1, .one (.val .bool a1), []), (2, .one (.val .bool a2), []), (3, .one (.val .bool a3), []), (8, .one (.bx 0 0 (.pair I (.pair I (.pair (.sl I) .unit)))), []), (9, .one (.val (.sl I) r1), []), (10, .one (.val I (r1.length : Int)), []), (11, .one (.bx 1 0 (.pair I (.pair I (.pair (.sl I) .unit)))), []), (12, .one (.val I x56.1), []), (13, .one (.val I r58), []), (14, .one (.val I x65.1), []), (15, .one (.val .bool x65.2.1), []), (23, .one (.val I (IntKind.i64.wrap ((1 : Int) * 2 ^ (min (r1.length : Int).toNat (IntKind.i64.bits))))), []), (24, .one (.val I x56.1), []), (53, .one (.val I (r1.length : Int)), []), (54, .one (.val I x65.2.2), [])], [.box (.pr (.val I (0 : Int)) (.pr (.val I (0 : Int)) (.pr (.nsl 3 I) .un))), .box (.pr (.val I x56.2.1) (.pr (.val I x56.2.2.1) (.pr (.own 2) .un))), .arr 3 I x56.2.2.2], []⟩
def go_impl_graph_search_L1_G (k : Nat) (a0 : (Option ((Int × (Int × ((List Int) × Unit))) × ((Int × (Int × Unit)) × ((List Int) × ((List (List Int)) × Unit)))))) (a1 : Bool) (a2 : Bool) (a3 : Bool) (r1 : (List Int)) (x56 : (Int × Int × Int × (List Int))) (r58 : Int) (rec57 : (Int × Int × Int × (List Int)) → Option (Int × (Int × ((List Int) × Unit)))) (rec66 : (Int × Bool × Int) → Option (Int × (Int × ((List Int) × Unit)))) (x65 : (Int × Bool × Int)) : Option (Int × (Int × ((List Int) × Unit))) :=
  if (decide (x65.2.2 < (r1.length : Int))) = true then
    if (decide (0 ≤ x65.2.2)) = true then
    if (decide ((IntKind.i64.wrap (((BitVec.ofInt (IntKind.i64.bits) (Int.fdiv x56.1 (2 ^ (min x65.2.2.toNat (IntKind.i64.bits)))) &&& BitVec.ofInt (IntKind.i64.bits) (1 : Int)).toNat : Int))) = (1 : Int))) = true then
      if (inb x65.2.2 r1.length) = true then
      if (!x65.2.1 || (inb x65.2.2 r1.length)) = true then
      rec66 ((IntKind.i64.wrap (((BitVec.ofInt (IntKind.i64.bits) x65.1 ||| BitVec.ofInt (IntKind.i64.bits) (r1.getD x65.2.2.toNat (0 : Int))).toNat : Int))), (x65.2.1 && (decide ((IntKind.i64.wrap (((BitVec.ofInt (IntKind.i64.bits) (r1.getD x65.2.2.toNat (0 : Int)) &&& BitVec.ofInt (IntKind.i64.bits) x56.1).toNat : Int))) = (0 : Int)))), (IntKind.i64.wrap (x65.2.2 + (1 : Int))))
      else none
      else none
    else
      rec66 (x65.1, x65.2.1, (IntKind.i64.wrap (x65.2.2 + (1 : Int))))
    else none
  else
    if (!a1 || (decide (0 ≤ (r1.length : Int)))) = true then
    if ((a1 && (!decide (x65.1 = (IntKind.i64.wrap ((IntKind.i64.wrap ((1 : Int) * 2 ^ (min (r1.length : Int).toNat (IntKind.i64.bits)))) - (1 : Int)))))) || (a2 && (!x65.2.1))) = true then
      rec57 ((IntKind.i64.wrap (x56.1 + (1 : Int))), x56.2.1, x56.2.2.1, x56.2.2.2)
    else
      if (!decide (r58 = x56.2.1)) = true then
        (go_impl_found_add k (r58, ((0 : Int), ([], ()))) a0 x56.1).bind fun r67 =>
        rec57 ((IntKind.i64.wrap (x56.1 + (1 : Int))), r67.2.1.1, r67.2.1.2.1, r67.2.1.2.2.1)
      else
        (go_impl_found_add k (x56.2.1, (x56.2.2.1, (x56.2.2.2, ()))) a0 x56.1).bind fun r68 =>
        rec57 ((IntKind.i64.wrap (x56.1 + (1 : Int))), r68.2.1.1, r68.2.1.2.1, r68.2.1.2.2.1)
    else none
def go_impl_graph_search_L1 (k : Nat) (a0 : (Option ((Int × (Int × ((List Int) × Unit))) × ((Int × (Int × Unit)) × ((List Int) × ((List (List Int)) × Unit)))))) (a1 : Bool) (a2 : Bool) (a3 : Bool) (rec57 : (Int × Int × Int × (List Int)) → Option (Int × (Int × ((List Int) × Unit)))) (r1 : (List Int)) (x56 : (Int × Int × Int × (List Int))) (r58 : Int) : (Int × Bool × Int) → Option (Int × (Int × ((List Int) × Unit))) :=
  iter k fun rec66 x65 => go_impl_graph_search_L1_G k a0 a1 a2 a3 r1 x56 r58 rec57 rec66 x65
theorem go_impl_graph_search_L1_t (k : Nat) (a0 : (Option ((Int × (Int × ((List Int) × Unit))) × ((Int × (Int × Unit)) × ((List Int) × ((List (List Int)) × Unit)))))) (a1 : Bool) (a2 : Bool) (a3 : Bool) (s0 : St → Option (Int × (Int × ((List Int) × Unit)))) (r1 : (List Int)) (x56 : (Int × Int × Int × (List Int))) (r58 : Int) (x : (Int × Bool × Int)) :
    iter k (loopAt (go_impl_graph_search_C k) (bodyOf Go.Proofs.Try.f95) [1, 1, 1, 1, 0, 1, 0, 0, 1, 1, 0, 0, 1, 1, 1, 1, 0, 1, 0] [s0] (finPure (go_impl_graph_search_C k) Go.Proofs.Try.f95.results.toList false (.pr (.val I) (.pr (.val I) (.pr (.own 3 I) .un))))) (go_impl_graph_search_L1_E a0 a1 a2 a3 r1 x56 r58 x) = go_impl_graph_search_L1 k a0 a1 a2 a3 (fun y => s0 (go_impl_graph_search_L0_E a0 a1 a2 a3 r1 y)) r1 x56 r58 x := by
  refine iter_tie (G := fun rec x => go_impl_graph_search_L1_G k a0 a1 a2 a3 r1 x56 r58 (fun y => s0 (go_impl_graph_search_L0_E a0 a1 a2 a3 r1 y)) rec x) (go_impl_graph_search_L1_E a0 a1 a2 a3 r1 x56 r58) (fun rec x => ?_) k x
  have h : loopAt (go_impl_graph_search_C k) (bodyOf Go.Proofs.Try.f95) [1, 1, 1, 1, 0, 1, 0, 0, 1, 1, 0, 0, 1, 1, 1, 1, 0, 1, 0] [s0] (finPure (go_impl_graph_search_C k) Go.Proofs.Try.f95.results.toList false (.pr (.val I) (.pr (.val I) (.pr (.own 3 I) .un)))) rec (go_impl_graph_search_L1_E a0 a1 a2 a3 r1 x56 r58 x) = go_impl_graph_search_L1_G k a0 a1 a2 a3 r1 x56 r58 (fun y => s0 (go_impl_graph_search_L0_E a0 a1 a2 a3 r1 y)) (fun y => rec (go_impl_graph_search_L1_E a0 a1 a2 a3 r1 x56 r58 y)) x := by kernel_rfl
  rw [h]
def go_impl_graph_search_L0_G (k : Nat) (a0 : (Option ((Int × (Int × ((List Int) × Unit))) × ((Int × (Int × Unit)) × ((List Int) × ((List (List Int)) × Unit)))))) (a1 : Bool) (a2 : Bool) (a3 : Bool) (r1 : (List Int)) (l_1 : (Int × Int × Int × (List Int)) → Int → (Int × Bool × Int) → Option (Int × (Int × ((List Int) × Unit)))) (rec57 : (Int × Int × Int × (List Int)) → Option (Int × (Int × ((List Int) × Unit)))) (x56 : (Int × Int × Int × (List Int))) : Option (Int × (Int × ((List Int) × Unit))) :=
  if (decide (x56.1 < (IntKind.i64.wrap ((1 : Int) * 2 ^ (min (r1.length : Int).toNat (IntKind.i64.bits)))))) = true then
    (go_math_bits_OnesCount k (IntKind.u64.wrap (x56.1))).bind fun r58 =>
    if ((decide ((0 : Int) ≤ x56.2.1)) && ((a3 && (decide (r58 < x56.2.1))) || ((!a3) && (decide (x56.2.1 < r58))))) = true then
      rec57 ((IntKind.i64.wrap (x56.1 + (1 : Int))), x56.2.1, x56.2.2.1, x56.2.2.2)
    else
      l_1 x56 r58 (x56.1, true, (0 : Int))
  else
    some (x56.2.1, (x56.2.2.1, (x56.2.2.2, ())))
def go_impl_graph_search_L0 (k : Nat) (a0 : (Option ((Int × (Int × ((List Int) × Unit))) × ((Int × (Int × Unit)) × ((List Int) × ((List (List Int)) × Unit)))))) (a1 : Bool) (a2 : Bool) (a3 : Bool) (r1 : (List Int)) : (Int × Int × Int × (List Int)) → Option (Int × (Int × ((List Int) × Unit))) :=
  iter k fun rec57 x56 => go_impl_graph_search_L0_G k a0 a1 a2 a3 r1 (fun c0 c1 y => go_impl_graph_search_L1 k a0 a1 a2 a3 rec57 r1 c0 c1 y) rec57 x56
theorem go_impl_graph_search_L0_t (k : Nat) (a0 : (Option ((Int × (Int × ((List Int) × Unit))) × ((Int × (Int × Unit)) × ((List Int) × ((List (List Int)) × Unit)))))) (a1 : Bool) (a2 : Bool) (a3 : Bool) (r1 : (List Int)) (x : (Int × Int × Int × (List Int))) :
    iter k (loopAt (go_impl_graph_search_C k) (bodyOf Go.Proofs.Try.f95) [1, 1, 1, 1, 0, 1, 0] [] (finPure (go_impl_graph_search_C k) Go.Proofs.Try.f95.results.toList false (.pr (.val I) (.pr (.val I) (.pr (.own 3 I) .un))))) (go_impl_graph_search_L0_E a0 a1 a2 a3 r1 x) = go_impl_graph_search_L0 k a0 a1 a2 a3 r1 x := by
  refine iter_tie (G := fun rec x => go_impl_graph_search_L0_G k a0 a1 a2 a3 r1 (fun c0 c1 y => go_impl_graph_search_L1 k a0 a1 a2 a3 rec r1 c0 c1 y) rec x) (go_impl_graph_search_L0_E a0 a1 a2 a3 r1) (fun rec x => ?_) k x
  have h : loopAt (go_impl_graph_search_C k) (bodyOf Go.Proofs.Try.f95) [1, 1, 1, 1, 0, 1, 0] [] (finPure (go_impl_graph_search_C k) Go.Proofs.Try.f95.results.toList false (.pr (.val I) (.pr (.val I) (.pr (.own 3 I) .un)))) rec (go_impl_graph_search_L0_E a0 a1 a2 a3 r1 x) = go_impl_graph_search_L0_G k a0 a1 a2 a3 r1 (fun c0 c1 y => iter k (loopAt (go_impl_graph_search_C k) (bodyOf Go.Proofs.Try.f95) [1, 1, 1, 1, 0, 1, 0, 0, 1, 1, 0, 0, 1, 1, 1, 1, 0, 1, 0] [rec] (finPure (go_impl_graph_search_C k) Go.Proofs.Try.f95.results.toList false (.pr (.val I) (.pr (.val I) (.pr (.own 3 I) .un))))) (go_impl_graph_search_L1_E a0 a1 a2 a3 r1 c0 c1 y)) (fun y => rec (go_impl_graph_search_L0_E a0 a1 a2 a3 r1 y)) x := by kernel_rfl
  have h0 : (fun c0 c1 y => iter k (loopAt (go_impl_graph_search_C k) (bodyOf Go.Proofs.Try.f95) [1, 1, 1, 1, 0, 1, 0, 0, 1, 1, 0, 0, 1, 1, 1, 1, 0, 1, 0] [rec] (finPure (go_impl_graph_search_C k) Go.Proofs.Try.f95.results.toList false (.pr (.val I) (.pr (.val I) (.pr (.own 3 I) .un))))) (go_impl_graph_search_L1_E a0 a1 a2 a3 r1 c0 c1 y)) = (fun c0 c1 y => go_impl_graph_search_L1 k a0 a1 a2 a3 (fun y => rec (go_impl_graph_search_L0_E a0 a1 a2 a3 r1 y)) r1 c0 c1 y) := by
    funext c0 c1 y
    exact go_impl_graph_search_L1_t k a0 a1 a2 a3 rec r1 c0 c1 y
  rw [h, h0]
def go_impl_graph_search_T (k : Nat) (a0 : (Option ((Int × (Int × ((List Int) × Unit))) × ((Int × (Int × Unit)) × ((List Int) × ((List (List Int)) × Unit)))))) (a1 : Bool) (a2 : Bool) (a3 : Bool) (l_0 : (List Int) → (Int × Int × Int × (List Int)) → Option (Int × (Int × ((List Int) × Unit)))) : Option (Int × (Int × ((List Int) × Unit))) :=
  (go_impl_graph_masks k a0).bind fun r1 =>
  if (decide (0 ≤ (r1.length : Int))) = true then
  l_0 r1 ((0 : Int), (-1 : Int), (0 : Int), [])
  else none
def go_impl_graph_search (k : Nat) (a0 : (Option ((Int × (Int × ((List Int) × Unit))) × ((Int × (Int × Unit)) × ((List Int) × ((List (List Int)) × Unit)))))) (a1 : Bool) (a2 : Bool) (a3 : Bool) : Option (Int × (Int × ((List Int) × Unit))) :=
  go_impl_graph_search_T k a0 a1 a2 a3 (fun r1 y => go_impl_graph_search_L0 k a0 a1 a2 a3 r1 y)
theorem go_impl_graph_search_t (k : Nat) (a0 : (Option ((Int × (Int × ((List Int) × Unit))) × ((Int × (Int × Unit)) × ((List Int) × ((List (List Int)) × Unit)))))) (a1 : Bool) (a2 : Bool) (a3 : Bool) : runPure (go_impl_graph_search_C k) (bodyOf Go.Proofs.Try.f95) Go.Proofs.Try.f95.results.toList false (.pr (.val (.pt (.pair (.pair I (.pair I (.pair (.sl I) .unit))) (.pair (.pair I (.pair I .unit)) (.pair (.sl I) (.pair (.sl (.sl I)) .unit)))))) (.pr (.val .bool) (.pr (.val .bool) (.pr (.val .bool) .un)))) (.pr (.val I) (.pr (.val I) (.pr (.own 3 I) .un))) (a0, a1, a2, a3, ()) = go_impl_graph_search k a0 a1 a2 a3 := by
  have h : runPure (go_impl_graph_search_C k) (bodyOf Go.Proofs.Try.f95) Go.Proofs.Try.f95.results.toList false (.pr (.val (.pt (.pair (.pair I (.pair I (.pair (.sl I) .unit))) (.pair (.pair I (.pair I .unit)) (.pair (.sl I) (.pair (.sl (.sl I)) .unit)))))) (.pr (.val .bool) (.pr (.val .bool) (.pr (.val .bool) .un)))) (.pr (.val I) (.pr (.val I) (.pr (.own 3 I) .un))) (a0, a1, a2, a3, ()) = go_impl_graph_search_T k a0 a1 a2 a3 (fun r1 y => iter k (loopAt (go_impl_graph_search_C k) (bodyOf Go.Proofs.Try.f95) [1, 1, 1, 1, 0, 1, 0] [] (finPure (go_impl_graph_search_C k) Go.Proofs.Try.f95.results.toList false (.pr (.val I) (.pr (.val I) (.pr (.own 3 I) .un))))) (go_impl_graph_search_L0_E a0 a1 a2 a3 r1 y)) := by kernel_rfl
  have h0 : (fun r1 y => iter k (loopAt (go_impl_graph_search_C k) (bodyOf Go.Proofs.Try.f95) [1, 1, 1, 1, 0, 1, 0] [] (finPure (go_impl_graph_search_C k) Go.Proofs.Try.f95.results.toList false (.pr (.val I) (.pr (.val I) (.pr (.own 3 I) .un))))) (go_impl_graph_search_L0_E a0 a1 a2 a3 r1 y)) = (fun r1 y => go_impl_graph_search_L0 k a0 a1 a2 a3 r1 y) := by
    funext r1 y
    exact go_impl_graph_search_L0_t k a0 a1 a2 a3 r1 y
  rw [h, h0]
  rfl
def go_impl_graph_search_S (k : Nat) : Spec := ⟨(.pr (.val (.pt (.pair (.pair I (.pair I (.pair (.sl I) .unit))) (.pair (.pair I (.pair I .unit)) (.pair (.sl I) (.pair (.sl (.sl I)) .unit)))))) (.pr (.val .bool) (.pr (.val .bool) (.pr (.val .bool) .un)))), (.pr (.val I) (.pr (.val I) (.pr (.own 3 I) .un))), false, .inl fun x => go_impl_graph_search k x.1 x.2.1 x.2.2.1 x.2.2.2.1⟩
theorem go_impl_graph_search_F (k : Nat) : Fits Go.Proofs.Try.prog (go_impl_graph_search_C k) 95 Go.Proofs.Try.f95 (bodyOf Go.Proofs.Try.f95) (.pr (.val (.pt (.pair (.pair I (.pair I (.pair (.sl I) .unit))) (.pair (.pair I (.pair I .unit)) (.pair (.sl I) (.pair (.sl (.sl I)) .unit)))))) (.pr (.val .bool) (.pr (.val .bool) (.pr (.val .bool) .un)))) (.pr (.val I) (.pr (.val I) (.pr (.own 3 I) .un))) false :=
  ⟨th0, mixed0, by kernel_rfl, Go.Proofs.Try.func95, rfl, by kernel_rfl, rfl, rfl, rfl, rfl, rfl, rfl⟩
theorem go_impl_graph_search_M (k : Nat) : Meets Go.Proofs.Try.prog 95 (go_impl_graph_search_S k) :=
  meets_pure (go_impl_graph_search_F k) (sigs_all (l := [(88, go_impl_graph_masks_S k), (89, go_math_bits_OnesCount_S k), (117, go_impl_found_add_S k)]) rfl ⟨go_impl_graph_masks_M k, ⟨go_math_bits_OnesCount_M k, ⟨go_impl_found_add_M k, trivial⟩⟩⟩) rfl fun x => go_impl_graph_search_t k x.1 x.2.1 x.2.2.1 x.2.2.2.1

/-! ### impl.searched -/
def go_impl_searched_C (k : Nat) : Ctx := { th := TH, se := SE, sg := [(66, go_impl_tourGraph_S k), (95, go_impl_graph_search_S k)], mu := [27], an := [], dr := [], pre := [], d2 := [], m := 0, fx := [], n := 28, k := k }
def go_impl_searched (k : Nat) (a0 : (Int × (Int × ((List Int) × Unit)))) (a1 : (Int × (Int × Unit))) (a2 : Bool) (a3 : Bool) (a4 : Bool) : Option ((Int × (Int × ((List Int) × Unit))) × (Bool × Unit)) :=
  (go_impl_tourGraph k a0 a1 (16 : Int)).bind fun r1 =>
  if (!r1.2.1) = true then
    some (((0 : Int), ((0 : Int), ([], ()))), (false, ()))
  else
    (go_impl_graph_search k r1.1 a2 a3 a4).bind fun r2 =>
    some ((r2.1, (r2.2.1, (r2.2.2.1, ()))), (true, ()))
theorem go_impl_searched_t (k : Nat) (a0 : (Int × (Int × ((List Int) × Unit)))) (a1 : (Int × (Int × Unit))) (a2 : Bool) (a3 : Bool) (a4 : Bool) : runPure (go_impl_searched_C k) (bodyOf Go.Proofs.Try.f75) Go.Proofs.Try.f75.results.toList true (.pr (.val (.pair I (.pair I (.pair (.sl I) .unit)))) (.pr (.val (.pair I (.pair I .unit))) (.pr (.val .bool) (.pr (.val .bool) (.pr (.val .bool) .un))))) (.pr (.pr (.val I) (.pr (.val I) (.pr (.own 3 I) .un))) (.pr (.val .bool) .un)) (a0, a1, a2, a3, a4, ()) = go_impl_searched k a0 a1 a2 a3 a4 := by kernel_rfl
def go_impl_searched_S (k : Nat) : Spec := ⟨(.pr (.val (.pair I (.pair I (.pair (.sl I) .unit)))) (.pr (.val (.pair I (.pair I .unit))) (.pr (.val .bool) (.pr (.val .bool) (.pr (.val .bool) .un))))), (.pr (.pr (.val I) (.pr (.val I) (.pr (.own 3 I) .un))) (.pr (.val .bool) .un)), true, .inl fun x => go_impl_searched k x.1 x.2.1 x.2.2.1 x.2.2.2.1 x.2.2.2.2.1⟩
theorem go_impl_searched_F (k : Nat) : Fits Go.Proofs.Try.prog (go_impl_searched_C k) 75 Go.Proofs.Try.f75 (bodyOf Go.Proofs.Try.f75) (.pr (.val (.pair I (.pair I (.pair (.sl I) .unit)))) (.pr (.val (.pair I (.pair I .unit))) (.pr (.val .bool) (.pr (.val .bool) (.pr (.val .bool) .un))))) (.pr (.pr (.val I) (.pr (.val I) (.pr (.own 3 I) .un))) (.pr (.val .bool) .un)) true :=
  ⟨th0, mixed0, by kernel_rfl, Go.Proofs.Try.func75, rfl, by kernel_rfl, rfl, rfl, rfl, rfl, rfl, rfl⟩
theorem go_impl_searched_M (k : Nat) : Meets Go.Proofs.Try.prog 75 (go_impl_searched_S k) :=
  meets_pure (go_impl_searched_F k) (sigs_all (l := [(66, go_impl_tourGraph_S k), (95, go_impl_graph_search_S k)]) rfl ⟨go_impl_tourGraph_M k, ⟨go_impl_graph_search_M k, trivial⟩⟩) rfl fun x => go_impl_searched_t k x.1 x.2.1 x.2.2.1 x.2.2.2.1 x.2.2.2.2.1

/-! ### impl.FewestGuards -/
def go_impl_FewestGuards_C (k : Nat) : Ctx := { th := TH, se := SE, sg := [(75, go_impl_searched_S k)], mu := [], an := [], dr := [], pre := [], d2 := [], m := 0, fx := [], n := 17, k := k }
def go_impl_FewestGuards (k : Nat) (a0 : (Int × (Int × ((List Int) × Unit)))) (a1 : (Int × (Int × Unit))) : Option (Int × (Bool × Unit)) :=
  (go_impl_searched k a0 a1 true false false).bind fun r1 =>
  some (r1.1.1, (r1.2.1, ()))
theorem go_impl_FewestGuards_t (k : Nat) (a0 : (Int × (Int × ((List Int) × Unit)))) (a1 : (Int × (Int × Unit))) : runPure (go_impl_FewestGuards_C k) (bodyOf Go.Proofs.Try.f36) Go.Proofs.Try.f36.results.toList true (.pr (.val (.pair I (.pair I (.pair (.sl I) .unit)))) (.pr (.val (.pair I (.pair I .unit))) .un)) (.pr (.val I) (.pr (.val .bool) .un)) (a0, a1, ()) = go_impl_FewestGuards k a0 a1 := by kernel_rfl
def go_impl_FewestGuards_S (k : Nat) : Spec := ⟨(.pr (.val (.pair I (.pair I (.pair (.sl I) .unit)))) (.pr (.val (.pair I (.pair I .unit))) .un)), (.pr (.val I) (.pr (.val .bool) .un)), true, .inl fun x => go_impl_FewestGuards k x.1 x.2.1⟩
theorem go_impl_FewestGuards_F (k : Nat) : Fits Go.Proofs.Try.prog (go_impl_FewestGuards_C k) 36 Go.Proofs.Try.f36 (bodyOf Go.Proofs.Try.f36) (.pr (.val (.pair I (.pair I (.pair (.sl I) .unit)))) (.pr (.val (.pair I (.pair I .unit))) .un)) (.pr (.val I) (.pr (.val .bool) .un)) true :=
  ⟨th0, mixed0, by kernel_rfl, Go.Proofs.Try.func36, rfl, by kernel_rfl, rfl, rfl, rfl, rfl, rfl, rfl⟩
theorem go_impl_FewestGuards_M (k : Nat) : Meets Go.Proofs.Try.prog 36 (go_impl_FewestGuards_S k) :=
  meets_pure (go_impl_FewestGuards_F k) (sigs_all (l := [(75, go_impl_searched_S k)]) rfl ⟨go_impl_searched_M k, trivial⟩) rfl fun x => go_impl_FewestGuards_t k x.1 x.2.1

/-! ### laws.FnExactFewestGuards -/
def go_laws_FnExactFewestGuards_C (k : Nat) : Ctx := { th := TH, se := SE, sg := [(15, go_laws_szBoard_S k), (17, go_laws_toBoard_S k), (18, go_laws_toLeaper_S k), (35, go_spec_FewestGuards_S k), (36, go_impl_FewestGuards_S k), (21, go_laws_eqBoard_S k)], mu := [], an := [], dr := [(5, 9), (7, 8), (10, 3)], pre := [], d2 := [], m := 0, fx := [], n := 46, k := k }
def go_laws_FnExactFewestGuards (k : Nat) (a0 : (Int × (Int × ((List Int) × Unit)))) (a1 : (Int × (Int × Unit))) : Option Bool :=
  (go_laws_szBoard k a0 (1048576 : Int)).bind fun r1 =>
  if (decide (r1 < (0 : Int))) = true then
    some true
  else
    (go_laws_toBoard k a0).bind fun r2 =>
    (go_laws_toLeaper k a1).bind fun r3 =>
    (go_spec_FewestGuards k (r2.1, (r2.2.1, (r2.2.2.1, ()))) r3).bind fun r4 =>
    (go_laws_toBoard k a0).bind fun r5 =>
    (go_laws_toLeaper k a1).bind fun r6 =>
    (go_impl_FewestGuards k (r5.1, (r5.2.1, (r5.2.2.1, ()))) r6).bind fun r7 =>
    if ((!decide (r7.1 = r4.1)) || (r7.2.1 != r4.2.1)) = true then
      some false
    else
      (go_laws_toBoard k a0).bind fun r8 =>
      (go_laws_eqBoard k (r5.1, (r5.2.1, (r5.2.2.1, ()))) (r8.1, (r8.2.1, (r8.2.2.1, ())))).bind fun r9 =>
      if (!r9) = true then
        some false
      else
        some true
theorem go_laws_FnExactFewestGuards_t (k : Nat) (a0 : (Int × (Int × ((List Int) × Unit)))) (a1 : (Int × (Int × Unit))) : runPure (go_laws_FnExactFewestGuards_C k) (bodyOf Go.Proofs.Try.f9) Go.Proofs.Try.f9.results.toList false (.pr (.val (.pair I (.pair I (.pair (.sl I) .unit)))) (.pr (.val (.pair I (.pair I .unit))) .un)) (.val .bool) (a0, a1, ()) = go_laws_FnExactFewestGuards k a0 a1 := by kernel_rfl
def go_laws_FnExactFewestGuards_S (k : Nat) : Spec := ⟨(.pr (.val (.pair I (.pair I (.pair (.sl I) .unit)))) (.pr (.val (.pair I (.pair I .unit))) .un)), (.val .bool), false, .inl fun x => go_laws_FnExactFewestGuards k x.1 x.2.1⟩
theorem go_laws_FnExactFewestGuards_F (k : Nat) : Fits Go.Proofs.Try.prog (go_laws_FnExactFewestGuards_C k) 9 Go.Proofs.Try.f9 (bodyOf Go.Proofs.Try.f9) (.pr (.val (.pair I (.pair I (.pair (.sl I) .unit)))) (.pr (.val (.pair I (.pair I .unit))) .un)) (.val .bool) false :=
  ⟨th0, mixed0, by kernel_rfl, Go.Proofs.Try.func9, rfl, by kernel_rfl, rfl, rfl, rfl, rfl, rfl, rfl⟩
theorem go_laws_FnExactFewestGuards_M (k : Nat) : Meets Go.Proofs.Try.prog 9 (go_laws_FnExactFewestGuards_S k) :=
  meets_pure (go_laws_FnExactFewestGuards_F k) (sigs_all (l := [(15, go_laws_szBoard_S k), (17, go_laws_toBoard_S k), (18, go_laws_toLeaper_S k), (35, go_spec_FewestGuards_S k), (36, go_impl_FewestGuards_S k), (21, go_laws_eqBoard_S k)]) rfl ⟨go_laws_szBoard_M k, ⟨go_laws_toBoard_M k, ⟨go_laws_toLeaper_M k, ⟨go_spec_FewestGuards_M k, ⟨go_impl_FewestGuards_M k, ⟨go_laws_eqBoard_M k, trivial⟩⟩⟩⟩⟩⟩) rfl fun x => go_laws_FnExactFewestGuards_t k x.1 x.2.1

/-! ### spec.CountFewest -/
def go_spec_CountFewest_C (k : Nat) : Ctx := { th := TH, se := SE, sg := [(59, go_spec_guFew_S k), (60, go_spec_guAll_S k)], mu := [], an := [], dr := [], pre := [], d2 := [], m := 0, fx := [], n := 14, k := k }
def go_spec_CountFewest (k : Nat) (a0 : (Int × (Int × ((List Int) × Unit)))) (a1 : (Int × (Int × Unit))) : Option (Int × (Bool × Unit)) :=
  (go_spec_guFew k a0 a1).bind fun r1 =>
  if (!r1) = true then
    some ((0 : Int), (false, ()))
  else
    (go_spec_guAll k a0 a1 true false true).bind fun r2 =>
    some (r2.2.1, (true, ()))
theorem go_spec_CountFewest_t (k : Nat) (a0 : (Int × (Int × ((List Int) × Unit)))) (a1 : (Int × (Int × Unit))) : runPure (go_spec_CountFewest_C k) (bodyOf Go.Proofs.Try.f37) Go.Proofs.Try.f37.results.toList true (.pr (.val (.pair I (.pair I (.pair (.sl I) .unit)))) (.pr (.val (.pair I (.pair I .unit))) .un)) (.pr (.val I) (.pr (.val .bool) .un)) (a0, a1, ()) = go_spec_CountFewest k a0 a1 := by kernel_rfl
def go_spec_CountFewest_S (k : Nat) : Spec := ⟨(.pr (.val (.pair I (.pair I (.pair (.sl I) .unit)))) (.pr (.val (.pair I (.pair I .unit))) .un)), (.pr (.val I) (.pr (.val .bool) .un)), true, .inl fun x => go_spec_CountFewest k x.1 x.2.1⟩
theorem go_spec_CountFewest_F (k : Nat) : Fits Go.Proofs.Try.prog (go_spec_CountFewest_C k) 37 Go.Proofs.Try.f37 (bodyOf Go.Proofs.Try.f37) (.pr (.val (.pair I (.pair I (.pair (.sl I) .unit)))) (.pr (.val (.pair I (.pair I .unit))) .un)) (.pr (.val I) (.pr (.val .bool) .un)) true :=
  ⟨th0, mixed0, by kernel_rfl, Go.Proofs.Try.func37, rfl, by kernel_rfl, rfl, rfl, rfl, rfl, rfl, rfl⟩
theorem go_spec_CountFewest_M (k : Nat) : Meets Go.Proofs.Try.prog 37 (go_spec_CountFewest_S k) :=
  meets_pure (go_spec_CountFewest_F k) (sigs_all (l := [(59, go_spec_guFew_S k), (60, go_spec_guAll_S k)]) rfl ⟨go_spec_guFew_M k, ⟨go_spec_guAll_M k, trivial⟩⟩) rfl fun x => go_spec_CountFewest_t k x.1 x.2.1

/-! ### impl.CountFewest -/
def go_impl_CountFewest_C (k : Nat) : Ctx := { th := TH, se := SE, sg := [(75, go_impl_searched_S k)], mu := [], an := [], dr := [], pre := [], d2 := [], m := 0, fx := [], n := 17, k := k }
def go_impl_CountFewest (k : Nat) (a0 : (Int × (Int × ((List Int) × Unit)))) (a1 : (Int × (Int × Unit))) : Option (Int × (Bool × Unit)) :=
  (go_impl_searched k a0 a1 true false false).bind fun r1 =>
  some (r1.1.2.1, (r1.2.1, ()))
theorem go_impl_CountFewest_t (k : Nat) (a0 : (Int × (Int × ((List Int) × Unit)))) (a1 : (Int × (Int × Unit))) : runPure (go_impl_CountFewest_C k) (bodyOf Go.Proofs.Try.f38) Go.Proofs.Try.f38.results.toList true (.pr (.val (.pair I (.pair I (.pair (.sl I) .unit)))) (.pr (.val (.pair I (.pair I .unit))) .un)) (.pr (.val I) (.pr (.val .bool) .un)) (a0, a1, ()) = go_impl_CountFewest k a0 a1 := by kernel_rfl
def go_impl_CountFewest_S (k : Nat) : Spec := ⟨(.pr (.val (.pair I (.pair I (.pair (.sl I) .unit)))) (.pr (.val (.pair I (.pair I .unit))) .un)), (.pr (.val I) (.pr (.val .bool) .un)), true, .inl fun x => go_impl_CountFewest k x.1 x.2.1⟩
theorem go_impl_CountFewest_F (k : Nat) : Fits Go.Proofs.Try.prog (go_impl_CountFewest_C k) 38 Go.Proofs.Try.f38 (bodyOf Go.Proofs.Try.f38) (.pr (.val (.pair I (.pair I (.pair (.sl I) .unit)))) (.pr (.val (.pair I (.pair I .unit))) .un)) (.pr (.val I) (.pr (.val .bool) .un)) true :=
  ⟨th0, mixed0, by kernel_rfl, Go.Proofs.Try.func38, rfl, by kernel_rfl, rfl, rfl, rfl, rfl, rfl, rfl⟩
theorem go_impl_CountFewest_M (k : Nat) : Meets Go.Proofs.Try.prog 38 (go_impl_CountFewest_S k) :=
  meets_pure (go_impl_CountFewest_F k) (sigs_all (l := [(75, go_impl_searched_S k)]) rfl ⟨go_impl_searched_M k, trivial⟩) rfl fun x => go_impl_CountFewest_t k x.1 x.2.1

/-! ### laws.FnExactCountFewest -/
def go_laws_FnExactCountFewest_C (k : Nat) : Ctx := { th := TH, se := SE, sg := [(15, go_laws_szBoard_S k), (17, go_laws_toBoard_S k), (18, go_laws_toLeaper_S k), (37, go_spec_CountFewest_S k), (38, go_impl_CountFewest_S k), (21, go_laws_eqBoard_S k)], mu := [], an := [], dr := [(5, 9), (7, 8), (10, 3)], pre := [], d2 := [], m := 0, fx := [], n := 46, k := k }
def go_laws_FnExactCountFewest (k : Nat) (a0 : (Int × (Int × ((List Int) × Unit)))) (a1 : (Int × (Int × Unit))) : Option Bool :=
  (go_laws_szBoard k a0 (1048576 : Int)).bind fun r1 =>
  if (decide (r1 < (0 : Int))) = true then
    some true
  else
    (go_laws_toBoard k a0).bind fun r2 =>
    (go_laws_toLeaper k a1).bind fun r3 =>
    (go_spec_CountFewest k (r2.1, (r2.2.1, (r2.2.2.1, ()))) r3).bind fun r4 =>
    (go_laws_toBoard k a0).bind fun r5 =>
    (go_laws_toLeaper k a1).bind fun r6 =>
    (go_impl_CountFewest k (r5.1, (r5.2.1, (r5.2.2.1, ()))) r6).bind fun r7 =>
    if ((!decide (r7.1 = r4.1)) || (r7.2.1 != r4.2.1)) = true then
      some false
    else
      (go_laws_toBoard k a0).bind fun r8 =>
      (go_laws_eqBoard k (r5.1, (r5.2.1, (r5.2.2.1, ()))) (r8.1, (r8.2.1, (r8.2.2.1, ())))).bind fun r9 =>
      if (!r9) = true then
        some false
      else
        some true
theorem go_laws_FnExactCountFewest_t (k : Nat) (a0 : (Int × (Int × ((List Int) × Unit)))) (a1 : (Int × (Int × Unit))) : runPure (go_laws_FnExactCountFewest_C k) (bodyOf Go.Proofs.Try.f10) Go.Proofs.Try.f10.results.toList false (.pr (.val (.pair I (.pair I (.pair (.sl I) .unit)))) (.pr (.val (.pair I (.pair I .unit))) .un)) (.val .bool) (a0, a1, ()) = go_laws_FnExactCountFewest k a0 a1 := by kernel_rfl
def go_laws_FnExactCountFewest_S (k : Nat) : Spec := ⟨(.pr (.val (.pair I (.pair I (.pair (.sl I) .unit)))) (.pr (.val (.pair I (.pair I .unit))) .un)), (.val .bool), false, .inl fun x => go_laws_FnExactCountFewest k x.1 x.2.1⟩
theorem go_laws_FnExactCountFewest_F (k : Nat) : Fits Go.Proofs.Try.prog (go_laws_FnExactCountFewest_C k) 10 Go.Proofs.Try.f10 (bodyOf Go.Proofs.Try.f10) (.pr (.val (.pair I (.pair I (.pair (.sl I) .unit)))) (.pr (.val (.pair I (.pair I .unit))) .un)) (.val .bool) false :=
  ⟨th0, mixed0, by kernel_rfl, Go.Proofs.Try.func10, rfl, by kernel_rfl, rfl, rfl, rfl, rfl, rfl, rfl⟩
theorem go_laws_FnExactCountFewest_M (k : Nat) : Meets Go.Proofs.Try.prog 10 (go_laws_FnExactCountFewest_S k) :=
  meets_pure (go_laws_FnExactCountFewest_F k) (sigs_all (l := [(15, go_laws_szBoard_S k), (17, go_laws_toBoard_S k), (18, go_laws_toLeaper_S k), (37, go_spec_CountFewest_S k), (38, go_impl_CountFewest_S k), (21, go_laws_eqBoard_S k)]) rfl ⟨go_laws_szBoard_M k, ⟨go_laws_toBoard_M k, ⟨go_laws_toLeaper_M k, ⟨go_spec_CountFewest_M k, ⟨go_impl_CountFewest_M k, ⟨go_laws_eqBoard_M k, trivial⟩⟩⟩⟩⟩⟩) rfl fun x => go_laws_FnExactCountFewest_t k x.1 x.2.1

/-! ### spec.CountMost -/
def go_spec_CountMost_C (k : Nat) : Ctx := { th := TH, se := SE, sg := [(59, go_spec_guFew_S k), (60, go_spec_guAll_S k)], mu := [], an := [], dr := [], pre := [], d2 := [], m := 0, fx := [], n := 14, k := k }
def go_spec_CountMost (k : Nat) (a0 : (Int × (Int × ((List Int) × Unit)))) (a1 : (Int × (Int × Unit))) : Option (Int × (Bool × Unit)) :=
  (go_spec_guFew k a0 a1).bind fun r1 =>
  if (!r1) = true then
    some ((0 : Int), (false, ()))
  else
    (go_spec_guAll k a0 a1 false true false).bind fun r2 =>
    some (r2.2.1, (true, ()))
theorem go_spec_CountMost_t (k : Nat) (a0 : (Int × (Int × ((List Int) × Unit)))) (a1 : (Int × (Int × Unit))) : runPure (go_spec_CountMost_C k) (bodyOf Go.Proofs.Try.f39) Go.Proofs.Try.f39.results.toList true (.pr (.val (.pair I (.pair I (.pair (.sl I) .unit)))) (.pr (.val (.pair I (.pair I .unit))) .un)) (.pr (.val I) (.pr (.val .bool) .un)) (a0, a1, ()) = go_spec_CountMost k a0 a1 := by kernel_rfl
def go_spec_CountMost_S (k : Nat) : Spec := ⟨(.pr (.val (.pair I (.pair I (.pair (.sl I) .unit)))) (.pr (.val (.pair I (.pair I .unit))) .un)), (.pr (.val I) (.pr (.val .bool) .un)), true, .inl fun x => go_spec_CountMost k x.1 x.2.1⟩
theorem go_spec_CountMost_F (k : Nat) : Fits Go.Proofs.Try.prog (go_spec_CountMost_C k) 39 Go.Proofs.Try.f39 (bodyOf Go.Proofs.Try.f39) (.pr (.val (.pair I (.pair I (.pair (.sl I) .unit)))) (.pr (.val (.pair I (.pair I .unit))) .un)) (.pr (.val I) (.pr (.val .bool) .un)) true :=
  ⟨th0, mixed0, by kernel_rfl, Go.Proofs.Try.func39, rfl, by kernel_rfl, rfl, rfl, rfl, rfl, rfl, rfl⟩
theorem go_spec_CountMost_M (k : Nat) : Meets Go.Proofs.Try.prog 39 (go_spec_CountMost_S k) :=
  meets_pure (go_spec_CountMost_F k) (sigs_all (l := [(59, go_spec_guFew_S k), (60, go_spec_guAll_S k)]) rfl ⟨go_spec_guFew_M k, ⟨go_spec_guAll_M k, trivial⟩⟩) rfl fun x => go_spec_CountMost_t k x.1 x.2.1

/-! ### impl.CountMost -/
def go_impl_CountMost_C (k : Nat) : Ctx := { th := TH, se := SE, sg := [(75, go_impl_searched_S k)], mu := [], an := [], dr := [], pre := [], d2 := [], m := 0, fx := [], n := 17, k := k }
def go_impl_CountMost (k : Nat) (a0 : (Int × (Int × ((List Int) × Unit)))) (a1 : (Int × (Int × Unit))) : Option (Int × (Bool × Unit)) :=
  (go_impl_searched k a0 a1 false true true).bind fun r1 =>
  some (r1.1.2.1, (r1.2.1, ()))
theorem go_impl_CountMost_t (k : Nat) (a0 : (Int × (Int × ((List Int) × Unit)))) (a1 : (Int × (Int × Unit))) : runPure (go_impl_CountMost_C k) (bodyOf Go.Proofs.Try.f40) Go.Proofs.Try.f40.results.toList true (.pr (.val (.pair I (.pair I (.pair (.sl I) .unit)))) (.pr (.val (.pair I (.pair I .unit))) .un)) (.pr (.val I) (.pr (.val .bool) .un)) (a0, a1, ()) = go_impl_CountMost k a0 a1 := by kernel_rfl
def go_impl_CountMost_S (k : Nat) : Spec := ⟨(.pr (.val (.pair I (.pair I (.pair (.sl I) .unit)))) (.pr (.val (.pair I (.pair I .unit))) .un)), (.pr (.val I) (.pr (.val .bool) .un)), true, .inl fun x => go_impl_CountMost k x.1 x.2.1⟩
theorem go_impl_CountMost_F (k : Nat) : Fits Go.Proofs.Try.prog (go_impl_CountMost_C k) 40 Go.Proofs.Try.f40 (bodyOf Go.Proofs.Try.f40) (.pr (.val (.pair I (.pair I (.pair (.sl I) .unit)))) (.pr (.val (.pair I (.pair I .unit))) .un)) (.pr (.val I) (.pr (.val .bool) .un)) true :=
  ⟨th0, mixed0, by kernel_rfl, Go.Proofs.Try.func40, rfl, by kernel_rfl, rfl, rfl, rfl, rfl, rfl, rfl⟩
theorem go_impl_CountMost_M (k : Nat) : Meets Go.Proofs.Try.prog 40 (go_impl_CountMost_S k) :=
  meets_pure (go_impl_CountMost_F k) (sigs_all (l := [(75, go_impl_searched_S k)]) rfl ⟨go_impl_searched_M k, trivial⟩) rfl fun x => go_impl_CountMost_t k x.1 x.2.1

/-! ### laws.FnExactCountMost -/
def go_laws_FnExactCountMost_C (k : Nat) : Ctx := { th := TH, se := SE, sg := [(15, go_laws_szBoard_S k), (17, go_laws_toBoard_S k), (18, go_laws_toLeaper_S k), (39, go_spec_CountMost_S k), (40, go_impl_CountMost_S k), (21, go_laws_eqBoard_S k)], mu := [], an := [], dr := [(5, 9), (7, 8), (10, 3)], pre := [], d2 := [], m := 0, fx := [], n := 46, k := k }
def go_laws_FnExactCountMost (k : Nat) (a0 : (Int × (Int × ((List Int) × Unit)))) (a1 : (Int × (Int × Unit))) : Option Bool :=
  (go_laws_szBoard k a0 (1048576 : Int)).bind fun r1 =>
  if (decide (r1 < (0 : Int))) = true then
    some true
  else
    (go_laws_toBoard k a0).bind fun r2 =>
    (go_laws_toLeaper k a1).bind fun r3 =>
    (go_spec_CountMost k (r2.1, (r2.2.1, (r2.2.2.1, ()))) r3).bind fun r4 =>
    (go_laws_toBoard k a0).bind fun r5 =>
    (go_laws_toLeaper k a1).bind fun r6 =>
    (go_impl_CountMost k (r5.1, (r5.2.1, (r5.2.2.1, ()))) r6).bind fun r7 =>
    if ((!decide (r7.1 = r4.1)) || (r7.2.1 != r4.2.1)) = true then
      some false
    else
      (go_laws_toBoard k a0).bind fun r8 =>
      (go_laws_eqBoard k (r5.1, (r5.2.1, (r5.2.2.1, ()))) (r8.1, (r8.2.1, (r8.2.2.1, ())))).bind fun r9 =>
      if (!r9) = true then
        some false
      else
        some true
theorem go_laws_FnExactCountMost_t (k : Nat) (a0 : (Int × (Int × ((List Int) × Unit)))) (a1 : (Int × (Int × Unit))) : runPure (go_laws_FnExactCountMost_C k) (bodyOf Go.Proofs.Try.f11) Go.Proofs.Try.f11.results.toList false (.pr (.val (.pair I (.pair I (.pair (.sl I) .unit)))) (.pr (.val (.pair I (.pair I .unit))) .un)) (.val .bool) (a0, a1, ()) = go_laws_FnExactCountMost k a0 a1 := by kernel_rfl
def go_laws_FnExactCountMost_S (k : Nat) : Spec := ⟨(.pr (.val (.pair I (.pair I (.pair (.sl I) .unit)))) (.pr (.val (.pair I (.pair I .unit))) .un)), (.val .bool), false, .inl fun x => go_laws_FnExactCountMost k x.1 x.2.1⟩
theorem go_laws_FnExactCountMost_F (k : Nat) : Fits Go.Proofs.Try.prog (go_laws_FnExactCountMost_C k) 11 Go.Proofs.Try.f11 (bodyOf Go.Proofs.Try.f11) (.pr (.val (.pair I (.pair I (.pair (.sl I) .unit)))) (.pr (.val (.pair I (.pair I .unit))) .un)) (.val .bool) false :=
  ⟨th0, mixed0, by kernel_rfl, Go.Proofs.Try.func11, rfl, by kernel_rfl, rfl, rfl, rfl, rfl, rfl, rfl⟩
theorem go_laws_FnExactCountMost_M (k : Nat) : Meets Go.Proofs.Try.prog 11 (go_laws_FnExactCountMost_S k) :=
  meets_pure (go_laws_FnExactCountMost_F k) (sigs_all (l := [(15, go_laws_szBoard_S k), (17, go_laws_toBoard_S k), (18, go_laws_toLeaper_S k), (39, go_spec_CountMost_S k), (40, go_impl_CountMost_S k), (21, go_laws_eqBoard_S k)]) rfl ⟨go_laws_szBoard_M k, ⟨go_laws_toBoard_M k, ⟨go_laws_toLeaper_M k, ⟨go_spec_CountMost_M k, ⟨go_impl_CountMost_M k, ⟨go_laws_eqBoard_M k, trivial⟩⟩⟩⟩⟩⟩) rfl fun x => go_laws_FnExactCountMost_t k x.1 x.2.1

/-! ### spec.FewestPeacefulGuards -/
def go_spec_FewestPeacefulGuards_C (k : Nat) : Ctx := { th := TH, se := SE, sg := [(59, go_spec_guFew_S k), (60, go_spec_guAll_S k)], mu := [], an := [], dr := [], pre := [], d2 := [], m := 0, fx := [], n := 14, k := k }
def go_spec_FewestPeacefulGuards (k : Nat) (a0 : (Int × (Int × ((List Int) × Unit)))) (a1 : (Int × (Int × Unit))) : Option (Int × (Bool × Unit)) :=
  (go_spec_guFew k a0 a1).bind fun r1 =>
  if (!r1) = true then
    some ((0 : Int), (false, ()))
  else
    (go_spec_guAll k a0 a1 true true true).bind fun r2 =>
    some (r2.1, (true, ()))
theorem go_spec_FewestPeacefulGuards_t (k : Nat) (a0 : (Int × (Int × ((List Int) × Unit)))) (a1 : (Int × (Int × Unit))) : runPure (go_spec_FewestPeacefulGuards_C k) (bodyOf Go.Proofs.Try.f41) Go.Proofs.Try.f41.results.toList true (.pr (.val (.pair I (.pair I (.pair (.sl I) .unit)))) (.pr (.val (.pair I (.pair I .unit))) .un)) (.pr (.val I) (.pr (.val .bool) .un)) (a0, a1, ()) = go_spec_FewestPeacefulGuards k a0 a1 := by kernel_rfl
def go_spec_FewestPeacefulGuards_S (k : Nat) : Spec := ⟨(.pr (.val (.pair I (.pair I (.pair (.sl I) .unit)))) (.pr (.val (.pair I (.pair I .unit))) .un)), (.pr (.val I) (.pr (.val .bool) .un)), true, .inl fun x => go_spec_FewestPeacefulGuards k x.1 x.2.1⟩
theorem go_spec_FewestPeacefulGuards_F (k : Nat) : Fits Go.Proofs.Try.prog (go_spec_FewestPeacefulGuards_C k) 41 Go.Proofs.Try.f41 (bodyOf Go.Proofs.Try.f41) (.pr (.val (.pair I (.pair I (.pair (.sl I) .unit)))) (.pr (.val (.pair I (.pair I .unit))) .un)) (.pr (.val I) (.pr (.val .bool) .un)) true :=
  ⟨th0, mixed0, by kernel_rfl, Go.Proofs.Try.func41, rfl, by kernel_rfl, rfl, rfl, rfl, rfl, rfl, rfl⟩
theorem go_spec_FewestPeacefulGuards_M (k : Nat) : Meets Go.Proofs.Try.prog 41 (go_spec_FewestPeacefulGuards_S k) :=
  meets_pure (go_spec_FewestPeacefulGuards_F k) (sigs_all (l := [(59, go_spec_guFew_S k), (60, go_spec_guAll_S k)]) rfl ⟨go_spec_guFew_M k, ⟨go_spec_guAll_M k, trivial⟩⟩) rfl fun x => go_spec_FewestPeacefulGuards_t k x.1 x.2.1

/-! ### impl.FewestPeacefulGuards -/
def go_impl_FewestPeacefulGuards_C (k : Nat) : Ctx := { th := TH, se := SE, sg := [(75, go_impl_searched_S k)], mu := [], an := [], dr := [], pre := [], d2 := [], m := 0, fx := [], n := 17, k := k }
def go_impl_FewestPeacefulGuards (k : Nat) (a0 : (Int × (Int × ((List Int) × Unit)))) (a1 : (Int × (Int × Unit))) : Option (Int × (Bool × Unit)) :=
  (go_impl_searched k a0 a1 true true false).bind fun r1 =>
  some (r1.1.1, (r1.2.1, ()))
theorem go_impl_FewestPeacefulGuards_t (k : Nat) (a0 : (Int × (Int × ((List Int) × Unit)))) (a1 : (Int × (Int × Unit))) : runPure (go_impl_FewestPeacefulGuards_C k) (bodyOf Go.Proofs.Try.f42) Go.Proofs.Try.f42.results.toList true (.pr (.val (.pair I (.pair I (.pair (.sl I) .unit)))) (.pr (.val (.pair I (.pair I .unit))) .un)) (.pr (.val I) (.pr (.val .bool) .un)) (a0, a1, ()) = go_impl_FewestPeacefulGuards k a0 a1 := by kernel_rfl
def go_impl_FewestPeacefulGuards_S (k : Nat) : Spec := ⟨(.pr (.val (.pair I (.pair I (.pair (.sl I) .unit)))) (.pr (.val (.pair I (.pair I .unit))) .un)), (.pr (.val I) (.pr (.val .bool) .un)), true, .inl fun x => go_impl_FewestPeacefulGuards k x.1 x.2.1⟩
theorem go_impl_FewestPeacefulGuards_F (k : Nat) : Fits Go.Proofs.Try.prog (go_impl_FewestPeacefulGuards_C k) 42 Go.Proofs.Try.f42 (bodyOf Go.Proofs.Try.f42) (.pr (.val (.pair I (.pair I (.pair (.sl I) .unit)))) (.pr (.val (.pair I (.pair I .unit))) .un)) (.pr (.val I) (.pr (.val .bool) .un)) true :=
  ⟨th0, mixed0, by kernel_rfl, Go.Proofs.Try.func42, rfl, by kernel_rfl, rfl, rfl, rfl, rfl, rfl, rfl⟩
theorem go_impl_FewestPeacefulGuards_M (k : Nat) : Meets Go.Proofs.Try.prog 42 (go_impl_FewestPeacefulGuards_S k) :=
  meets_pure (go_impl_FewestPeacefulGuards_F k) (sigs_all (l := [(75, go_impl_searched_S k)]) rfl ⟨go_impl_searched_M k, trivial⟩) rfl fun x => go_impl_FewestPeacefulGuards_t k x.1 x.2.1

/-! ### laws.FnExactFewestPeacefulGuards -/
def go_laws_FnExactFewestPeacefulGuards_C (k : Nat) : Ctx := { th := TH, se := SE, sg := [(15, go_laws_szBoard_S k), (17, go_laws_toBoard_S k), (18, go_laws_toLeaper_S k), (41, go_spec_FewestPeacefulGuards_S k), (42, go_impl_FewestPeacefulGuards_S k), (21, go_laws_eqBoard_S k)], mu := [], an := [], dr := [(5, 9), (7, 8), (10, 3)], pre := [], d2 := [], m := 0, fx := [], n := 46, k := k }
def go_laws_FnExactFewestPeacefulGuards (k : Nat) (a0 : (Int × (Int × ((List Int) × Unit)))) (a1 : (Int × (Int × Unit))) : Option Bool :=
  (go_laws_szBoard k a0 (1048576 : Int)).bind fun r1 =>
  if (decide (r1 < (0 : Int))) = true then
    some true
  else
    (go_laws_toBoard k a0).bind fun r2 =>
    (go_laws_toLeaper k a1).bind fun r3 =>
    (go_spec_FewestPeacefulGuards k (r2.1, (r2.2.1, (r2.2.2.1, ()))) r3).bind fun r4 =>
    (go_laws_toBoard k a0).bind fun r5 =>
    (go_laws_toLeaper k a1).bind fun r6 =>
    (go_impl_FewestPeacefulGuards k (r5.1, (r5.2.1, (r5.2.2.1, ()))) r6).bind fun r7 =>
    if ((!decide (r7.1 = r4.1)) || (r7.2.1 != r4.2.1)) = true then
      some false
    else
      (go_laws_toBoard k a0).bind fun r8 =>
      (go_laws_eqBoard k (r5.1, (r5.2.1, (r5.2.2.1, ()))) (r8.1, (r8.2.1, (r8.2.2.1, ())))).bind fun r9 =>
      if (!r9) = true then
        some false
      else
        some true
theorem go_laws_FnExactFewestPeacefulGuards_t (k : Nat) (a0 : (Int × (Int × ((List Int) × Unit)))) (a1 : (Int × (Int × Unit))) : runPure (go_laws_FnExactFewestPeacefulGuards_C k) (bodyOf Go.Proofs.Try.f12) Go.Proofs.Try.f12.results.toList false (.pr (.val (.pair I (.pair I (.pair (.sl I) .unit)))) (.pr (.val (.pair I (.pair I .unit))) .un)) (.val .bool) (a0, a1, ()) = go_laws_FnExactFewestPeacefulGuards k a0 a1 := by kernel_rfl
def go_laws_FnExactFewestPeacefulGuards_S (k : Nat) : Spec := ⟨(.pr (.val (.pair I (.pair I (.pair (.sl I) .unit)))) (.pr (.val (.pair I (.pair I .unit))) .un)), (.val .bool), false, .inl fun x => go_laws_FnExactFewestPeacefulGuards k x.1 x.2.1⟩
theorem go_laws_FnExactFewestPeacefulGuards_F (k : Nat) : Fits Go.Proofs.Try.prog (go_laws_FnExactFewestPeacefulGuards_C k) 12 Go.Proofs.Try.f12 (bodyOf Go.Proofs.Try.f12) (.pr (.val (.pair I (.pair I (.pair (.sl I) .unit)))) (.pr (.val (.pair I (.pair I .unit))) .un)) (.val .bool) false :=
  ⟨th0, mixed0, by kernel_rfl, Go.Proofs.Try.func12, rfl, by kernel_rfl, rfl, rfl, rfl, rfl, rfl, rfl⟩
theorem go_laws_FnExactFewestPeacefulGuards_M (k : Nat) : Meets Go.Proofs.Try.prog 12 (go_laws_FnExactFewestPeacefulGuards_S k) :=
  meets_pure (go_laws_FnExactFewestPeacefulGuards_F k) (sigs_all (l := [(15, go_laws_szBoard_S k), (17, go_laws_toBoard_S k), (18, go_laws_toLeaper_S k), (41, go_spec_FewestPeacefulGuards_S k), (42, go_impl_FewestPeacefulGuards_S k), (21, go_laws_eqBoard_S k)]) rfl ⟨go_laws_szBoard_M k, ⟨go_laws_toBoard_M k, ⟨go_laws_toLeaper_M k, ⟨go_spec_FewestPeacefulGuards_M k, ⟨go_impl_FewestPeacefulGuards_M k, ⟨go_laws_eqBoard_M k, trivial⟩⟩⟩⟩⟩⟩) rfl fun x => go_laws_FnExactFewestPeacefulGuards_t k x.1 x.2.1

/-! ### spec.MostPeaceful -/
def go_spec_MostPeaceful_C (k : Nat) : Ctx := { th := TH, se := SE, sg := [(59, go_spec_guFew_S k), (60, go_spec_guAll_S k)], mu := [], an := [], dr := [], pre := [], d2 := [], m := 0, fx := [], n := 14, k := k }
def go_spec_MostPeaceful (k : Nat) (a0 : (Int × (Int × ((List Int) × Unit)))) (a1 : (Int × (Int × Unit))) : Option (Int × (Bool × Unit)) :=
  (go_spec_guFew k a0 a1).bind fun r1 =>
  if (!r1) = true then
    some ((0 : Int), (false, ()))
  else
    (go_spec_guAll k a0 a1 false true false).bind fun r2 =>
    some (r2.1, (true, ()))
theorem go_spec_MostPeaceful_t (k : Nat) (a0 : (Int × (Int × ((List Int) × Unit)))) (a1 : (Int × (Int × Unit))) : runPure (go_spec_MostPeaceful_C k) (bodyOf Go.Proofs.Try.f43) Go.Proofs.Try.f43.results.toList true (.pr (.val (.pair I (.pair I (.pair (.sl I) .unit)))) (.pr (.val (.pair I (.pair I .unit))) .un)) (.pr (.val I) (.pr (.val .bool) .un)) (a0, a1, ()) = go_spec_MostPeaceful k a0 a1 := by kernel_rfl
def go_spec_MostPeaceful_S (k : Nat) : Spec := ⟨(.pr (.val (.pair I (.pair I (.pair (.sl I) .unit)))) (.pr (.val (.pair I (.pair I .unit))) .un)), (.pr (.val I) (.pr (.val .bool) .un)), true, .inl fun x => go_spec_MostPeaceful k x.1 x.2.1⟩
theorem go_spec_MostPeaceful_F (k : Nat) : Fits Go.Proofs.Try.prog (go_spec_MostPeaceful_C k) 43 Go.Proofs.Try.f43 (bodyOf Go.Proofs.Try.f43) (.pr (.val (.pair I (.pair I (.pair (.sl I) .unit)))) (.pr (.val (.pair I (.pair I .unit))) .un)) (.pr (.val I) (.pr (.val .bool) .un)) true :=
  ⟨th0, mixed0, by kernel_rfl, Go.Proofs.Try.func43, rfl, by kernel_rfl, rfl, rfl, rfl, rfl, rfl, rfl⟩
theorem go_spec_MostPeaceful_M (k : Nat) : Meets Go.Proofs.Try.prog 43 (go_spec_MostPeaceful_S k) :=
  meets_pure (go_spec_MostPeaceful_F k) (sigs_all (l := [(59, go_spec_guFew_S k), (60, go_spec_guAll_S k)]) rfl ⟨go_spec_guFew_M k, ⟨go_spec_guAll_M k, trivial⟩⟩) rfl fun x => go_spec_MostPeaceful_t k x.1 x.2.1

/-! ### impl.MostPeaceful -/
def go_impl_MostPeaceful_C (k : Nat) : Ctx := { th := TH, se := SE, sg := [(75, go_impl_searched_S k)], mu := [], an := [], dr := [], pre := [], d2 := [], m := 0, fx := [], n := 17, k := k }
def go_impl_MostPeaceful (k : Nat) (a0 : (Int × (Int × ((List Int) × Unit)))) (a1 : (Int × (Int × Unit))) : Option (Int × (Bool × Unit)) :=
  (go_impl_searched k a0 a1 false true true).bind fun r1 =>
  some (r1.1.1, (r1.2.1, ()))
theorem go_impl_MostPeaceful_t (k : Nat) (a0 : (Int × (Int × ((List Int) × Unit)))) (a1 : (Int × (Int × Unit))) : runPure (go_impl_MostPeaceful_C k) (bodyOf Go.Proofs.Try.f44) Go.Proofs.Try.f44.results.toList true (.pr (.val (.pair I (.pair I (.pair (.sl I) .unit)))) (.pr (.val (.pair I (.pair I .unit))) .un)) (.pr (.val I) (.pr (.val .bool) .un)) (a0, a1, ()) = go_impl_MostPeaceful k a0 a1 := by kernel_rfl
def go_impl_MostPeaceful_S (k : Nat) : Spec := ⟨(.pr (.val (.pair I (.pair I (.pair (.sl I) .unit)))) (.pr (.val (.pair I (.pair I .unit))) .un)), (.pr (.val I) (.pr (.val .bool) .un)), true, .inl fun x => go_impl_MostPeaceful k x.1 x.2.1⟩
theorem go_impl_MostPeaceful_F (k : Nat) : Fits Go.Proofs.Try.prog (go_impl_MostPeaceful_C k) 44 Go.Proofs.Try.f44 (bodyOf Go.Proofs.Try.f44) (.pr (.val (.pair I (.pair I (.pair (.sl I) .unit)))) (.pr (.val (.pair I (.pair I .unit))) .un)) (.pr (.val I) (.pr (.val .bool) .un)) true :=
  ⟨th0, mixed0, by kernel_rfl, Go.Proofs.Try.func44, rfl, by kernel_rfl, rfl, rfl, rfl, rfl, rfl, rfl⟩
theorem go_impl_MostPeaceful_M (k : Nat) : Meets Go.Proofs.Try.prog 44 (go_impl_MostPeaceful_S k) :=
  meets_pure (go_impl_MostPeaceful_F k) (sigs_all (l := [(75, go_impl_searched_S k)]) rfl ⟨go_impl_searched_M k, trivial⟩) rfl fun x => go_impl_MostPeaceful_t k x.1 x.2.1

/-! ### laws.FnExactMostPeaceful -/
def go_laws_FnExactMostPeaceful_C (k : Nat) : Ctx := { th := TH, se := SE, sg := [(15, go_laws_szBoard_S k), (17, go_laws_toBoard_S k), (18, go_laws_toLeaper_S k), (43, go_spec_MostPeaceful_S k), (44, go_impl_MostPeaceful_S k), (21, go_laws_eqBoard_S k)], mu := [], an := [], dr := [(5, 9), (7, 8), (10, 3)], pre := [], d2 := [], m := 0, fx := [], n := 46, k := k }
def go_laws_FnExactMostPeaceful (k : Nat) (a0 : (Int × (Int × ((List Int) × Unit)))) (a1 : (Int × (Int × Unit))) : Option Bool :=
  (go_laws_szBoard k a0 (1048576 : Int)).bind fun r1 =>
  if (decide (r1 < (0 : Int))) = true then
    some true
  else
    (go_laws_toBoard k a0).bind fun r2 =>
    (go_laws_toLeaper k a1).bind fun r3 =>
    (go_spec_MostPeaceful k (r2.1, (r2.2.1, (r2.2.2.1, ()))) r3).bind fun r4 =>
    (go_laws_toBoard k a0).bind fun r5 =>
    (go_laws_toLeaper k a1).bind fun r6 =>
    (go_impl_MostPeaceful k (r5.1, (r5.2.1, (r5.2.2.1, ()))) r6).bind fun r7 =>
    if ((!decide (r7.1 = r4.1)) || (r7.2.1 != r4.2.1)) = true then
      some false
    else
      (go_laws_toBoard k a0).bind fun r8 =>
      (go_laws_eqBoard k (r5.1, (r5.2.1, (r5.2.2.1, ()))) (r8.1, (r8.2.1, (r8.2.2.1, ())))).bind fun r9 =>
      if (!r9) = true then
        some false
      else
        some true
theorem go_laws_FnExactMostPeaceful_t (k : Nat) (a0 : (Int × (Int × ((List Int) × Unit)))) (a1 : (Int × (Int × Unit))) : runPure (go_laws_FnExactMostPeaceful_C k) (bodyOf Go.Proofs.Try.f13) Go.Proofs.Try.f13.results.toList false (.pr (.val (.pair I (.pair I (.pair (.sl I) .unit)))) (.pr (.val (.pair I (.pair I .unit))) .un)) (.val .bool) (a0, a1, ()) = go_laws_FnExactMostPeaceful k a0 a1 := by kernel_rfl
def go_laws_FnExactMostPeaceful_S (k : Nat) : Spec := ⟨(.pr (.val (.pair I (.pair I (.pair (.sl I) .unit)))) (.pr (.val (.pair I (.pair I .unit))) .un)), (.val .bool), false, .inl fun x => go_laws_FnExactMostPeaceful k x.1 x.2.1⟩
theorem go_laws_FnExactMostPeaceful_F (k : Nat) : Fits Go.Proofs.Try.prog (go_laws_FnExactMostPeaceful_C k) 13 Go.Proofs.Try.f13 (bodyOf Go.Proofs.Try.f13) (.pr (.val (.pair I (.pair I (.pair (.sl I) .unit)))) (.pr (.val (.pair I (.pair I .unit))) .un)) (.val .bool) false :=
  ⟨th0, mixed0, by kernel_rfl, Go.Proofs.Try.func13, rfl, by kernel_rfl, rfl, rfl, rfl, rfl, rfl, rfl⟩
theorem go_laws_FnExactMostPeaceful_M (k : Nat) : Meets Go.Proofs.Try.prog 13 (go_laws_FnExactMostPeaceful_S k) :=
  meets_pure (go_laws_FnExactMostPeaceful_F k) (sigs_all (l := [(15, go_laws_szBoard_S k), (17, go_laws_toBoard_S k), (18, go_laws_toLeaper_S k), (43, go_spec_MostPeaceful_S k), (44, go_impl_MostPeaceful_S k), (21, go_laws_eqBoard_S k)]) rfl ⟨go_laws_szBoard_M k, ⟨go_laws_toBoard_M k, ⟨go_laws_toLeaper_M k, ⟨go_spec_MostPeaceful_M k, ⟨go_impl_MostPeaceful_M k, ⟨go_laws_eqBoard_M k, trivial⟩⟩⟩⟩⟩⟩) rfl fun x => go_laws_FnExactMostPeaceful_t k x.1 x.2.1

/-! ### spec.FirstGuards -/
def go_spec_FirstGuards_C (k : Nat) : Ctx := { th := TH, se := SE, sg := [(59, go_spec_guFew_S k), (60, go_spec_guAll_S k)], mu := [], an := [], dr := [], pre := [], d2 := [], m := 0, fx := [], n := 14, k := k }
def go_spec_FirstGuards (k : Nat) (a0 : (Int × (Int × ((List Int) × Unit)))) (a1 : (Int × (Int × Unit))) : Option ((List Int) × (Bool × Unit)) :=
  (go_spec_guFew k a0 a1).bind fun r1 =>
  if (!r1) = true then
    some ([], (false, ()))
  else
    (go_spec_guAll k a0 a1 true false true).bind fun r2 =>
    some (r2.2.2.1, (true, ()))
theorem go_spec_FirstGuards_t (k : Nat) (a0 : (Int × (Int × ((List Int) × Unit)))) (a1 : (Int × (Int × Unit))) : runPure (go_spec_FirstGuards_C k) (bodyOf Go.Proofs.Try.f45) Go.Proofs.Try.f45.results.toList true (.pr (.val (.pair I (.pair I (.pair (.sl I) .unit)))) (.pr (.val (.pair I (.pair I .unit))) .un)) (.pr (.val (.sl I)) (.pr (.val .bool) .un)) (a0, a1, ()) = go_spec_FirstGuards k a0 a1 := by kernel_rfl
def go_spec_FirstGuards_S (k : Nat) : Spec := ⟨(.pr (.val (.pair I (.pair I (.pair (.sl I) .unit)))) (.pr (.val (.pair I (.pair I .unit))) .un)), (.pr (.val (.sl I)) (.pr (.val .bool) .un)), true, .inl fun x => go_spec_FirstGuards k x.1 x.2.1⟩
theorem go_spec_FirstGuards_F (k : Nat) : Fits Go.Proofs.Try.prog (go_spec_FirstGuards_C k) 45 Go.Proofs.Try.f45 (bodyOf Go.Proofs.Try.f45) (.pr (.val (.pair I (.pair I (.pair (.sl I) .unit)))) (.pr (.val (.pair I (.pair I .unit))) .un)) (.pr (.val (.sl I)) (.pr (.val .bool) .un)) true :=
  ⟨th0, mixed0, by kernel_rfl, Go.Proofs.Try.func45, rfl, by kernel_rfl, rfl, rfl, rfl, rfl, rfl, rfl⟩
theorem go_spec_FirstGuards_M (k : Nat) : Meets Go.Proofs.Try.prog 45 (go_spec_FirstGuards_S k) :=
  meets_pure (go_spec_FirstGuards_F k) (sigs_all (l := [(59, go_spec_guFew_S k), (60, go_spec_guAll_S k)]) rfl ⟨go_spec_guFew_M k, ⟨go_spec_guAll_M k, trivial⟩⟩) rfl fun x => go_spec_FirstGuards_t k x.1 x.2.1

/-! ### impl.FirstGuards -/
def go_impl_FirstGuards_C (k : Nat) : Ctx := { th := TH, se := SE, sg := [(75, go_impl_searched_S k)], mu := [11], an := [], dr := [], pre := [], d2 := [], m := 0, fx := [], n := 17, k := k }
def go_impl_FirstGuards (k : Nat) (a0 : (Int × (Int × ((List Int) × Unit)))) (a1 : (Int × (Int × Unit))) : Option ((List Int) × (Bool × Unit)) :=
  (go_impl_searched k a0 a1 true false false).bind fun r1 =>
  some (r1.1.2.2.1, (r1.2.1, ()))
theorem go_impl_FirstGuards_t (k : Nat) (a0 : (Int × (Int × ((List Int) × Unit)))) (a1 : (Int × (Int × Unit))) : runPure (go_impl_FirstGuards_C k) (bodyOf Go.Proofs.Try.f46) Go.Proofs.Try.f46.results.toList true (.pr (.val (.pair I (.pair I (.pair (.sl I) .unit)))) (.pr (.val (.pair I (.pair I .unit))) .un)) (.pr (.own 3 I) (.pr (.val .bool) .un)) (a0, a1, ()) = go_impl_FirstGuards k a0 a1 := by kernel_rfl
def go_impl_FirstGuards_S (k : Nat) : Spec := ⟨(.pr (.val (.pair I (.pair I (.pair (.sl I) .unit)))) (.pr (.val (.pair I (.pair I .unit))) .un)), (.pr (.own 3 I) (.pr (.val .bool) .un)), true, .inl fun x => go_impl_FirstGuards k x.1 x.2.1⟩
theorem go_impl_FirstGuards_F (k : Nat) : Fits Go.Proofs.Try.prog (go_impl_FirstGuards_C k) 46 Go.Proofs.Try.f46 (bodyOf Go.Proofs.Try.f46) (.pr (.val (.pair I (.pair I (.pair (.sl I) .unit)))) (.pr (.val (.pair I (.pair I .unit))) .un)) (.pr (.own 3 I) (.pr (.val .bool) .un)) true :=
  ⟨th0, mixed0, by kernel_rfl, Go.Proofs.Try.func46, rfl, by kernel_rfl, rfl, rfl, rfl, rfl, rfl, rfl⟩
theorem go_impl_FirstGuards_M (k : Nat) : Meets Go.Proofs.Try.prog 46 (go_impl_FirstGuards_S k) :=
  meets_pure (go_impl_FirstGuards_F k) (sigs_all (l := [(75, go_impl_searched_S k)]) rfl ⟨go_impl_searched_M k, trivial⟩) rfl fun x => go_impl_FirstGuards_t k x.1 x.2.1

/-! ### laws.FnExactFirstGuards -/
def go_laws_FnExactFirstGuards_C (k : Nat) : Ctx := { th := TH, se := SE, sg := [(15, go_laws_szBoard_S k), (17, go_laws_toBoard_S k), (18, go_laws_toLeaper_S k), (45, go_spec_FirstGuards_S k), (46, go_impl_FirstGuards_S k), (20, go_laws_eqIntS_S k), (21, go_laws_eqBoard_S k), (22, go_laws_markBoard_S k), (23, go_laws_markIntS_S k), (24, go_laws_heldIntS_S k)], mu := [30, 35], an := [], dr := [(5, 9), (7, 3), (10, 3), (24, 9)], pre := [], d2 := [7], m := 0, fx := [], n := 104, k := k }
def go_laws_FnExactFirstGuards (k : Nat) (a0 : (Int × (Int × ((List Int) × Unit)))) (a1 : (Int × (Int × Unit))) : Option Bool :=
  (go_laws_szBoard k a0 (1048576 : Int)).bind fun r1 =>
  if (decide (r1 < (0 : Int))) = true then
    some true
  else
    (go_laws_toBoard k a0).bind fun r2 =>
    (go_laws_toLeaper k a1).bind fun r3 =>
    (go_spec_FirstGuards k (r2.1, (r2.2.1, (r2.2.2.1, ()))) r3).bind fun r4 =>
    (go_laws_toBoard k a0).bind fun r5 =>
    (go_laws_toLeaper k a1).bind fun r6 =>
    (go_impl_FirstGuards k (r5.1, (r5.2.1, (r5.2.2.1, ()))) r6).bind fun r7 =>
    (go_laws_eqIntS k r7.1 r4.1).bind fun r8 =>
    if ((!r8) || (r7.2.1 != r4.2.1)) = true then
      some false
    else
      (go_laws_toBoard k a0).bind fun r9 =>
      (go_laws_eqBoard k (r5.1, (r5.2.1, (r5.2.2.1, ()))) (r9.1, (r9.2.1, (r9.2.2.1, ())))).bind fun r10 =>
      if (!r10) = true then
        some false
      else
        (go_laws_markBoard k (r5.1, (r5.2.1, (r5.2.2.1, ()))) (1 : Int)).bind fun r11 =>
        (if (!(decide (r11.1 < (0 : Int)))) = true then go_laws_eqIntS k r7.1 r4.1 else some false).bind fun r12 =>
        if (((decide (r11.1 < (0 : Int))) || (!r12)) || (r7.2.1 != r4.2.1)) = true then
          some false
        else
          (go_laws_markIntS k r7.1 (1 : Int)).bind fun r13 =>
          (go_laws_heldIntS k r13.2.1 (1 : Int)).bind fun r14 =>
          if (decide (r14 < (0 : Int))) = true then
            some false
          else
            if (!decide (r14 = r13.1)) = true then
              some false
            else
              (go_laws_toBoard k a0).bind fun r15 =>
              (go_laws_toLeaper k a1).bind fun r16 =>
              (go_impl_FirstGuards k (r15.1, (r15.2.1, (r15.2.2.1, ()))) r16).bind fun r17 =>
              (go_laws_eqIntS k r17.1 r4.1).bind fun r18 =>
              if ((!r18) || (r17.2.1 != r4.2.1)) = true then
                some false
              else
                (go_laws_heldIntS k r13.2.1 (1 : Int)).bind fun r19 =>
                if (decide (r19 < (0 : Int))) = true then
                  some false
                else
                  if (!decide (r19 = r13.1)) = true then
                    some false
                  else
                    some true
theorem go_laws_FnExactFirstGuards_t (k : Nat) (a0 : (Int × (Int × ((List Int) × Unit)))) (a1 : (Int × (Int × Unit))) : runPure (go_laws_FnExactFirstGuards_C k) (bodyOf Go.Proofs.Try.f14) Go.Proofs.Try.f14.results.toList false (.pr (.val (.pair I (.pair I (.pair (.sl I) .unit)))) (.pr (.val (.pair I (.pair I .unit))) .un)) (.val .bool) (a0, a1, ()) = go_laws_FnExactFirstGuards k a0 a1 := by kernel_rfl
def go_laws_FnExactFirstGuards_S (k : Nat) : Spec := ⟨(.pr (.val (.pair I (.pair I (.pair (.sl I) .unit)))) (.pr (.val (.pair I (.pair I .unit))) .un)), (.val .bool), false, .inl fun x => go_laws_FnExactFirstGuards k x.1 x.2.1⟩
theorem go_laws_FnExactFirstGuards_F (k : Nat) : Fits Go.Proofs.Try.prog (go_laws_FnExactFirstGuards_C k) 14 Go.Proofs.Try.f14 (bodyOf Go.Proofs.Try.f14) (.pr (.val (.pair I (.pair I (.pair (.sl I) .unit)))) (.pr (.val (.pair I (.pair I .unit))) .un)) (.val .bool) false :=
  ⟨th0, mixed0, by kernel_rfl, Go.Proofs.Try.func14, rfl, by kernel_rfl, rfl, rfl, rfl, rfl, rfl, rfl⟩
theorem go_laws_FnExactFirstGuards_M (k : Nat) : Meets Go.Proofs.Try.prog 14 (go_laws_FnExactFirstGuards_S k) :=
  meets_pure (go_laws_FnExactFirstGuards_F k) (sigs_all (l := [(15, go_laws_szBoard_S k), (17, go_laws_toBoard_S k), (18, go_laws_toLeaper_S k), (45, go_spec_FirstGuards_S k), (46, go_impl_FirstGuards_S k), (20, go_laws_eqIntS_S k), (21, go_laws_eqBoard_S k), (22, go_laws_markBoard_S k), (23, go_laws_markIntS_S k), (24, go_laws_heldIntS_S k)]) rfl ⟨go_laws_szBoard_M k, ⟨go_laws_toBoard_M k, ⟨go_laws_toLeaper_M k, ⟨go_spec_FirstGuards_M k, ⟨go_impl_FirstGuards_M k, ⟨go_laws_eqIntS_M k, ⟨go_laws_eqBoard_M k, ⟨go_laws_markBoard_M k, ⟨go_laws_markIntS_M k, ⟨go_laws_heldIntS_M k, trivial⟩⟩⟩⟩⟩⟩⟩⟩⟩⟩) rfl fun x => go_laws_FnExactFirstGuards_t k x.1 x.2.1

end
end Go.Lg
