/-
  Printed by program: what the functions of the code compute (go_laws_FnExactFirstPeaceful).
-/
import Derived.Test.YtfnkdimgmhhpiaaGenA
set_option linter.unusedVariables false
namespace Go.Lg
open Go.RowKit
noncomputable section
/-! ### spec.guFew -/
def go_spec_guFew_C (k : Nat) : Ctx := { th := TH, se := SE, sg := [(52, go_spec_boTwo_S k), (97, go_spec_boCells_S k)], mu := [], an := [], dr := [], pre := [], d2 := [], m := 0, fx := [], n := 14, k := k }
def go_spec_guFew (k : Nat) (a0 : (Int × (Int × ((List Int) × Unit)))) (a1 : (Int × (Int × Unit))) : Option Bool :=
  (go_spec_boTwo k a0 a1).bind fun r1 =>
  (if r1 = true then go_spec_boCells k a0 else some []).bind fun r2 =>
  some (r1 && (decide ((r2.length : Int) ≤ (16 : Int))))
theorem go_spec_guFew_t (k : Nat) (a0 : (Int × (Int × ((List Int) × Unit)))) (a1 : (Int × (Int × Unit))) : runPure (go_spec_guFew_C k) (bodyOf Go.Proofs.Try.f93) Go.Proofs.Try.f93.results.toList false (.pr (.val (.pair I (.pair I (.pair (.sl I) .unit)))) (.pr (.val (.pair I (.pair I .unit))) .un)) (.val .bool) (a0, a1, ()) = go_spec_guFew k a0 a1 := by kernel_rfl
def go_spec_guFew_S (k : Nat) : Spec := ⟨(.pr (.val (.pair I (.pair I (.pair (.sl I) .unit)))) (.pr (.val (.pair I (.pair I .unit))) .un)), (.val .bool), false, .inl fun x => go_spec_guFew k x.1 x.2.1⟩
theorem go_spec_guFew_F (k : Nat) : Fits Go.Proofs.Try.prog (go_spec_guFew_C k) 93 Go.Proofs.Try.f93 (bodyOf Go.Proofs.Try.f93) (.pr (.val (.pair I (.pair I (.pair (.sl I) .unit)))) (.pr (.val (.pair I (.pair I .unit))) .un)) (.val .bool) false :=
  ⟨th0, mixed0, by kernel_rfl, Go.Proofs.Try.func93, rfl, by kernel_rfl, rfl, rfl, rfl, rfl, rfl, rfl⟩
theorem go_spec_guFew_M (k : Nat) : Meets Go.Proofs.Try.prog 93 (go_spec_guFew_S k) :=
  meets_pure (go_spec_guFew_F k) (sigs_all (l := [(52, go_spec_boTwo_S k), (97, go_spec_boCells_S k)]) rfl ⟨go_spec_boTwo_M k, ⟨go_spec_boCells_M k, trivial⟩⟩) rfl fun x => go_spec_guFew_t k x.1 x.2.1

/-! ### spec.guNew -/
def go_spec_guNew_C (k : Nat) : Ctx := { th := TH, se := SE, sg := [(97, go_spec_boCells_S k), (108, go_spec_boIs_S k)], mu := [], an := [(3, [(2, false), (3, false), (4, false), (5, true), (15, false), (16, false), (17, false)]), (7, [(2, false), (3, false), (4, false), (5, false), (7, false), (8, false), (15, false), (16, false), (17, false), (25, false), (26, false), (27, false)])], dr := [], pre := [], d2 := [], m := 0, fx := [], n := 50, k := k }
def go_spec_guNew_L0_E (a0 : (Int × (Int × ((List Int) × Unit)))) (a1 : (Int × (Int × Unit))) (r1 : (List Int)) (x35 : (Int × (List Int))) : St :=
  ⟨[(2, .one (.val (.pt (.pair I (.pair I (.pair (.sl I) .unit)))) (some a0)), []), (3, .one (.val (.pt (.pair I (.pair I .unit))) (some a1)), []), (4, .one (.bx 0 0 (.pair (.sl I) (.pair (.sl I) .unit))), []), (5, .one (.bx 1 0 (.pair (.sl I) (.pair (.sl I) .unit))), []), (15, .one (.val (.sl I) r1), []), (16, .one (.val I (r1.length : Int)), []), (17, .one (.val I x35.1), [])], [.box (.pr (.nsl 3 I) (.pr (.nsl 3 I) .un)), .box (.pr (.val (.sl I) r1) (.pr (.own 2) .un)), .arr 3 I x35.2], []⟩
def go_spec_guNew_L1_E (a0 : (Int × (Int × ((List Int) × Unit)))) (a1 : (Int × (Int × Unit))) (r1 : (List Int)) (x35 : (Int × (List Int))) (x43 : (Int × Int)) : St :=
  ⟨[(2, .one (.val (.pt (.pair I (.pair I (.pair (.sl I) .unit)))) (some a0)), []), (3, .one (.val (.pt (.pair I (.pair I .unit))) (some a1)), []), (4, .one (.bx 0 0 (.pair (.sl I) (.pair (.sl I) .unit))), []), (5, .one (.bx 1 0 (.pair (.sl I) (.pair (.sl I) .unit))), []), (7, .one (.val I (r1.getD x35.1.toNat (0 : Int))), []), (8, .one (.val I x43.1), []), (15, .one (.val (.sl I) r1), []), (16, .one (.val I (r1.length : Int)), []), (17, .one (.val I x35.1), []), (25, .one (.val (.sl I) r1), []), (26, .one (.val I (r1.length : Int)), []), (27, .one (.val I x43.2), [])], [.box (.pr (.nsl 3 I) (.pr (.nsl 3 I) .un)), .box (.pr (.val (.sl I) r1) (.pr (.own 2) .un)), .arr 3 I x35.2], []⟩
def go_spec_guNew_L1_G (k : Nat) (a0 : (Int × (Int × ((List Int) × Unit)))) (a1 : (Int × (Int × Unit))) (r1 : (List Int)) (x35 : (Int × (List Int))) (rec36 : (Int × (List Int)) → Option ((List Int) × ((List Int) × Unit))) (rec44 : (Int × Int) → Option ((List Int) × ((List Int) × Unit))) (x43 : (Int × Int)) : Option ((List Int) × ((List Int) × Unit)) :=
  if (decide (x43.2 < (r1.length : Int))) = true then
    if (inb x43.2 r1.length) = true then
    (go_spec_boIs k a0 a1 (r1.getD x35.1.toNat (0 : Int)) (r1.getD x43.2.toNat (0 : Int))).bind fun r45 =>
    if r45 = true then
      if (decide (0 ≤ x43.2)) = true then
      rec44 ((IntKind.i64.wrap (((BitVec.ofInt (IntKind.i64.bits) x43.1 ||| BitVec.ofInt (IntKind.i64.bits) (IntKind.i64.wrap ((1 : Int) * 2 ^ (min x43.2.toNat (IntKind.i64.bits))))).toNat : Int))), (IntKind.i64.wrap (x43.2 + (1 : Int))))
      else none
    else
      rec44 (x43.1, (IntKind.i64.wrap (x43.2 + (1 : Int))))
    else none
  else
    if (decide (x35.2.length + [x43.1].length ≤ LIM)) = true then
    rec36 ((IntKind.i64.wrap (x35.1 + (1 : Int))), (x35.2 ++ [x43.1]))
    else none
def go_spec_guNew_L1 (k : Nat) (a0 : (Int × (Int × ((List Int) × Unit)))) (a1 : (Int × (Int × Unit))) (rec36 : (Int × (List Int)) → Option ((List Int) × ((List Int) × Unit))) (r1 : (List Int)) (x35 : (Int × (List Int))) : (Int × Int) → Option ((List Int) × ((List Int) × Unit)) :=
  iter k fun rec44 x43 => go_spec_guNew_L1_G k a0 a1 r1 x35 rec36 rec44 x43
theorem go_spec_guNew_L1_t (k : Nat) (a0 : (Int × (Int × ((List Int) × Unit)))) (a1 : (Int × (Int × Unit))) (s0 : St → Option ((List Int) × ((List Int) × Unit))) (r1 : (List Int)) (x35 : (Int × (List Int))) (x : (Int × Int)) :
    iter k (loopAt (go_spec_guNew_C k) (bodyOf Go.Proofs.Try.f130) [1, 1, 0, 1, 0, 0, 1, 1, 0, 0, 1, 1, 0, 1, 0] [s0] (finPure (go_spec_guNew_C k) Go.Proofs.Try.f130.results.toList false (.val (.pair (.sl I) (.pair (.sl I) .unit))))) (go_spec_guNew_L1_E a0 a1 r1 x35 x) = go_spec_guNew_L1 k a0 a1 (fun y => s0 (go_spec_guNew_L0_E a0 a1 r1 y)) r1 x35 x := by
  refine iter_tie (G := fun rec x => go_spec_guNew_L1_G k a0 a1 r1 x35 (fun y => s0 (go_spec_guNew_L0_E a0 a1 r1 y)) rec x) (go_spec_guNew_L1_E a0 a1 r1 x35) (fun rec x => ?_) k x
  have h : loopAt (go_spec_guNew_C k) (bodyOf Go.Proofs.Try.f130) [1, 1, 0, 1, 0, 0, 1, 1, 0, 0, 1, 1, 0, 1, 0] [s0] (finPure (go_spec_guNew_C k) Go.Proofs.Try.f130.results.toList false (.val (.pair (.sl I) (.pair (.sl I) .unit)))) rec (go_spec_guNew_L1_E a0 a1 r1 x35 x) = go_spec_guNew_L1_G k a0 a1 r1 x35 (fun y => s0 (go_spec_guNew_L0_E a0 a1 r1 y)) (fun y => rec (go_spec_guNew_L1_E a0 a1 r1 x35 y)) x := by kernel_rfl
  rw [h]
def go_spec_guNew_L0_G (k : Nat) (a0 : (Int × (Int × ((List Int) × Unit)))) (a1 : (Int × (Int × Unit))) (r1 : (List Int)) (l_1 : (Int × (List Int)) → (Int × Int) → Option ((List Int) × ((List Int) × Unit))) (rec36 : (Int × (List Int)) → Option ((List Int) × ((List Int) × Unit))) (x35 : (Int × (List Int))) : Option ((List Int) × ((List Int) × Unit)) :=
  if (decide (x35.1 < (r1.length : Int))) = true then
    if (inb x35.1 r1.length) = true then
    if (decide (0 ≤ x35.1)) = true then
    l_1 x35 ((IntKind.i64.wrap ((1 : Int) * 2 ^ (min x35.1.toNat (IntKind.i64.bits)))), (0 : Int))
    else none
    else none
  else
    some (r1, (x35.2, ()))
def go_spec_guNew_L0 (k : Nat) (a0 : (Int × (Int × ((List Int) × Unit)))) (a1 : (Int × (Int × Unit))) (r1 : (List Int)) : (Int × (List Int)) → Option ((List Int) × ((List Int) × Unit)) :=
  iter k fun rec36 x35 => go_spec_guNew_L0_G k a0 a1 r1 (fun c0 y => go_spec_guNew_L1 k a0 a1 rec36 r1 c0 y) rec36 x35
theorem go_spec_guNew_L0_t (k : Nat) (a0 : (Int × (Int × ((List Int) × Unit)))) (a1 : (Int × (Int × Unit))) (r1 : (List Int)) (x : (Int × (List Int))) :
    iter k (loopAt (go_spec_guNew_C k) (bodyOf Go.Proofs.Try.f130) [1, 1, 0, 1, 0] [] (finPure (go_spec_guNew_C k) Go.Proofs.Try.f130.results.toList false (.val (.pair (.sl I) (.pair (.sl I) .unit))))) (go_spec_guNew_L0_E a0 a1 r1 x) = go_spec_guNew_L0 k a0 a1 r1 x := by
  refine iter_tie (G := fun rec x => go_spec_guNew_L0_G k a0 a1 r1 (fun c0 y => go_spec_guNew_L1 k a0 a1 rec r1 c0 y) rec x) (go_spec_guNew_L0_E a0 a1 r1) (fun rec x => ?_) k x
  have h : loopAt (go_spec_guNew_C k) (bodyOf Go.Proofs.Try.f130) [1, 1, 0, 1, 0] [] (finPure (go_spec_guNew_C k) Go.Proofs.Try.f130.results.toList false (.val (.pair (.sl I) (.pair (.sl I) .unit)))) rec (go_spec_guNew_L0_E a0 a1 r1 x) = go_spec_guNew_L0_G k a0 a1 r1 (fun c0 y => iter k (loopAt (go_spec_guNew_C k) (bodyOf Go.Proofs.Try.f130) [1, 1, 0, 1, 0, 0, 1, 1, 0, 0, 1, 1, 0, 1, 0] [rec] (finPure (go_spec_guNew_C k) Go.Proofs.Try.f130.results.toList false (.val (.pair (.sl I) (.pair (.sl I) .unit))))) (go_spec_guNew_L1_E a0 a1 r1 c0 y)) (fun y => rec (go_spec_guNew_L0_E a0 a1 r1 y)) x := by kernel_rfl
  have h0 : (fun c0 y => iter k (loopAt (go_spec_guNew_C k) (bodyOf Go.Proofs.Try.f130) [1, 1, 0, 1, 0, 0, 1, 1, 0, 0, 1, 1, 0, 1, 0] [rec] (finPure (go_spec_guNew_C k) Go.Proofs.Try.f130.results.toList false (.val (.pair (.sl I) (.pair (.sl I) .unit))))) (go_spec_guNew_L1_E a0 a1 r1 c0 y)) = (fun c0 y => go_spec_guNew_L1 k a0 a1 (fun y => rec (go_spec_guNew_L0_E a0 a1 r1 y)) r1 c0 y) := by
    funext c0 y
    exact go_spec_guNew_L1_t k a0 a1 rec r1 c0 y
  rw [h, h0]
def go_spec_guNew_T (k : Nat) (a0 : (Int × (Int × ((List Int) × Unit)))) (a1 : (Int × (Int × Unit))) (l_0 : (List Int) → (Int × (List Int)) → Option ((List Int) × ((List Int) × Unit))) : Option ((List Int) × ((List Int) × Unit)) :=
  (go_spec_boCells k a0).bind fun r1 =>
  l_0 r1 ((0 : Int), [])
def go_spec_guNew (k : Nat) (a0 : (Int × (Int × ((List Int) × Unit)))) (a1 : (Int × (Int × Unit))) : Option ((List Int) × ((List Int) × Unit)) :=
  go_spec_guNew_T k a0 a1 (fun r1 y => go_spec_guNew_L0 k a0 a1 r1 y)
theorem go_spec_guNew_t (k : Nat) (a0 : (Int × (Int × ((List Int) × Unit)))) (a1 : (Int × (Int × Unit))) : runPure (go_spec_guNew_C k) (bodyOf Go.Proofs.Try.f130) Go.Proofs.Try.f130.results.toList false (.pr (.val (.pair I (.pair I (.pair (.sl I) .unit)))) (.pr (.val (.pair I (.pair I .unit))) .un)) (.val (.pair (.sl I) (.pair (.sl I) .unit))) (a0, a1, ()) = go_spec_guNew k a0 a1 := by
  have h : runPure (go_spec_guNew_C k) (bodyOf Go.Proofs.Try.f130) Go.Proofs.Try.f130.results.toList false (.pr (.val (.pair I (.pair I (.pair (.sl I) .unit)))) (.pr (.val (.pair I (.pair I .unit))) .un)) (.val (.pair (.sl I) (.pair (.sl I) .unit))) (a0, a1, ()) = go_spec_guNew_T k a0 a1 (fun r1 y => iter k (loopAt (go_spec_guNew_C k) (bodyOf Go.Proofs.Try.f130) [1, 1, 0, 1, 0] [] (finPure (go_spec_guNew_C k) Go.Proofs.Try.f130.results.toList false (.val (.pair (.sl I) (.pair (.sl I) .unit))))) (go_spec_guNew_L0_E a0 a1 r1 y)) := by kernel_rfl
  have h0 : (fun r1 y => iter k (loopAt (go_spec_guNew_C k) (bodyOf Go.Proofs.Try.f130) [1, 1, 0, 1, 0] [] (finPure (go_spec_guNew_C k) Go.Proofs.Try.f130.results.toList false (.val (.pair (.sl I) (.pair (.sl I) .unit))))) (go_spec_guNew_L0_E a0 a1 r1 y)) = (fun r1 y => go_spec_guNew_L0 k a0 a1 r1 y) := by
    funext r1 y
    exact go_spec_guNew_L0_t k a0 a1 r1 y
  rw [h, h0]
  rfl
def go_spec_guNew_S (k : Nat) : Spec := ⟨(.pr (.val (.pair I (.pair I (.pair (.sl I) .unit)))) (.pr (.val (.pair I (.pair I .unit))) .un)), (.val (.pair (.sl I) (.pair (.sl I) .unit))), false, .inl fun x => go_spec_guNew k x.1 x.2.1⟩
theorem go_spec_guNew_F (k : Nat) : Fits Go.Proofs.Try.prog (go_spec_guNew_C k) 130 Go.Proofs.Try.f130 (bodyOf Go.Proofs.Try.f130) (.pr (.val (.pair I (.pair I (.pair (.sl I) .unit)))) (.pr (.val (.pair I (.pair I .unit))) .un)) (.val (.pair (.sl I) (.pair (.sl I) .unit))) false :=
  ⟨th0, mixed0, by kernel_rfl, Go.Proofs.Try.func130, rfl, by kernel_rfl, rfl, rfl, rfl, rfl, rfl, rfl⟩
theorem go_spec_guNew_M (k : Nat) : Meets Go.Proofs.Try.prog 130 (go_spec_guNew_S k) :=
  meets_pure (go_spec_guNew_F k) (sigs_all (l := [(97, go_spec_boCells_S k), (108, go_spec_boIs_S k)]) rfl ⟨go_spec_boCells_M k, ⟨go_spec_boIs_M k, trivial⟩⟩) rfl fun x => go_spec_guNew_t k x.1 x.2.1

/-! ### spec.guBefore -/
def go_spec_guBefore_C (k : Nat) : Ctx := { th := TH, se := SE, sg := [], mu := [], an := [(2, [(0, false), (1, false), (7, false), (8, false)])], dr := [(4, 8), (5, 8)], pre := [], d2 := [], m := 0, fx := [], n := 30, k := k }
def go_spec_guBefore_L0_E (a0 : (List Int)) (a1 : (List Int)) (x3 : (Int)) : St :=
  ⟨[(0, .one (.val (.sl I) a0), []), (1, .one (.val (.sl I) a1), []), (7, .one (.val I (a0.length : Int)), []), (8, .one (.val I x3), [])], [], []⟩
def go_spec_guBefore_L0_G (k : Nat) (a0 : (List Int)) (a1 : (List Int)) (rec4 : (Int) → Option Bool) (x3 : (Int)) : Option Bool :=
  if (decide (x3 < (a0.length : Int))) = true then
    if (inb x3 a0.length) = true then
    if (inb x3 a1.length) = true then
    if (!decide ((a0.getD x3.toNat (0 : Int)) = (a1.getD x3.toNat (0 : Int)))) = true then
      if (inb x3 a0.length) = true then
      if (inb x3 a1.length) = true then
      some (decide ((a0.getD x3.toNat (0 : Int)) < (a1.getD x3.toNat (0 : Int))))
      else none
      else none
    else
      rec4 (IntKind.i64.wrap (x3 + (1 : Int)))
    else none
    else none
  else
    some false
def go_spec_guBefore_L0 (k : Nat) (a0 : (List Int)) (a1 : (List Int)) : (Int) → Option Bool :=
  iter k fun rec4 x3 => go_spec_guBefore_L0_G k a0 a1 rec4 x3
theorem go_spec_guBefore_L0_t (k : Nat) (a0 : (List Int)) (a1 : (List Int)) (x : (Int)) :
    iter k (loopAt (go_spec_guBefore_C k) (bodyOf Go.Proofs.Try.f147) [1, 0, 1, 0] [] (finPure (go_spec_guBefore_C k) Go.Proofs.Try.f147.results.toList false (.val .bool))) (go_spec_guBefore_L0_E a0 a1 x) = go_spec_guBefore_L0 k a0 a1 x := by
  refine iter_tie (G := fun rec x => go_spec_guBefore_L0_G k a0 a1 rec x) (go_spec_guBefore_L0_E a0 a1) (fun rec x => ?_) k x
  have h : loopAt (go_spec_guBefore_C k) (bodyOf Go.Proofs.Try.f147) [1, 0, 1, 0] [] (finPure (go_spec_guBefore_C k) Go.Proofs.Try.f147.results.toList false (.val .bool)) rec (go_spec_guBefore_L0_E a0 a1 x) = go_spec_guBefore_L0_G k a0 a1 (fun y => rec (go_spec_guBefore_L0_E a0 a1 y)) x := by kernel_rfl
  rw [h]
def go_spec_guBefore_T (k : Nat) (a0 : (List Int)) (a1 : (List Int)) (l_0 : (Int) → Option Bool) : Option Bool :=
  l_0 (0 : Int)
def go_spec_guBefore (k : Nat) (a0 : (List Int)) (a1 : (List Int)) : Option Bool :=
  go_spec_guBefore_T k a0 a1 (fun y => go_spec_guBefore_L0 k a0 a1 y)
theorem go_spec_guBefore_t (k : Nat) (a0 : (List Int)) (a1 : (List Int)) : runPure (go_spec_guBefore_C k) (bodyOf Go.Proofs.Try.f147) Go.Proofs.Try.f147.results.toList false (.pr (.val (.sl I)) (.pr (.val (.sl I)) .un)) (.val .bool) (a0, a1, ()) = go_spec_guBefore k a0 a1 := by
  have h : runPure (go_spec_guBefore_C k) (bodyOf Go.Proofs.Try.f147) Go.Proofs.Try.f147.results.toList false (.pr (.val (.sl I)) (.pr (.val (.sl I)) .un)) (.val .bool) (a0, a1, ()) = go_spec_guBefore_T k a0 a1 (fun y => iter k (loopAt (go_spec_guBefore_C k) (bodyOf Go.Proofs.Try.f147) [1, 0, 1, 0] [] (finPure (go_spec_guBefore_C k) Go.Proofs.Try.f147.results.toList false (.val .bool))) (go_spec_guBefore_L0_E a0 a1 y)) := by kernel_rfl
  have h0 : (fun y => iter k (loopAt (go_spec_guBefore_C k) (bodyOf Go.Proofs.Try.f147) [1, 0, 1, 0] [] (finPure (go_spec_guBefore_C k) Go.Proofs.Try.f147.results.toList false (.val .bool))) (go_spec_guBefore_L0_E a0 a1 y)) = (fun y => go_spec_guBefore_L0 k a0 a1 y) := by
    funext y
    exact go_spec_guBefore_L0_t k a0 a1 y
  rw [h, h0]
  rfl
def go_spec_guBefore_S (k : Nat) : Spec := ⟨(.pr (.val (.sl I)) (.pr (.val (.sl I)) .un)), (.val .bool), false, .inl fun x => go_spec_guBefore k x.1 x.2.1⟩
theorem go_spec_guBefore_F (k : Nat) : Fits Go.Proofs.Try.prog (go_spec_guBefore_C k) 147 Go.Proofs.Try.f147 (bodyOf Go.Proofs.Try.f147) (.pr (.val (.sl I)) (.pr (.val (.sl I)) .un)) (.val .bool) false :=
  ⟨th0, mixed0, by kernel_rfl, Go.Proofs.Try.func147, rfl, by kernel_rfl, rfl, rfl, rfl, rfl, rfl, rfl⟩
theorem go_spec_guBefore_M (k : Nat) : Meets Go.Proofs.Try.prog 147 (go_spec_guBefore_S k) :=
  meets_pure (go_spec_guBefore_F k) (sigs_all (l := []) rfl trivial) rfl fun x => go_spec_guBefore_t k x.1 x.2.1

/-! ### (*spec.guBest).look -/
def go_spec_guBest_look_C (k : Nat) : Ctx := { th := TH, se := SE, sg := [(147, go_spec_guBefore_S k)], mu := [], an := [(9, [(0, false), (2, false), (10, true), (67, false), (68, false), (69, false)])], dr := [], pre := [], d2 := [], m := 3, fx := [0], n := 101, k := k }
def go_spec_guBest_look_L0_E (a0 : (Int × (Int × ((List Int) × ((List Int) × Unit))))) (a1 : ((List Int) × ((List Int) × Unit))) (a2 : Int) (a3 : Int) (a4 : Bool) (x7 : (Int × (List Int))) : St :=
  ⟨[(0, .one (.bx 0 0 .unit), []), (2, .one (.val I a2), []), (10, .one (.own 3), []), (67, .one (.val (.sl I) a1.1), []), (68, .one (.val I (a1.1.length : Int)), []), (69, .one (.val I x7.1), [])], [.box (.pr (.val I a0.1) (.pr (.val I (IntKind.i64.wrap (a0.2.1 + (1 : Int)))) (.pr (.own 1) (.pr (.own 2) .un)))), .arr 3 I a0.2.2.1, .arr 3 I a0.2.2.2.1, .arr 3 I x7.2], []⟩
def go_spec_guBest_look_L1_E (a0 : (Int × (Int × ((List Int) × ((List Int) × Unit))))) (a1 : ((List Int) × ((List Int) × Unit))) (a2 : Int) (a3 : Int) (a4 : Bool) (x14 : (Int × (List Int))) : St :=
  ⟨[(0, .one (.bx 0 0 .unit), []), (2, .one (.val I a2), []), (10, .one (.own 3), []), (67, .one (.val (.sl I) a1.1), []), (68, .one (.val I (a1.1.length : Int)), []), (69, .one (.val I x14.1), [])], [.box (.pr (.val I a3) (.pr (.val I (1 : Int)) (.pr (.nsl 3 I) (.pr (.own 2) .un)))), .arr 3 I a0.2.2.1, .arr 3 I a0.2.2.2.1, .arr 3 I x14.2], []⟩
def go_spec_guBest_look_L1_G (k : Nat) (a0 : (Int × (Int × ((List Int) × ((List Int) × Unit))))) (a1 : ((List Int) × ((List Int) × Unit))) (a2 : Int) (a3 : Int) (a4 : Bool) (rec15 : (Int × (List Int)) → Option (Unit × ((Int × (Int × ((List Int) × ((List Int) × Unit)))) × (((List Int) × ((List Int) × Unit)) × (Int × (Int × (Bool × Unit))))))) (x14 : (Int × (List Int))) : Option (Unit × ((Int × (Int × ((List Int) × ((List Int) × Unit)))) × (((List Int) × ((List Int) × Unit)) × (Int × (Int × (Bool × Unit)))))) :=
  if (decide (x14.1 < (a1.1.length : Int))) = true then
    if (inb x14.1 a1.1.length) = true then
    if (decide (0 ≤ x14.1)) = true then
    if (decide ((Int.tmod (Int.fdiv a2 (2 ^ (min x14.1.toNat (IntKind.i64.bits)))) (2 : Int)) = (1 : Int))) = true then
      if (decide (x14.2.length + [(a1.1.getD x14.1.toNat (0 : Int))].length ≤ LIM)) = true then
      rec15 ((IntKind.i64.wrap (x14.1 + (1 : Int))), (x14.2 ++ [(a1.1.getD x14.1.toNat (0 : Int))]))
      else none
    else
      rec15 ((IntKind.i64.wrap (x14.1 + (1 : Int))), x14.2)
    else none
    else none
  else
    (if (!(decide ((1 : Int) = (1 : Int)))) = true then go_spec_guBefore k x14.2 [] else some false).bind fun r16 =>
    if ((decide ((1 : Int) = (1 : Int))) || r16) = true then
      some ((), ((a3, ((1 : Int), (x14.2, (a0.2.2.2.1, ())))), (a1, (a2, (a3, (a4, ()))))))
    else
      some ((), ((a3, ((1 : Int), ([], (a0.2.2.2.1, ())))), (a1, (a2, (a3, (a4, ()))))))
def go_spec_guBest_look_L1 (k : Nat) (a0 : (Int × (Int × ((List Int) × ((List Int) × Unit))))) (a1 : ((List Int) × ((List Int) × Unit))) (a2 : Int) (a3 : Int) (a4 : Bool) : (Int × (List Int)) → Option (Unit × ((Int × (Int × ((List Int) × ((List Int) × Unit)))) × (((List Int) × ((List Int) × Unit)) × (Int × (Int × (Bool × Unit)))))) :=
  iter k fun rec15 x14 => go_spec_guBest_look_L1_G k a0 a1 a2 a3 a4 rec15 x14
theorem go_spec_guBest_look_L1_t (k : Nat) (a0 : (Int × (Int × ((List Int) × ((List Int) × Unit))))) (a1 : ((List Int) × ((List Int) × Unit))) (a2 : Int) (a3 : Int) (a4 : Bool) (x : (Int × (List Int))) :
    iter k (loopAt (go_spec_guBest_look_C k) (bodyOf Go.Proofs.Try.f131) [1, 1, 1, 1, 0, 1, 0] [] (finEff (go_spec_guBest_look_C k) Go.Proofs.Try.f131.results.toList true (.pr (.box (.pr (.val I) (.pr (.val I) (.pr (.own 3 I) (.pr (.own 3 I) .un))))) (.pr (.val (.pair (.sl I) (.pair (.sl I) .unit))) (.pr (.val I) (.pr (.val I) (.pr (.val .bool) .un))))) .un (a0, a1, a2, a3, a4, ()))) (go_spec_guBest_look_L1_E a0 a1 a2 a3 a4 x) = go_spec_guBest_look_L1 k a0 a1 a2 a3 a4 x := by
  refine iter_tie (G := fun rec x => go_spec_guBest_look_L1_G k a0 a1 a2 a3 a4 rec x) (go_spec_guBest_look_L1_E a0 a1 a2 a3 a4) (fun rec x => ?_) k x
  have h : loopAt (go_spec_guBest_look_C k) (bodyOf Go.Proofs.Try.f131) [1, 1, 1, 1, 0, 1, 0] [] (finEff (go_spec_guBest_look_C k) Go.Proofs.Try.f131.results.toList true (.pr (.box (.pr (.val I) (.pr (.val I) (.pr (.own 3 I) (.pr (.own 3 I) .un))))) (.pr (.val (.pair (.sl I) (.pair (.sl I) .unit))) (.pr (.val I) (.pr (.val I) (.pr (.val .bool) .un))))) .un (a0, a1, a2, a3, a4, ())) rec (go_spec_guBest_look_L1_E a0 a1 a2 a3 a4 x) = go_spec_guBest_look_L1_G k a0 a1 a2 a3 a4 (fun y => rec (go_spec_guBest_look_L1_E a0 a1 a2 a3 a4 y)) x := by kernel_rfl
  rw [h]
def go_spec_guBest_look_L0_G (k : Nat) (a0 : (Int × (Int × ((List Int) × ((List Int) × Unit))))) (a1 : ((List Int) × ((List Int) × Unit))) (a2 : Int) (a3 : Int) (a4 : Bool) (rec8 : (Int × (List Int)) → Option (Unit × ((Int × (Int × ((List Int) × ((List Int) × Unit)))) × (((List Int) × ((List Int) × Unit)) × (Int × (Int × (Bool × Unit))))))) (x7 : (Int × (List Int))) : Option (Unit × ((Int × (Int × ((List Int) × ((List Int) × Unit)))) × (((List Int) × ((List Int) × Unit)) × (Int × (Int × (Bool × Unit)))))) :=
  if (decide (x7.1 < (a1.1.length : Int))) = true then
    if (inb x7.1 a1.1.length) = true then
    if (decide (0 ≤ x7.1)) = true then
    if (decide ((Int.tmod (Int.fdiv a2 (2 ^ (min x7.1.toNat (IntKind.i64.bits)))) (2 : Int)) = (1 : Int))) = true then
      if (decide (x7.2.length + [(a1.1.getD x7.1.toNat (0 : Int))].length ≤ LIM)) = true then
      rec8 ((IntKind.i64.wrap (x7.1 + (1 : Int))), (x7.2 ++ [(a1.1.getD x7.1.toNat (0 : Int))]))
      else none
    else
      rec8 ((IntKind.i64.wrap (x7.1 + (1 : Int))), x7.2)
    else none
    else none
  else
    (if (!(decide ((IntKind.i64.wrap (a0.2.1 + (1 : Int))) = (1 : Int)))) = true then go_spec_guBefore k x7.2 a0.2.2.1 else some false).bind fun r9 =>
    if ((decide ((IntKind.i64.wrap (a0.2.1 + (1 : Int))) = (1 : Int))) || r9) = true then
      some ((), ((a0.1, ((IntKind.i64.wrap (a0.2.1 + (1 : Int))), (x7.2, (a0.2.2.2.1, ())))), (a1, (a2, (a3, (a4, ()))))))
    else
      some ((), ((a0.1, ((IntKind.i64.wrap (a0.2.1 + (1 : Int))), (a0.2.2.1, (a0.2.2.2.1, ())))), (a1, (a2, (a3, (a4, ()))))))
def go_spec_guBest_look_L0 (k : Nat) (a0 : (Int × (Int × ((List Int) × ((List Int) × Unit))))) (a1 : ((List Int) × ((List Int) × Unit))) (a2 : Int) (a3 : Int) (a4 : Bool) : (Int × (List Int)) → Option (Unit × ((Int × (Int × ((List Int) × ((List Int) × Unit)))) × (((List Int) × ((List Int) × Unit)) × (Int × (Int × (Bool × Unit)))))) :=
  iter k fun rec8 x7 => go_spec_guBest_look_L0_G k a0 a1 a2 a3 a4 rec8 x7
theorem go_spec_guBest_look_L0_t (k : Nat) (a0 : (Int × (Int × ((List Int) × ((List Int) × Unit))))) (a1 : ((List Int) × ((List Int) × Unit))) (a2 : Int) (a3 : Int) (a4 : Bool) (x : (Int × (List Int))) :
    iter k (loopAt (go_spec_guBest_look_C k) (bodyOf Go.Proofs.Try.f131) [1, 1, 1, 1, 0, 1, 0] [] (finEff (go_spec_guBest_look_C k) Go.Proofs.Try.f131.results.toList true (.pr (.box (.pr (.val I) (.pr (.val I) (.pr (.own 3 I) (.pr (.own 3 I) .un))))) (.pr (.val (.pair (.sl I) (.pair (.sl I) .unit))) (.pr (.val I) (.pr (.val I) (.pr (.val .bool) .un))))) .un (a0, a1, a2, a3, a4, ()))) (go_spec_guBest_look_L0_E a0 a1 a2 a3 a4 x) = go_spec_guBest_look_L0 k a0 a1 a2 a3 a4 x := by
  refine iter_tie (G := fun rec x => go_spec_guBest_look_L0_G k a0 a1 a2 a3 a4 rec x) (go_spec_guBest_look_L0_E a0 a1 a2 a3 a4) (fun rec x => ?_) k x
  have h : loopAt (go_spec_guBest_look_C k) (bodyOf Go.Proofs.Try.f131) [1, 1, 1, 1, 0, 1, 0] [] (finEff (go_spec_guBest_look_C k) Go.Proofs.Try.f131.results.toList true (.pr (.box (.pr (.val I) (.pr (.val I) (.pr (.own 3 I) (.pr (.own 3 I) .un))))) (.pr (.val (.pair (.sl I) (.pair (.sl I) .unit))) (.pr (.val I) (.pr (.val I) (.pr (.val .bool) .un))))) .un (a0, a1, a2, a3, a4, ())) rec (go_spec_guBest_look_L0_E a0 a1 a2 a3 a4 x) = go_spec_guBest_look_L0_G k a0 a1 a2 a3 a4 (fun y => rec (go_spec_guBest_look_L0_E a0 a1 a2 a3 a4 y)) x := by kernel_rfl
  rw [h]
def go_spec_guBest_look_T (k : Nat) (a0 : (Int × (Int × ((List Int) × ((List Int) × Unit))))) (a1 : ((List Int) × ((List Int) × Unit))) (a2 : Int) (a3 : Int) (a4 : Bool) (l_0 : (Int × (List Int)) → Option (Unit × ((Int × (Int × ((List Int) × ((List Int) × Unit)))) × (((List Int) × ((List Int) × Unit)) × (Int × (Int × (Bool × Unit))))))) (l_1 : (Int × (List Int)) → Option (Unit × ((Int × (Int × ((List Int) × ((List Int) × Unit)))) × (((List Int) × ((List Int) × Unit)) × (Int × (Int × (Bool × Unit))))))) : Option (Unit × ((Int × (Int × ((List Int) × ((List Int) × Unit)))) × (((List Int) × ((List Int) × Unit)) × (Int × (Int × (Bool × Unit)))))) :=
  if (((decide ((0 : Int) < a0.2.1)) && ((decide (a0.1 < a3)) == a4)) && (!decide (a3 = a0.1))) = true then
    some ((), ((a0.1, (a0.2.1, (a0.2.2.1, (a0.2.2.2.1, ())))), (a1, (a2, (a3, (a4, ()))))))
  else
    if ((decide ((0 : Int) < a0.2.1)) && (decide (a3 = a0.1))) = true then
      l_0 ((0 : Int), [])
    else
      l_1 ((0 : Int), [])
def go_spec_guBest_look (k : Nat) (a0 : (Int × (Int × ((List Int) × ((List Int) × Unit))))) (a1 : ((List Int) × ((List Int) × Unit))) (a2 : Int) (a3 : Int) (a4 : Bool) : Option (Unit × ((Int × (Int × ((List Int) × ((List Int) × Unit)))) × (((List Int) × ((List Int) × Unit)) × (Int × (Int × (Bool × Unit)))))) :=
  go_spec_guBest_look_T k a0 a1 a2 a3 a4 (fun y => go_spec_guBest_look_L0 k a0 a1 a2 a3 a4 y) (fun y => go_spec_guBest_look_L1 k a0 a1 a2 a3 a4 y)
theorem go_spec_guBest_look_t (k : Nat) (a0 : (Int × (Int × ((List Int) × ((List Int) × Unit))))) (a1 : ((List Int) × ((List Int) × Unit))) (a2 : Int) (a3 : Int) (a4 : Bool) : runEff (go_spec_guBest_look_C k) (bodyOf Go.Proofs.Try.f131) Go.Proofs.Try.f131.results.toList true (.pr (.box (.pr (.val I) (.pr (.val I) (.pr (.own 3 I) (.pr (.own 3 I) .un))))) (.pr (.val (.pair (.sl I) (.pair (.sl I) .unit))) (.pr (.val I) (.pr (.val I) (.pr (.val .bool) .un))))) .un (a0, a1, a2, a3, a4, ()) = go_spec_guBest_look k a0 a1 a2 a3 a4 := by
  have h : runEff (go_spec_guBest_look_C k) (bodyOf Go.Proofs.Try.f131) Go.Proofs.Try.f131.results.toList true (.pr (.box (.pr (.val I) (.pr (.val I) (.pr (.own 3 I) (.pr (.own 3 I) .un))))) (.pr (.val (.pair (.sl I) (.pair (.sl I) .unit))) (.pr (.val I) (.pr (.val I) (.pr (.val .bool) .un))))) .un (a0, a1, a2, a3, a4, ()) = go_spec_guBest_look_T k a0 a1 a2 a3 a4 (fun y => iter k (loopAt (go_spec_guBest_look_C k) (bodyOf Go.Proofs.Try.f131) [1, 1, 1, 1, 0, 1, 0] [] (finEff (go_spec_guBest_look_C k) Go.Proofs.Try.f131.results.toList true (.pr (.box (.pr (.val I) (.pr (.val I) (.pr (.own 3 I) (.pr (.own 3 I) .un))))) (.pr (.val (.pair (.sl I) (.pair (.sl I) .unit))) (.pr (.val I) (.pr (.val I) (.pr (.val .bool) .un))))) .un (a0, a1, a2, a3, a4, ()))) (go_spec_guBest_look_L0_E a0 a1 a2 a3 a4 y)) (fun y => iter k (loopAt (go_spec_guBest_look_C k) (bodyOf Go.Proofs.Try.f131) [1, 1, 1, 1, 0, 1, 0] [] (finEff (go_spec_guBest_look_C k) Go.Proofs.Try.f131.results.toList true (.pr (.box (.pr (.val I) (.pr (.val I) (.pr (.own 3 I) (.pr (.own 3 I) .un))))) (.pr (.val (.pair (.sl I) (.pair (.sl I) .unit))) (.pr (.val I) (.pr (.val I) (.pr (.val .bool) .un))))) .un (a0, a1, a2, a3, a4, ()))) (go_spec_guBest_look_L1_E a0 a1 a2 a3 a4 y)) := by kernel_rfl
  have h0 : (fun y => iter k (loopAt (go_spec_guBest_look_C k) (bodyOf Go.Proofs.Try.f131) [1, 1, 1, 1, 0, 1, 0] [] (finEff (go_spec_guBest_look_C k) Go.Proofs.Try.f131.results.toList true (.pr (.box (.pr (.val I) (.pr (.val I) (.pr (.own 3 I) (.pr (.own 3 I) .un))))) (.pr (.val (.pair (.sl I) (.pair (.sl I) .unit))) (.pr (.val I) (.pr (.val I) (.pr (.val .bool) .un))))) .un (a0, a1, a2, a3, a4, ()))) (go_spec_guBest_look_L0_E a0 a1 a2 a3 a4 y)) = (fun y => go_spec_guBest_look_L0 k a0 a1 a2 a3 a4 y) := by
    funext y
    exact go_spec_guBest_look_L0_t k a0 a1 a2 a3 a4 y
  have h1 : (fun y => iter k (loopAt (go_spec_guBest_look_C k) (bodyOf Go.Proofs.Try.f131) [1, 1, 1, 1, 0, 1, 0] [] (finEff (go_spec_guBest_look_C k) Go.Proofs.Try.f131.results.toList true (.pr (.box (.pr (.val I) (.pr (.val I) (.pr (.own 3 I) (.pr (.own 3 I) .un))))) (.pr (.val (.pair (.sl I) (.pair (.sl I) .unit))) (.pr (.val I) (.pr (.val I) (.pr (.val .bool) .un))))) .un (a0, a1, a2, a3, a4, ()))) (go_spec_guBest_look_L1_E a0 a1 a2 a3 a4 y)) = (fun y => go_spec_guBest_look_L1 k a0 a1 a2 a3 a4 y) := by
    funext y
    exact go_spec_guBest_look_L1_t k a0 a1 a2 a3 a4 y
  rw [h, h0, h1]
  rfl
def go_spec_guBest_look_S (k : Nat) : Spec := ⟨(.pr (.box (.pr (.val I) (.pr (.val I) (.pr (.own 3 I) (.pr (.own 3 I) .un))))) (.pr (.val (.pair (.sl I) (.pair (.sl I) .unit))) (.pr (.val I) (.pr (.val I) (.pr (.val .bool) .un))))), .un, true, .inr fun x => go_spec_guBest_look k x.1 x.2.1 x.2.2.1 x.2.2.2.1 x.2.2.2.2.1⟩
theorem go_spec_guBest_look_F (k : Nat) : Fits Go.Proofs.Try.prog (go_spec_guBest_look_C k) 131 Go.Proofs.Try.f131 (bodyOf Go.Proofs.Try.f131) (.pr (.box (.pr (.val I) (.pr (.val I) (.pr (.own 3 I) (.pr (.own 3 I) .un))))) (.pr (.val (.pair (.sl I) (.pair (.sl I) .unit))) (.pr (.val I) (.pr (.val I) (.pr (.val .bool) .un))))) .un true :=
  ⟨th0, mixed0, by kernel_rfl, Go.Proofs.Try.func131, rfl, by kernel_rfl, rfl, rfl, rfl, rfl, rfl, rfl⟩
theorem go_spec_guBest_look_M (k : Nat) : Meets Go.Proofs.Try.prog 131 (go_spec_guBest_look_S k) :=
  meets_eff (go_spec_guBest_look_F k) (sigs_all (l := [(147, go_spec_guBefore_S k)]) rfl ⟨go_spec_guBefore_M k, trivial⟩) fun x => go_spec_guBest_look_t k x.1 x.2.1 x.2.2.1 x.2.2.2.1 x.2.2.2.2.1

/-! ### spec.guAll -/
def go_spec_guAll_C (k : Nat) : Ctx := { th := TH, se := SE, sg := [(130, go_spec_guNew_S k), (131, go_spec_guBest_look_S k)], mu := [], an := [(5, [(2, false), (3, false), (4, false), (10, false), (11, false), (12, false), (13, true), (14, false)]), (9, [(2, false), (3, false), (4, false), (10, false), (11, false), (12, false), (13, false), (14, false), (15, false), (16, false), (17, false), (18, false)])], dr := [(14, 11)], pre := [], d2 := [], m := 0, fx := [], n := 95, k := k }
def go_spec_guAll_L0_E (a0 : (Int × (Int × ((List Int) × Unit)))) (a1 : (Int × (Int × Unit))) (a2 : Bool) (a3 : Bool) (a4 : Bool) (r1 : ((List Int) × ((List Int) × Unit))) (x91 : (Int × Int × Int × (List Int) × (List Int))) : St :=
  ⟨[(2, .one (.val .bool a2), []), (3, .one (.val .bool a3), []), (4, .one (.val .bool a4), []), (10, .one (.bx 0 0 (.pair I (.pair I (.pair (.sl I) (.pair (.sl I) .unit))))), []), (11, .one (.bx 1 0 (.pair (.sl I) (.pair (.sl I) .unit))), []), (12, .one (.val I (r1.1.length : Int)), []), (13, .one (.bx 2 0 (.pair I (.pair I (.pair (.sl I) (.pair (.sl I) .unit))))), []), (14, .one (.val I x91.1), [])], [.box (.pr (.val I (0 : Int)) (.pr (.val I (0 : Int)) (.pr (.nsl 3 I) (.pr (.nsl 3 I) .un)))), .box (.pr (.val (.sl I) r1.1) (.pr (.val (.sl I) r1.2.1) .un)), .box (.pr (.val I x91.2.1) (.pr (.val I x91.2.2.1) (.pr (.own 3) (.pr (.own 4) .un)))), .arr 3 I x91.2.2.2.1, .arr 3 I x91.2.2.2.2], []⟩
def go_spec_guAll_L1_E (a0 : (Int × (Int × ((List Int) × Unit)))) (a1 : (Int × (Int × Unit))) (a2 : Bool) (a3 : Bool) (a4 : Bool) (r1 : ((List Int) × ((List Int) × Unit))) (x91 : (Int × Int × Int × (List Int) × (List Int))) (x101 : (Int × Int × Bool × Int)) : St :=
  ⟨[(2, .one (.val .bool a2), []), (3, .one (.val .bool a3), []), (4, .one (.val .bool a4), []), (10, .one (.bx 0 0 (.pair I (.pair I (.pair (.sl I) (.pair (.sl I) .unit))))), []), (11, .one (.bx 1 0 (.pair (.sl I) (.pair (.sl I) .unit))), []), (12, .one (.val I (r1.1.length : Int)), []), (13, .one (.bx 2 0 (.pair I (.pair I (.pair (.sl I) (.pair (.sl I) .unit))))), []), (14, .one (.val I x91.1), []), (15, .one (.val I x101.1), []), (16, .one (.val I x101.2.1), []), (17, .one (.val .bool x101.2.2.1), []), (18, .one (.val I x101.2.2.2), [])], [.box (.pr (.val I (0 : Int)) (.pr (.val I (0 : Int)) (.pr (.nsl 3 I) (.pr (.nsl 3 I) .un)))), .box (.pr (.val (.sl I) r1.1) (.pr (.val (.sl I) r1.2.1) .un)), .box (.pr (.val I x91.2.1) (.pr (.val I x91.2.2.1) (.pr (.own 3) (.pr (.own 4) .un)))), .arr 3 I x91.2.2.2.1, .arr 3 I x91.2.2.2.2], []⟩
def go_spec_guAll_L1_G (k : Nat) (a0 : (Int × (Int × ((List Int) × Unit)))) (a1 : (Int × (Int × Unit))) (a2 : Bool) (a3 : Bool) (a4 : Bool) (r1 : ((List Int) × ((List Int) × Unit))) (x91 : (Int × Int × Int × (List Int) × (List Int))) (rec92 : (Int × Int × Int × (List Int) × (List Int)) → Option (Int × (Int × ((List Int) × ((List Int) × Unit))))) (rec102 : (Int × Int × Bool × Int) → Option (Int × (Int × ((List Int) × ((List Int) × Unit))))) (x101 : (Int × Int × Bool × Int)) : Option (Int × (Int × ((List Int) × ((List Int) × Unit)))) :=
  if (decide (x101.2.2.2 < (r1.1.length : Int))) = true then
    if (decide (0 ≤ x101.2.2.2)) = true then
    if (decide ((Int.tmod (Int.fdiv x91.1 (2 ^ (min x101.2.2.2.toNat (IntKind.i64.bits)))) (2 : Int)) = (0 : Int))) = true then
      rec102 (x101.1, x101.2.1, x101.2.2.1, (IntKind.i64.wrap (x101.2.2.2 + (1 : Int))))
    else
      if (inb x101.2.2.2 r1.2.1.length) = true then
      if (!x101.2.2.1 || (inb x101.2.2.2 r1.2.1.length)) = true then
      if (!x101.2.2.1 || (decide (0 ≤ x101.2.2.2))) = true then
      rec102 ((IntKind.i64.wrap (((BitVec.ofInt (IntKind.i64.bits) x101.1 ||| BitVec.ofInt (IntKind.i64.bits) (r1.2.1.getD x101.2.2.2.toNat (0 : Int))).toNat : Int))), (IntKind.i64.wrap (x101.2.1 + (1 : Int))), (x101.2.2.1 && (decide ((IntKind.i64.wrap (((BitVec.ofInt (IntKind.i64.bits) (r1.2.1.getD x101.2.2.2.toNat (0 : Int)) &&& BitVec.ofInt (IntKind.i64.bits) x91.1).toNat : Int))) = (IntKind.i64.wrap ((1 : Int) * 2 ^ (min x101.2.2.2.toNat (IntKind.i64.bits))))))), (IntKind.i64.wrap (x101.2.2.2 + (1 : Int))))
      else none
      else none
      else none
    else none
  else
    if (!a2 || (decide (0 ≤ (r1.1.length : Int)))) = true then
    if ((a2 && (!decide (x101.1 = (IntKind.i64.wrap ((IntKind.i64.wrap ((1 : Int) * 2 ^ (min (r1.1.length : Int).toNat (IntKind.i64.bits)))) - (1 : Int)))))) || (a3 && (!x101.2.2.1))) = true then
      rec92 ((IntKind.i64.wrap (x91.1 + (1 : Int))), x91.2.1, x91.2.2.1, x91.2.2.2.1, x91.2.2.2.2)
    else
      if (inb x101.2.1 x91.2.2.2.2.length) = true then
      if (inb x101.2.1 x91.2.2.2.2.length) = true then
      (go_spec_guBest_look k (x91.2.1, (x91.2.2.1, (x91.2.2.2.1, ((x91.2.2.2.2.set x101.2.1.toNat (IntKind.i64.wrap ((x91.2.2.2.2.getD x101.2.1.toNat (0 : Int)) + (1 : Int)))), ())))) (r1.1, (r1.2.1, ())) x91.1 x101.2.1 a4).bind fun r103 =>
      rec92 ((IntKind.i64.wrap (x91.1 + (1 : Int))), r103.2.1.1, r103.2.1.2.1, r103.2.1.2.2.1, r103.2.1.2.2.2.1)
      else none
      else none
    else none
def go_spec_guAll_L1 (k : Nat) (a0 : (Int × (Int × ((List Int) × Unit)))) (a1 : (Int × (Int × Unit))) (a2 : Bool) (a3 : Bool) (a4 : Bool) (rec92 : (Int × Int × Int × (List Int) × (List Int)) → Option (Int × (Int × ((List Int) × ((List Int) × Unit))))) (r1 : ((List Int) × ((List Int) × Unit))) (x91 : (Int × Int × Int × (List Int) × (List Int))) : (Int × Int × Bool × Int) → Option (Int × (Int × ((List Int) × ((List Int) × Unit)))) :=
  iter k fun rec102 x101 => go_spec_guAll_L1_G k a0 a1 a2 a3 a4 r1 x91 rec92 rec102 x101
theorem go_spec_guAll_L1_t (k : Nat) (a0 : (Int × (Int × ((List Int) × Unit)))) (a1 : (Int × (Int × Unit))) (a2 : Bool) (a3 : Bool) (a4 : Bool) (s0 : St → Option (Int × (Int × ((List Int) × ((List Int) × Unit))))) (r1 : ((List Int) × ((List Int) × Unit))) (x91 : (Int × Int × Int × (List Int) × (List Int))) (x : (Int × Int × Bool × Int)) :
    iter k (loopAt (go_spec_guAll_C k) (bodyOf Go.Proofs.Try.f94) [1, 1, 1, 1, 0, 1, 0, 0, 1, 0, 0, 1, 0, 1, 0] [s0] (finPure (go_spec_guAll_C k) Go.Proofs.Try.f94.results.toList false (.pr (.val I) (.pr (.val I) (.pr (.own 3 I) (.pr (.own 3 I) .un)))))) (go_spec_guAll_L1_E a0 a1 a2 a3 a4 r1 x91 x) = go_spec_guAll_L1 k a0 a1 a2 a3 a4 (fun y => s0 (go_spec_guAll_L0_E a0 a1 a2 a3 a4 r1 y)) r1 x91 x := by
  refine iter_tie (G := fun rec x => go_spec_guAll_L1_G k a0 a1 a2 a3 a4 r1 x91 (fun y => s0 (go_spec_guAll_L0_E a0 a1 a2 a3 a4 r1 y)) rec x) (go_spec_guAll_L1_E a0 a1 a2 a3 a4 r1 x91) (fun rec x => ?_) k x
  have h : loopAt (go_spec_guAll_C k) (bodyOf Go.Proofs.Try.f94) [1, 1, 1, 1, 0, 1, 0, 0, 1, 0, 0, 1, 0, 1, 0] [s0] (finPure (go_spec_guAll_C k) Go.Proofs.Try.f94.results.toList false (.pr (.val I) (.pr (.val I) (.pr (.own 3 I) (.pr (.own 3 I) .un))))) rec (go_spec_guAll_L1_E a0 a1 a2 a3 a4 r1 x91 x) = go_spec_guAll_L1_G k a0 a1 a2 a3 a4 r1 x91 (fun y => s0 (go_spec_guAll_L0_E a0 a1 a2 a3 a4 r1 y)) (fun y => rec (go_spec_guAll_L1_E a0 a1 a2 a3 a4 r1 x91 y)) x := by kernel_rfl
  rw [h]
def go_spec_guAll_L0_G (k : Nat) (a0 : (Int × (Int × ((List Int) × Unit)))) (a1 : (Int × (Int × Unit))) (a2 : Bool) (a3 : Bool) (a4 : Bool) (r1 : ((List Int) × ((List Int) × Unit))) (l_1 : (Int × Int × Int × (List Int) × (List Int)) → (Int × Int × Bool × Int) → Option (Int × (Int × ((List Int) × ((List Int) × Unit))))) (rec92 : (Int × Int × Int × (List Int) × (List Int)) → Option (Int × (Int × ((List Int) × ((List Int) × Unit))))) (x91 : (Int × Int × Int × (List Int) × (List Int))) : Option (Int × (Int × ((List Int) × ((List Int) × Unit)))) :=
  if (decide (0 ≤ (r1.1.length : Int))) = true then
  if (decide (x91.1 < (IntKind.i64.wrap ((1 : Int) * 2 ^ (min (r1.1.length : Int).toNat (IntKind.i64.bits)))))) = true then
    l_1 x91 ((0 : Int), (0 : Int), true, (0 : Int))
  else
    some (x91.2.1, (x91.2.2.1, (x91.2.2.2.1, (x91.2.2.2.2, ()))))
  else none
def go_spec_guAll_L0 (k : Nat) (a0 : (Int × (Int × ((List Int) × Unit)))) (a1 : (Int × (Int × Unit))) (a2 : Bool) (a3 : Bool) (a4 : Bool) (r1 : ((List Int) × ((List Int) × Unit))) : (Int × Int × Int × (List Int) × (List Int)) → Option (Int × (Int × ((List Int) × ((List Int) × Unit)))) :=
  iter k fun rec92 x91 => go_spec_guAll_L0_G k a0 a1 a2 a3 a4 r1 (fun c0 y => go_spec_guAll_L1 k a0 a1 a2 a3 a4 rec92 r1 c0 y) rec92 x91
theorem go_spec_guAll_L0_t (k : Nat) (a0 : (Int × (Int × ((List Int) × Unit)))) (a1 : (Int × (Int × Unit))) (a2 : Bool) (a3 : Bool) (a4 : Bool) (r1 : ((List Int) × ((List Int) × Unit))) (x : (Int × Int × Int × (List Int) × (List Int))) :
    iter k (loopAt (go_spec_guAll_C k) (bodyOf Go.Proofs.Try.f94) [1, 1, 1, 1, 0, 1, 0] [] (finPure (go_spec_guAll_C k) Go.Proofs.Try.f94.results.toList false (.pr (.val I) (.pr (.val I) (.pr (.own 3 I) (.pr (.own 3 I) .un)))))) (go_spec_guAll_L0_E a0 a1 a2 a3 a4 r1 x) = go_spec_guAll_L0 k a0 a1 a2 a3 a4 r1 x := by
  refine iter_tie (G := fun rec x => go_spec_guAll_L0_G k a0 a1 a2 a3 a4 r1 (fun c0 y => go_spec_guAll_L1 k a0 a1 a2 a3 a4 rec r1 c0 y) rec x) (go_spec_guAll_L0_E a0 a1 a2 a3 a4 r1) (fun rec x => ?_) k x
  have h : loopAt (go_spec_guAll_C k) (bodyOf Go.Proofs.Try.f94) [1, 1, 1, 1, 0, 1, 0] [] (finPure (go_spec_guAll_C k) Go.Proofs.Try.f94.results.toList false (.pr (.val I) (.pr (.val I) (.pr (.own 3 I) (.pr (.own 3 I) .un))))) rec (go_spec_guAll_L0_E a0 a1 a2 a3 a4 r1 x) = go_spec_guAll_L0_G k a0 a1 a2 a3 a4 r1 (fun c0 y => iter k (loopAt (go_spec_guAll_C k) (bodyOf Go.Proofs.Try.f94) [1, 1, 1, 1, 0, 1, 0, 0, 1, 0, 0, 1, 0, 1, 0] [rec] (finPure (go_spec_guAll_C k) Go.Proofs.Try.f94.results.toList false (.pr (.val I) (.pr (.val I) (.pr (.own 3 I) (.pr (.own 3 I) .un)))))) (go_spec_guAll_L1_E a0 a1 a2 a3 a4 r1 c0 y)) (fun y => rec (go_spec_guAll_L0_E a0 a1 a2 a3 a4 r1 y)) x := by kernel_rfl
  have h0 : (fun c0 y => iter k (loopAt (go_spec_guAll_C k) (bodyOf Go.Proofs.Try.f94) [1, 1, 1, 1, 0, 1, 0, 0, 1, 0, 0, 1, 0, 1, 0] [rec] (finPure (go_spec_guAll_C k) Go.Proofs.Try.f94.results.toList false (.pr (.val I) (.pr (.val I) (.pr (.own 3 I) (.pr (.own 3 I) .un)))))) (go_spec_guAll_L1_E a0 a1 a2 a3 a4 r1 c0 y)) = (fun c0 y => go_spec_guAll_L1 k a0 a1 a2 a3 a4 (fun y => rec (go_spec_guAll_L0_E a0 a1 a2 a3 a4 r1 y)) r1 c0 y) := by
    funext c0 y
    exact go_spec_guAll_L1_t k a0 a1 a2 a3 a4 rec r1 c0 y
  rw [h, h0]
def go_spec_guAll_T (k : Nat) (a0 : (Int × (Int × ((List Int) × Unit)))) (a1 : (Int × (Int × Unit))) (a2 : Bool) (a3 : Bool) (a4 : Bool) (l_0 : ((List Int) × ((List Int) × Unit)) → (Int × Int × Int × (List Int) × (List Int)) → Option (Int × (Int × ((List Int) × ((List Int) × Unit))))) : Option (Int × (Int × ((List Int) × ((List Int) × Unit)))) :=
  (go_spec_guNew k a0 a1).bind fun r1 =>
  if (decide (0 ≤ (IntKind.i64.wrap ((r1.1.length : Int) + (1 : Int))) ∧ (IntKind.i64.wrap ((r1.1.length : Int) + (1 : Int))) ≤ (LIM : Int))) = true then
  l_0 r1 ((0 : Int), (0 : Int), (0 : Int), [], (List.replicate (IntKind.i64.wrap ((r1.1.length : Int) + (1 : Int))).toNat (0 : Int)))
  else none
def go_spec_guAll (k : Nat) (a0 : (Int × (Int × ((List Int) × Unit)))) (a1 : (Int × (Int × Unit))) (a2 : Bool) (a3 : Bool) (a4 : Bool) : Option (Int × (Int × ((List Int) × ((List Int) × Unit)))) :=
  go_spec_guAll_T k a0 a1 a2 a3 a4 (fun r1 y => go_spec_guAll_L0 k a0 a1 a2 a3 a4 r1 y)
theorem go_spec_guAll_t (k : Nat) (a0 : (Int × (Int × ((List Int) × Unit)))) (a1 : (Int × (Int × Unit))) (a2 : Bool) (a3 : Bool) (a4 : Bool) : runPure (go_spec_guAll_C k) (bodyOf Go.Proofs.Try.f94) Go.Proofs.Try.f94.results.toList false (.pr (.val (.pair I (.pair I (.pair (.sl I) .unit)))) (.pr (.val (.pair I (.pair I .unit))) (.pr (.val .bool) (.pr (.val .bool) (.pr (.val .bool) .un))))) (.pr (.val I) (.pr (.val I) (.pr (.own 3 I) (.pr (.own 3 I) .un)))) (a0, a1, a2, a3, a4, ()) = go_spec_guAll k a0 a1 a2 a3 a4 := by
  have h : runPure (go_spec_guAll_C k) (bodyOf Go.Proofs.Try.f94) Go.Proofs.Try.f94.results.toList false (.pr (.val (.pair I (.pair I (.pair (.sl I) .unit)))) (.pr (.val (.pair I (.pair I .unit))) (.pr (.val .bool) (.pr (.val .bool) (.pr (.val .bool) .un))))) (.pr (.val I) (.pr (.val I) (.pr (.own 3 I) (.pr (.own 3 I) .un)))) (a0, a1, a2, a3, a4, ()) = go_spec_guAll_T k a0 a1 a2 a3 a4 (fun r1 y => iter k (loopAt (go_spec_guAll_C k) (bodyOf Go.Proofs.Try.f94) [1, 1, 1, 1, 0, 1, 0] [] (finPure (go_spec_guAll_C k) Go.Proofs.Try.f94.results.toList false (.pr (.val I) (.pr (.val I) (.pr (.own 3 I) (.pr (.own 3 I) .un)))))) (go_spec_guAll_L0_E a0 a1 a2 a3 a4 r1 y)) := by kernel_rfl
  have h0 : (fun r1 y => iter k (loopAt (go_spec_guAll_C k) (bodyOf Go.Proofs.Try.f94) [1, 1, 1, 1, 0, 1, 0] [] (finPure (go_spec_guAll_C k) Go.Proofs.Try.f94.results.toList false (.pr (.val I) (.pr (.val I) (.pr (.own 3 I) (.pr (.own 3 I) .un)))))) (go_spec_guAll_L0_E a0 a1 a2 a3 a4 r1 y)) = (fun r1 y => go_spec_guAll_L0 k a0 a1 a2 a3 a4 r1 y) := by
    funext r1 y
    exact go_spec_guAll_L0_t k a0 a1 a2 a3 a4 r1 y
  rw [h, h0]
  rfl
def go_spec_guAll_S (k : Nat) : Spec := ⟨(.pr (.val (.pair I (.pair I (.pair (.sl I) .unit)))) (.pr (.val (.pair I (.pair I .unit))) (.pr (.val .bool) (.pr (.val .bool) (.pr (.val .bool) .un))))), (.pr (.val I) (.pr (.val I) (.pr (.own 3 I) (.pr (.own 3 I) .un)))), false, .inl fun x => go_spec_guAll k x.1 x.2.1 x.2.2.1 x.2.2.2.1 x.2.2.2.2.1⟩
theorem go_spec_guAll_F (k : Nat) : Fits Go.Proofs.Try.prog (go_spec_guAll_C k) 94 Go.Proofs.Try.f94 (bodyOf Go.Proofs.Try.f94) (.pr (.val (.pair I (.pair I (.pair (.sl I) .unit)))) (.pr (.val (.pair I (.pair I .unit))) (.pr (.val .bool) (.pr (.val .bool) (.pr (.val .bool) .un))))) (.pr (.val I) (.pr (.val I) (.pr (.own 3 I) (.pr (.own 3 I) .un)))) false :=
  ⟨th0, mixed0, by kernel_rfl, Go.Proofs.Try.func94, rfl, by kernel_rfl, rfl, rfl, rfl, rfl, rfl, rfl⟩
theorem go_spec_guAll_M (k : Nat) : Meets Go.Proofs.Try.prog 94 (go_spec_guAll_S k) :=
  meets_pure (go_spec_guAll_F k) (sigs_all (l := [(130, go_spec_guNew_S k), (131, go_spec_guBest_look_S k)]) rfl ⟨go_spec_guNew_M k, ⟨go_spec_guBest_look_M k, trivial⟩⟩) rfl fun x => go_spec_guAll_t k x.1 x.2.1 x.2.2.1 x.2.2.2.1 x.2.2.2.2.1

/-! ### spec.FirstPeaceful -/
def go_spec_FirstPeaceful_C (k : Nat) : Ctx := { th := TH, se := SE, sg := [(93, go_spec_guFew_S k), (94, go_spec_guAll_S k)], mu := [], an := [], dr := [], pre := [], d2 := [], m := 0, fx := [], n := 14, k := k }
def go_spec_FirstPeaceful (k : Nat) (a0 : (Int × (Int × ((List Int) × Unit)))) (a1 : (Int × (Int × Unit))) : Option ((List Int) × (Bool × Unit)) :=
  (go_spec_guFew k a0 a1).bind fun r1 =>
  if (!r1) = true then
    some ([], (false, ()))
  else
    (go_spec_guAll k a0 a1 false true false).bind fun r2 =>
    some (r2.2.2.1, (true, ()))
theorem go_spec_FirstPeaceful_t (k : Nat) (a0 : (Int × (Int × ((List Int) × Unit)))) (a1 : (Int × (Int × Unit))) : runPure (go_spec_FirstPeaceful_C k) (bodyOf Go.Proofs.Try.f47) Go.Proofs.Try.f47.results.toList true (.pr (.val (.pair I (.pair I (.pair (.sl I) .unit)))) (.pr (.val (.pair I (.pair I .unit))) .un)) (.pr (.val (.sl I)) (.pr (.val .bool) .un)) (a0, a1, ()) = go_spec_FirstPeaceful k a0 a1 := by kernel_rfl
def go_spec_FirstPeaceful_S (k : Nat) : Spec := ⟨(.pr (.val (.pair I (.pair I (.pair (.sl I) .unit)))) (.pr (.val (.pair I (.pair I .unit))) .un)), (.pr (.val (.sl I)) (.pr (.val .bool) .un)), true, .inl fun x => go_spec_FirstPeaceful k x.1 x.2.1⟩
theorem go_spec_FirstPeaceful_F (k : Nat) : Fits Go.Proofs.Try.prog (go_spec_FirstPeaceful_C k) 47 Go.Proofs.Try.f47 (bodyOf Go.Proofs.Try.f47) (.pr (.val (.pair I (.pair I (.pair (.sl I) .unit)))) (.pr (.val (.pair I (.pair I .unit))) .un)) (.pr (.val (.sl I)) (.pr (.val .bool) .un)) true :=
  ⟨th0, mixed0, by kernel_rfl, Go.Proofs.Try.func47, rfl, by kernel_rfl, rfl, rfl, rfl, rfl, rfl, rfl⟩
theorem go_spec_FirstPeaceful_M (k : Nat) : Meets Go.Proofs.Try.prog 47 (go_spec_FirstPeaceful_S k) :=
  meets_pure (go_spec_FirstPeaceful_F k) (sigs_all (l := [(93, go_spec_guFew_S k), (94, go_spec_guAll_S k)]) rfl ⟨go_spec_guFew_M k, ⟨go_spec_guAll_M k, trivial⟩⟩) rfl fun x => go_spec_FirstPeaceful_t k x.1 x.2.1

/-! ### impl.tourGraph -/
def go_impl_tourGraph_C (k : Nat) : Ctx := { th := TH, se := SE, sg := [(70, go_impl_graphOf_S k)], mu := [], an := [], dr := [], pre := [], d2 := [], m := 0, fx := [], n := 28, k := k }
def go_impl_tourGraph (k : Nat) (a0 : (Int × (Int × ((List Int) × Unit)))) (a1 : (Int × (Int × Unit))) (a2 : Int) : Option ((Option ((Int × (Int × ((List Int) × Unit))) × ((Int × (Int × Unit)) × ((List Int) × ((List (List Int)) × Unit))))) × (Bool × Unit)) :=
  (go_impl_graphOf k a0 a1).bind fun r1 =>
  if (!(!(!r1.2.1)) || r1.1.isSome) = true then
  if ((!r1.2.1) || (decide (a2 < ((r1.1.getD (((0 : Int), ((0 : Int), ([], ()))), (((0 : Int), ((0 : Int), ())), ([], ([], ()))))).2.2.1.length : Int)))) = true then
    some (none, (false, ()))
  else
    some (r1.1, (true, ()))
  else none
theorem go_impl_tourGraph_t (k : Nat) (a0 : (Int × (Int × ((List Int) × Unit)))) (a1 : (Int × (Int × Unit))) (a2 : Int) : runPure (go_impl_tourGraph_C k) (bodyOf Go.Proofs.Try.f132) Go.Proofs.Try.f132.results.toList true (.pr (.val (.pair I (.pair I (.pair (.sl I) .unit)))) (.pr (.val (.pair I (.pair I .unit))) (.pr (.val I) .un))) (.pr (.val (.pt (.pair (.pair I (.pair I (.pair (.sl I) .unit))) (.pair (.pair I (.pair I .unit)) (.pair (.sl I) (.pair (.sl (.sl I)) .unit)))))) (.pr (.val .bool) .un)) (a0, a1, a2, ()) = go_impl_tourGraph k a0 a1 a2 := by kernel_rfl
def go_impl_tourGraph_S (k : Nat) : Spec := ⟨(.pr (.val (.pair I (.pair I (.pair (.sl I) .unit)))) (.pr (.val (.pair I (.pair I .unit))) (.pr (.val I) .un))), (.pr (.val (.pt (.pair (.pair I (.pair I (.pair (.sl I) .unit))) (.pair (.pair I (.pair I .unit)) (.pair (.sl I) (.pair (.sl (.sl I)) .unit)))))) (.pr (.val .bool) .un)), true, .inl fun x => go_impl_tourGraph k x.1 x.2.1 x.2.2.1⟩
theorem go_impl_tourGraph_F (k : Nat) : Fits Go.Proofs.Try.prog (go_impl_tourGraph_C k) 132 Go.Proofs.Try.f132 (bodyOf Go.Proofs.Try.f132) (.pr (.val (.pair I (.pair I (.pair (.sl I) .unit)))) (.pr (.val (.pair I (.pair I .unit))) (.pr (.val I) .un))) (.pr (.val (.pt (.pair (.pair I (.pair I (.pair (.sl I) .unit))) (.pair (.pair I (.pair I .unit)) (.pair (.sl I) (.pair (.sl (.sl I)) .unit)))))) (.pr (.val .bool) .un)) true :=
  ⟨th0, mixed0, by kernel_rfl, Go.Proofs.Try.func132, rfl, by kernel_rfl, rfl, rfl, rfl, rfl, rfl, rfl⟩
theorem go_impl_tourGraph_M (k : Nat) : Meets Go.Proofs.Try.prog 132 (go_impl_tourGraph_S k) :=
  meets_pure (go_impl_tourGraph_F k) (sigs_all (l := [(70, go_impl_graphOf_S k)]) rfl ⟨go_impl_graphOf_M k, trivial⟩) rfl fun x => go_impl_tourGraph_t k x.1 x.2.1 x.2.2.1

/-! ### (*impl.graph).leaps -/
def go_impl_graph_leaps_C (k : Nat) : Ctx := { th := TH, se := SE, sg := [(109, go_slices_Contains_int_S k)], mu := [], an := [], dr := [], pre := [], d2 := [], m := 0, fx := [], n := 16, k := k }
def go_impl_graph_leaps (k : Nat) (a0 : (Option ((Int × (Int × ((List Int) × Unit))) × ((Int × (Int × Unit)) × ((List Int) × ((List (List Int)) × Unit)))))) (a1 : Int) (a2 : Int) : Option Bool :=
  if a0.isSome = true then
  if (inb a1 (a0.getD (((0 : Int), ((0 : Int), ([], ()))), (((0 : Int), ((0 : Int), ())), ([], ([], ()))))).2.2.2.1.length) = true then
  (go_slices_Contains_int k ((a0.getD (((0 : Int), ((0 : Int), ([], ()))), (((0 : Int), ((0 : Int), ())), ([], ([], ()))))).2.2.2.1.getD a1.toNat []) a2).bind fun r1 =>
  some r1
  else none
  else none
theorem go_impl_graph_leaps_t (k : Nat) (a0 : (Option ((Int × (Int × ((List Int) × Unit))) × ((Int × (Int × Unit)) × ((List Int) × ((List (List Int)) × Unit)))))) (a1 : Int) (a2 : Int) : runPure (go_impl_graph_leaps_C k) (bodyOf Go.Proofs.Try.f110) Go.Proofs.Try.f110.results.toList false (.pr (.val (.pt (.pair (.pair I (.pair I (.pair (.sl I) .unit))) (.pair (.pair I (.pair I .unit)) (.pair (.sl I) (.pair (.sl (.sl I)) .unit)))))) (.pr (.val I) (.pr (.val I) .un))) (.val .bool) (a0, a1, a2, ()) = go_impl_graph_leaps k a0 a1 a2 := by kernel_rfl
def go_impl_graph_leaps_S (k : Nat) : Spec := ⟨(.pr (.val (.pt (.pair (.pair I (.pair I (.pair (.sl I) .unit))) (.pair (.pair I (.pair I .unit)) (.pair (.sl I) (.pair (.sl (.sl I)) .unit)))))) (.pr (.val I) (.pr (.val I) .un))), (.val .bool), false, .inl fun x => go_impl_graph_leaps k x.1 x.2.1 x.2.2.1⟩
theorem go_impl_graph_leaps_F (k : Nat) : Fits Go.Proofs.Try.prog (go_impl_graph_leaps_C k) 110 Go.Proofs.Try.f110 (bodyOf Go.Proofs.Try.f110) (.pr (.val (.pt (.pair (.pair I (.pair I (.pair (.sl I) .unit))) (.pair (.pair I (.pair I .unit)) (.pair (.sl I) (.pair (.sl (.sl I)) .unit)))))) (.pr (.val I) (.pr (.val I) .un))) (.val .bool) false :=
  ⟨th0, mixed0, by kernel_rfl, Go.Proofs.Try.func110, rfl, by kernel_rfl, rfl, rfl, rfl, rfl, rfl, rfl⟩
theorem go_impl_graph_leaps_M (k : Nat) : Meets Go.Proofs.Try.prog 110 (go_impl_graph_leaps_S k) :=
  meets_pure (go_impl_graph_leaps_F k) (sigs_all (l := [(109, go_slices_Contains_int_S k)]) rfl ⟨go_slices_Contains_int_M k, trivial⟩) rfl fun x => go_impl_graph_leaps_t k x.1 x.2.1 x.2.2.1

/-! ### (*impl.graph).masks -/
def go_impl_graph_masks_C (k : Nat) : Ctx := { th := TH, se := SE, sg := [(110, go_impl_graph_leaps_S k)], mu := [], an := [(3, [(0, false), (3, true), (12, false), (13, false), (14, false)]), (7, [(0, false), (3, false), (5, false), (6, false), (12, false), (13, false), (14, false), (21, false), (22, false), (23, false)])], dr := [], pre := [], d2 := [], m := 0, fx := [], n := 43, k := k }
def go_impl_graph_masks_L0_E (a0 : (Option ((Int × (Int × ((List Int) × Unit))) × ((Int × (Int × Unit)) × ((List Int) × ((List (List Int)) × Unit)))))) (x34 : (Int × (List Int))) : St :=
  ⟨[(0, .one (.val (.pt (.pair (.pair I (.pair I (.pair (.sl I) .unit))) (.pair (.pair I (.pair I .unit)) (.pair (.sl I) (.pair (.sl (.sl I)) .unit))))) a0), []), (3, .one (.own 0), []), (12, .one (.val (.sl I) (a0.getD (((0 : Int), ((0 : Int), ([], ()))), (((0 : Int), ((0 : Int), ())), ([], ([], ()))))).2.2.1), []), (13, .one (.val I ((a0.getD (((0 : Int), ((0 : Int), ([], ()))), (((0 : Int), ((0 : Int), ())), ([], ([], ()))))).2.2.1.length : Int)), []), (14, .one (.val I x34.1), [])], [.arr 3 I x34.2], []⟩
def go_impl_graph_masks_L1_E (a0 : (Option ((Int × (Int × ((List Int) × Unit))) × ((Int × (Int × Unit)) × ((List Int) × ((List (List Int)) × Unit)))))) (x34 : (Int × (List Int))) (x42 : (Int × Int)) : St :=
  ⟨[(0, .one (.val (.pt (.pair (.pair I (.pair I (.pair (.sl I) .unit))) (.pair (.pair I (.pair I .unit)) (.pair (.sl I) (.pair (.sl (.sl I)) .unit))))) a0), []), (3, .one (.own 0), []), (5, .one (.val I ((a0.getD (((0 : Int), ((0 : Int), ([], ()))), (((0 : Int), ((0 : Int), ())), ([], ([], ()))))).2.2.1.getD x34.1.toNat (0 : Int))), []), (6, .one (.val I x42.1), []), (12, .one (.val (.sl I) (a0.getD (((0 : Int), ((0 : Int), ([], ()))), (((0 : Int), ((0 : Int), ())), ([], ([], ()))))).2.2.1), []), (13, .one (.val I ((a0.getD (((0 : Int), ((0 : Int), ([], ()))), (((0 : Int), ((0 : Int), ())), ([], ([], ()))))).2.2.1.length : Int)), []), (14, .one (.val I x34.1), []), (21, .one (.val (.sl I) (a0.getD (((0 : Int), ((0 : Int), ([], ()))), (((0 : Int), ((0 : Int), ())), ([], ([], ()))))).2.2.1), []), (22, .one (.val I ((a0.getD (((0 : Int), ((0 : Int), ([], ()))), (((0 : Int), ((0 : Int), ())), ([], ([], ()))))).2.2.1.length : Int)), []), (23, .one (.val I x42.2), [])], [.arr 3 I x34.2], []⟩
def go_impl_graph_masks_L1_G (k : Nat) (a0 : (Option ((Int × (Int × ((List Int) × Unit))) × ((Int × (Int × Unit)) × ((List Int) × ((List (List Int)) × Unit)))))) (x34 : (Int × (List Int))) (rec35 : (Int × (List Int)) → Option (List Int)) (rec43 : (Int × Int) → Option (List Int)) (x42 : (Int × Int)) : Option (List Int) :=
  if (decide (x42.2 < ((a0.getD (((0 : Int), ((0 : Int), ([], ()))), (((0 : Int), ((0 : Int), ())), ([], ([], ()))))).2.2.1.length : Int))) = true then
    if (inb x42.2 (a0.getD (((0 : Int), ((0 : Int), ([], ()))), (((0 : Int), ((0 : Int), ())), ([], ([], ()))))).2.2.1.length) = true then
    (go_impl_graph_leaps k a0 ((a0.getD (((0 : Int), ((0 : Int), ([], ()))), (((0 : Int), ((0 : Int), ())), ([], ([], ()))))).2.2.1.getD x34.1.toNat (0 : Int)) ((a0.getD (((0 : Int), ((0 : Int), ([], ()))), (((0 : Int), ((0 : Int), ())), ([], ([], ()))))).2.2.1.getD x42.2.toNat (0 : Int))).bind fun r44 =>
    if r44 = true then
      if (decide (0 ≤ x42.2)) = true then
      rec43 ((IntKind.i64.wrap (((BitVec.ofInt (IntKind.i64.bits) x42.1 ||| BitVec.ofInt (IntKind.i64.bits) (IntKind.i64.wrap ((1 : Int) * 2 ^ (min x42.2.toNat (IntKind.i64.bits))))).toNat : Int))), (IntKind.i64.wrap (x42.2 + (1 : Int))))
      else none
    else
      rec43 (x42.1, (IntKind.i64.wrap (x42.2 + (1 : Int))))
    else none
  else
    if (decide (x34.2.length + [x42.1].length ≤ LIM)) = true then
    rec35 ((IntKind.i64.wrap (x34.1 + (1 : Int))), (x34.2 ++ [x42.1]))
    else none
def go_impl_graph_masks_L1 (k : Nat) (a0 : (Option ((Int × (Int × ((List Int) × Unit))) × ((Int × (Int × Unit)) × ((List Int) × ((List (List Int)) × Unit)))))) (rec35 : (Int × (List Int)) → Option (List Int)) (x34 : (Int × (List Int))) : (Int × Int) → Option (List Int) :=
  iter k fun rec43 x42 => go_impl_graph_masks_L1_G k a0 x34 rec35 rec43 x42
theorem go_impl_graph_masks_L1_t (k : Nat) (a0 : (Option ((Int × (Int × ((List Int) × Unit))) × ((Int × (Int × Unit)) × ((List Int) × ((List (List Int)) × Unit)))))) (s0 : St → Option (List Int)) (x34 : (Int × (List Int))) (x : (Int × Int)) :
    iter k (loopAt (go_impl_graph_masks_C k) (bodyOf Go.Proofs.Try.f148) [1, 1, 0, 1, 0, 0, 1, 1, 0, 0, 1, 1, 0, 1, 0] [s0] (finPure (go_impl_graph_masks_C k) Go.Proofs.Try.f148.results.toList false (.val (.sl I)))) (go_impl_graph_masks_L1_E a0 x34 x) = go_impl_graph_masks_L1 k a0 (fun y => s0 (go_impl_graph_masks_L0_E a0 y)) x34 x := by
  refine iter_tie (G := fun rec x => go_impl_graph_masks_L1_G k a0 x34 (fun y => s0 (go_impl_graph_masks_L0_E a0 y)) rec x) (go_impl_graph_masks_L1_E a0 x34) (fun rec x => ?_) k x
  have h : loopAt (go_impl_graph_masks_C k) (bodyOf Go.Proofs.Try.f148) [1, 1, 0, 1, 0, 0, 1, 1, 0, 0, 1, 1, 0, 1, 0] [s0] (finPure (go_impl_graph_masks_C k) Go.Proofs.Try.f148.results.toList false (.val (.sl I))) rec (go_impl_graph_masks_L1_E a0 x34 x) = go_impl_graph_masks_L1_G k a0 x34 (fun y => s0 (go_impl_graph_masks_L0_E a0 y)) (fun y => rec (go_impl_graph_masks_L1_E a0 x34 y)) x := by kernel_rfl
  rw [h]
def go_impl_graph_masks_L0_G (k : Nat) (a0 : (Option ((Int × (Int × ((List Int) × Unit))) × ((Int × (Int × Unit)) × ((List Int) × ((List (List Int)) × Unit)))))) (l_1 : (Int × (List Int)) → (Int × Int) → Option (List Int)) (rec35 : (Int × (List Int)) → Option (List Int)) (x34 : (Int × (List Int))) : Option (List Int) :=
  if (decide (x34.1 < ((a0.getD (((0 : Int), ((0 : Int), ([], ()))), (((0 : Int), ((0 : Int), ())), ([], ([], ()))))).2.2.1.length : Int))) = true then
    if (inb x34.1 (a0.getD (((0 : Int), ((0 : Int), ([], ()))), (((0 : Int), ((0 : Int), ())), ([], ([], ()))))).2.2.1.length) = true then
    if a0.isSome = true then
    l_1 x34 ((0 : Int), (0 : Int))
    else none
    else none
  else
    some x34.2
def go_impl_graph_masks_L0 (k : Nat) (a0 : (Option ((Int × (Int × ((List Int) × Unit))) × ((Int × (Int × Unit)) × ((List Int) × ((List (List Int)) × Unit)))))) : (Int × (List Int)) → Option (List Int) :=
  iter k fun rec35 x34 => go_impl_graph_masks_L0_G k a0 (fun c0 y => go_impl_graph_masks_L1 k a0 rec35 c0 y) rec35 x34
theorem go_impl_graph_masks_L0_t (k : Nat) (a0 : (Option ((Int × (Int × ((List Int) × Unit))) × ((Int × (Int × Unit)) × ((List Int) × ((List (List Int)) × Unit)))))) (x : (Int × (List Int))) :
    iter k (loopAt (go_impl_graph_masks_C k) (bodyOf Go.Proofs.Try.f148) [1, 1, 0, 1, 0] [] (finPure (go_impl_graph_masks_C k) Go.Proofs.Try.f148.results.toList false (.val (.sl I)))) (go_impl_graph_masks_L0_E a0 x) = go_impl_graph_masks_L0 k a0 x := by
  refine iter_tie (G := fun rec x => go_impl_graph_masks_L0_G k a0 (fun c0 y => go_impl_graph_masks_L1 k a0 rec c0 y) rec x) (go_impl_graph_masks_L0_E a0) (fun rec x => ?_) k x
  have h : loopAt (go_impl_graph_masks_C k) (bodyOf Go.Proofs.Try.f148) [1, 1, 0, 1, 0] [] (finPure (go_impl_graph_masks_C k) Go.Proofs.Try.f148.results.toList false (.val (.sl I))) rec (go_impl_graph_masks_L0_E a0 x) = go_impl_graph_masks_L0_G k a0 (fun c0 y => iter k (loopAt (go_impl_graph_masks_C k) (bodyOf Go.Proofs.Try.f148) [1, 1, 0, 1, 0, 0, 1, 1, 0, 0, 1, 1, 0, 1, 0] [rec] (finPure (go_impl_graph_masks_C k) Go.Proofs.Try.f148.results.toList false (.val (.sl I)))) (go_impl_graph_masks_L1_E a0 c0 y)) (fun y => rec (go_impl_graph_masks_L0_E a0 y)) x := by kernel_rfl
  have h0 : (fun c0 y => iter k (loopAt (go_impl_graph_masks_C k) (bodyOf Go.Proofs.Try.f148) [1, 1, 0, 1, 0, 0, 1, 1, 0, 0, 1, 1, 0, 1, 0] [rec] (finPure (go_impl_graph_masks_C k) Go.Proofs.Try.f148.results.toList false (.val (.sl I)))) (go_impl_graph_masks_L1_E a0 c0 y)) = (fun c0 y => go_impl_graph_masks_L1 k a0 (fun y => rec (go_impl_graph_masks_L0_E a0 y)) c0 y) := by
    funext c0 y
    exact go_impl_graph_masks_L1_t k a0 rec c0 y
  rw [h, h0]
def go_impl_graph_masks_T (k : Nat) (a0 : (Option ((Int × (Int × ((List Int) × Unit))) × ((Int × (Int × Unit)) × ((List Int) × ((List (List Int)) × Unit)))))) (l_0 : (Int × (List Int)) → Option (List Int)) : Option (List Int) :=
  if a0.isSome = true then
  l_0 ((0 : Int), [])
  else none
def go_impl_graph_masks (k : Nat) (a0 : (Option ((Int × (Int × ((List Int) × Unit))) × ((Int × (Int × Unit)) × ((List Int) × ((List (List Int)) × Unit)))))) : Option (List Int) :=
  go_impl_graph_masks_T k a0 (fun y => go_impl_graph_masks_L0 k a0 y)
theorem go_impl_graph_masks_t (k : Nat) (a0 : (Option ((Int × (Int × ((List Int) × Unit))) × ((Int × (Int × Unit)) × ((List Int) × ((List (List Int)) × Unit)))))) : runPure (go_impl_graph_masks_C k) (bodyOf Go.Proofs.Try.f148) Go.Proofs.Try.f148.results.toList false (.pr (.val (.pt (.pair (.pair I (.pair I (.pair (.sl I) .unit))) (.pair (.pair I (.pair I .unit)) (.pair (.sl I) (.pair (.sl (.sl I)) .unit)))))) .un) (.val (.sl I)) (a0, ()) = go_impl_graph_masks k a0 := by
  have h : runPure (go_impl_graph_masks_C k) (bodyOf Go.Proofs.Try.f148) Go.Proofs.Try.f148.results.toList false (.pr (.val (.pt (.pair (.pair I (.pair I (.pair (.sl I) .unit))) (.pair (.pair I (.pair I .unit)) (.pair (.sl I) (.pair (.sl (.sl I)) .unit)))))) .un) (.val (.sl I)) (a0, ()) = go_impl_graph_masks_T k a0 (fun y => iter k (loopAt (go_impl_graph_masks_C k) (bodyOf Go.Proofs.Try.f148) [1, 1, 0, 1, 0] [] (finPure (go_impl_graph_masks_C k) Go.Proofs.Try.f148.results.toList false (.val (.sl I)))) (go_impl_graph_masks_L0_E a0 y)) := by kernel_rfl
  have h0 : (fun y => iter k (loopAt (go_impl_graph_masks_C k) (bodyOf Go.Proofs.Try.f148) [1, 1, 0, 1, 0] [] (finPure (go_impl_graph_masks_C k) Go.Proofs.Try.f148.results.toList false (.val (.sl I)))) (go_impl_graph_masks_L0_E a0 y)) = (fun y => go_impl_graph_masks_L0 k a0 y) := by
    funext y
    exact go_impl_graph_masks_L0_t k a0 y
  rw [h, h0]
  rfl
def go_impl_graph_masks_S (k : Nat) : Spec := ⟨(.pr (.val (.pt (.pair (.pair I (.pair I (.pair (.sl I) .unit))) (.pair (.pair I (.pair I .unit)) (.pair (.sl I) (.pair (.sl (.sl I)) .unit)))))) .un), (.val (.sl I)), false, .inl fun x => go_impl_graph_masks k x.1⟩
theorem go_impl_graph_masks_F (k : Nat) : Fits Go.Proofs.Try.prog (go_impl_graph_masks_C k) 148 Go.Proofs.Try.f148 (bodyOf Go.Proofs.Try.f148) (.pr (.val (.pt (.pair (.pair I (.pair I (.pair (.sl I) .unit))) (.pair (.pair I (.pair I .unit)) (.pair (.sl I) (.pair (.sl (.sl I)) .unit)))))) .un) (.val (.sl I)) false :=
  ⟨th0, mixed0, by kernel_rfl, Go.Proofs.Try.func148, rfl, by kernel_rfl, rfl, rfl, rfl, rfl, rfl, rfl⟩
theorem go_impl_graph_masks_M (k : Nat) : Meets Go.Proofs.Try.prog 148 (go_impl_graph_masks_S k) :=
  meets_pure (go_impl_graph_masks_F k) (sigs_all (l := [(110, go_impl_graph_leaps_S k)]) rfl ⟨go_impl_graph_leaps_M k, trivial⟩) rfl fun x => go_impl_graph_masks_t k x.1

/-! ### math/bits.OnesCount32 -/
def go_math_bits_OnesCount32_C (k : Nat) : Ctx := { th := TH, se := SE, sg := [], mu := [], an := [], dr := [(1, 16)], pre := [], d2 := [], m := 0, fx := [], n := 21, k := k }
def go_math_bits_OnesCount32 (k : Nat) (a0 : Int) : Option Int :=
  if (inb (Int.fdiv a0 (2 ^ (min (24 : Int).toNat (IntKind.u32.bits)))) str_00_01_01_02_01_02_02_03_01_02_02_03_256.size) = true then
  if (inb (IntKind.u32.wrap (((BitVec.ofInt (IntKind.u32.bits) (Int.fdiv a0 (2 ^ (min (16 : Int).toNat (IntKind.u32.bits)))) &&& BitVec.ofInt (IntKind.u32.bits) (255 : Int)).toNat : Int))) str_00_01_01_02_01_02_02_03_01_02_02_03_256.size) = true then
  if (inb (IntKind.u32.wrap (((BitVec.ofInt (IntKind.u32.bits) (Int.fdiv a0 (2 ^ (min (8 : Int).toNat (IntKind.u32.bits)))) &&& BitVec.ofInt (IntKind.u32.bits) (255 : Int)).toNat : Int))) str_00_01_01_02_01_02_02_03_01_02_02_03_256.size) = true then
  if (inb (IntKind.u32.wrap (((BitVec.ofInt (IntKind.u32.bits) a0 &&& BitVec.ofInt (IntKind.u32.bits) (255 : Int)).toNat : Int))) str_00_01_01_02_01_02_02_03_01_02_02_03_256.size) = true then
  some (IntKind.i64.wrap ((IntKind.u8.wrap ((IntKind.u8.wrap ((IntKind.u8.wrap (((str_00_01_01_02_01_02_02_03_01_02_02_03_256[(Int.fdiv a0 (2 ^ (min (24 : Int).toNat (IntKind.u32.bits)))).toNat]?.getD 0).toNat : Int) + ((str_00_01_01_02_01_02_02_03_01_02_02_03_256[(IntKind.u32.wrap (((BitVec.ofInt (IntKind.u32.bits) (Int.fdiv a0 (2 ^ (min (16 : Int).toNat (IntKind.u32.bits)))) &&& BitVec.ofInt (IntKind.u32.bits) (255 : Int)).toNat : Int))).toNat]?.getD 0).toNat : Int))) + ((str_00_01_01_02_01_02_02_03_01_02_02_03_256[(IntKind.u32.wrap (((BitVec.ofInt (IntKind.u32.bits) (Int.fdiv a0 (2 ^ (min (8 : Int).toNat (IntKind.u32.bits)))) &&& BitVec.ofInt (IntKind.u32.bits) (255 : Int)).toNat : Int))).toNat]?.getD 0).toNat : Int))) + ((str_00_01_01_02_01_02_02_03_01_02_02_03_256[(IntKind.u32.wrap (((BitVec.ofInt (IntKind.u32.bits) a0 &&& BitVec.ofInt (IntKind.u32.bits) (255 : Int)).toNat : Int))).toNat]?.getD 0).toNat : Int)))))
  else none
  else none
  else none
  else none
theorem go_math_bits_OnesCount32_t (k : Nat) (a0 : Int) : runPure (go_math_bits_OnesCount32_C k) (bodyOf Go.Proofs.Try.f163) Go.Proofs.Try.f163.results.toList false (.pr (.val (.int .u32)) .un) (.val I) (a0, ()) = go_math_bits_OnesCount32 k a0 := by kernel_rfl
def go_math_bits_OnesCount32_S (k : Nat) : Spec := ⟨(.pr (.val (.int .u32)) .un), (.val I), false, .inl fun x => go_math_bits_OnesCount32 k x.1⟩
theorem go_math_bits_OnesCount32_F (k : Nat) : Fits Go.Proofs.Try.prog (go_math_bits_OnesCount32_C k) 163 Go.Proofs.Try.f163 (bodyOf Go.Proofs.Try.f163) (.pr (.val (.int .u32)) .un) (.val I) false :=
  ⟨th0, mixed0, by kernel_rfl, Go.Proofs.Try.func163, rfl, by kernel_rfl, rfl, rfl, rfl, rfl, rfl, rfl⟩
theorem go_math_bits_OnesCount32_M (k : Nat) : Meets Go.Proofs.Try.prog 163 (go_math_bits_OnesCount32_S k) :=
  meets_pure (go_math_bits_OnesCount32_F k) (sigs_all (l := []) rfl trivial) rfl fun x => go_math_bits_OnesCount32_t k x.1

/-! ### math/bits.OnesCount64 -/
def go_math_bits_OnesCount64_C (k : Nat) : Ctx := { th := TH, se := SE, sg := [], mu := [], an := [], dr := [], pre := [], d2 := [], m := 0, fx := [], n := 35, k := k }
def go_math_bits_OnesCount64 (k : Nat) (a0 : Int) : Option Int :=
  some (IntKind.i64.wrap (((BitVec.ofInt (IntKind.i64.bits) (IntKind.i64.wrap ((IntKind.u64.wrap ((IntKind.u64.wrap ((IntKind.u64.wrap ((IntKind.u64.wrap (((BitVec.ofInt (IntKind.u64.bits) (IntKind.u64.wrap ((Int.fdiv (IntKind.u64.wrap ((IntKind.u64.wrap (((BitVec.ofInt (IntKind.u64.bits) (Int.fdiv (IntKind.u64.wrap ((IntKind.u64.wrap (((BitVec.ofInt (IntKind.u64.bits) (Int.fdiv a0 (2 ^ (min (1 : Int).toNat (IntKind.u64.bits)))) &&& BitVec.ofInt (IntKind.u64.bits) (6148914691236517205 : Int)).toNat : Int))) + (IntKind.u64.wrap (((BitVec.ofInt (IntKind.u64.bits) a0 &&& BitVec.ofInt (IntKind.u64.bits) (6148914691236517205 : Int)).toNat : Int))))) (2 ^ (min (2 : Int).toNat (IntKind.u64.bits)))) &&& BitVec.ofInt (IntKind.u64.bits) (3689348814741910323 : Int)).toNat : Int))) + (IntKind.u64.wrap (((BitVec.ofInt (IntKind.u64.bits) (IntKind.u64.wrap ((IntKind.u64.wrap (((BitVec.ofInt (IntKind.u64.bits) (Int.fdiv a0 (2 ^ (min (1 : Int).toNat (IntKind.u64.bits)))) &&& BitVec.ofInt (IntKind.u64.bits) (6148914691236517205 : Int)).toNat : Int))) + (IntKind.u64.wrap (((BitVec.ofInt (IntKind.u64.bits) a0 &&& BitVec.ofInt (IntKind.u64.bits) (6148914691236517205 : Int)).toNat : Int))))) &&& BitVec.ofInt (IntKind.u64.bits) (3689348814741910323 : Int)).toNat : Int))))) (2 ^ (min (4 : Int).toNat (IntKind.u64.bits)))) + (IntKind.u64.wrap ((IntKind.u64.wrap (((BitVec.ofInt (IntKind.u64.bits) (Int.fdiv (IntKind.u64.wrap ((IntKind.u64.wrap (((BitVec.ofInt (IntKind.u64.bits) (Int.fdiv a0 (2 ^ (min (1 : Int).toNat (IntKind.u64.bits)))) &&& BitVec.ofInt (IntKind.u64.bits) (6148914691236517205 : Int)).toNat : Int))) + (IntKind.u64.wrap (((BitVec.ofInt (IntKind.u64.bits) a0 &&& BitVec.ofInt (IntKind.u64.bits) (6148914691236517205 : Int)).toNat : Int))))) (2 ^ (min (2 : Int).toNat (IntKind.u64.bits)))) &&& BitVec.ofInt (IntKind.u64.bits) (3689348814741910323 : Int)).toNat : Int))) + (IntKind.u64.wrap (((BitVec.ofInt (IntKind.u64.bits) (IntKind.u64.wrap ((IntKind.u64.wrap (((BitVec.ofInt (IntKind.u64.bits) (Int.fdiv a0 (2 ^ (min (1 : Int).toNat (IntKind.u64.bits)))) &&& BitVec.ofInt (IntKind.u64.bits) (6148914691236517205 : Int)).toNat : Int))) + (IntKind.u64.wrap (((BitVec.ofInt (IntKind.u64.bits) a0 &&& BitVec.ofInt (IntKind.u64.bits) (6148914691236517205 : Int)).toNat : Int))))) &&& BitVec.ofInt (IntKind.u64.bits) (3689348814741910323 : Int)).toNat : Int))))))) &&& BitVec.ofInt (IntKind.u64.bits) (1085102592571150095 : Int)).toNat : Int))) + (Int.fdiv (IntKind.u64.wrap (((BitVec.ofInt (IntKind.u64.bits) (IntKind.u64.wrap ((Int.fdiv (IntKind.u64.wrap ((IntKind.u64.wrap (((BitVec.ofInt (IntKind.u64.bits) (Int.fdiv (IntKind.u64.wrap ((IntKind.u64.wrap (((BitVec.ofInt (IntKind.u64.bits) (Int.fdiv a0 (2 ^ (min (1 : Int).toNat (IntKind.u64.bits)))) &&& BitVec.ofInt (IntKind.u64.bits) (6148914691236517205 : Int)).toNat : Int))) + (IntKind.u64.wrap (((BitVec.ofInt (IntKind.u64.bits) a0 &&& BitVec.ofInt (IntKind.u64.bits) (6148914691236517205 : Int)).toNat : Int))))) (2 ^ (min (2 : Int).toNat (IntKind.u64.bits)))) &&& BitVec.ofInt (IntKind.u64.bits) (3689348814741910323 : Int)).toNat : Int))) + (IntKind.u64.wrap (((BitVec.ofInt (IntKind.u64.bits) (IntKind.u64.wrap ((IntKind.u64.wrap (((BitVec.ofInt (IntKind.u64.bits) (Int.fdiv a0 (2 ^ (min (1 : Int).toNat (IntKind.u64.bits)))) &&& BitVec.ofInt (IntKind.u64.bits) (6148914691236517205 : Int)).toNat : Int))) + (IntKind.u64.wrap (((BitVec.ofInt (IntKind.u64.bits) a0 &&& BitVec.ofInt (IntKind.u64.bits) (6148914691236517205 : Int)).toNat : Int))))) &&& BitVec.ofInt (IntKind.u64.bits) (3689348814741910323 : Int)).toNat : Int))))) (2 ^ (min (4 : Int).toNat (IntKind.u64.bits)))) + (IntKind.u64.wrap ((IntKind.u64.wrap (((BitVec.ofInt (IntKind.u64.bits) (Int.fdiv (IntKind.u64.wrap ((IntKind.u64.wrap (((BitVec.ofInt (IntKind.u64.bits) (Int.fdiv a0 (2 ^ (min (1 : Int).toNat (IntKind.u64.bits)))) &&& BitVec.ofInt (IntKind.u64.bits) (6148914691236517205 : Int)).toNat : Int))) + (IntKind.u64.wrap (((BitVec.ofInt (IntKind.u64.bits) a0 &&& BitVec.ofInt (IntKind.u64.bits) (6148914691236517205 : Int)).toNat : Int))))) (2 ^ (min (2 : Int).toNat (IntKind.u64.bits)))) &&& BitVec.ofInt (IntKind.u64.bits) (3689348814741910323 : Int)).toNat : Int))) + (IntKind.u64.wrap (((BitVec.ofInt (IntKind.u64.bits) (IntKind.u64.wrap ((IntKind.u64.wrap (((BitVec.ofInt (IntKind.u64.bits) (Int.fdiv a0 (2 ^ (min (1 : Int).toNat (IntKind.u64.bits)))) &&& BitVec.ofInt (IntKind.u64.bits) (6148914691236517205 : Int)).toNat : Int))) + (IntKind.u64.wrap (((BitVec.ofInt (IntKind.u64.bits) a0 &&& BitVec.ofInt (IntKind.u64.bits) (6148914691236517205 : Int)).toNat : Int))))) &&& BitVec.ofInt (IntKind.u64.bits) (3689348814741910323 : Int)).toNat : Int))))))) &&& BitVec.ofInt (IntKind.u64.bits) (1085102592571150095 : Int)).toNat : Int))) (2 ^ (min (8 : Int).toNat (IntKind.u64.bits)))))) + (Int.fdiv (IntKind.u64.wrap ((IntKind.u64.wrap (((BitVec.ofInt (IntKind.u64.bits) (IntKind.u64.wrap ((Int.fdiv (IntKind.u64.wrap ((IntKind.u64.wrap (((BitVec.ofInt (IntKind.u64.bits) (Int.fdiv (IntKind.u64.wrap ((IntKind.u64.wrap (((BitVec.ofInt (IntKind.u64.bits) (Int.fdiv a0 (2 ^ (min (1 : Int).toNat (IntKind.u64.bits)))) &&& BitVec.ofInt (IntKind.u64.bits) (6148914691236517205 : Int)).toNat : Int))) + (IntKind.u64.wrap (((BitVec.ofInt (IntKind.u64.bits) a0 &&& BitVec.ofInt (IntKind.u64.bits) (6148914691236517205 : Int)).toNat : Int))))) (2 ^ (min (2 : Int).toNat (IntKind.u64.bits)))) &&& BitVec.ofInt (IntKind.u64.bits) (3689348814741910323 : Int)).toNat : Int))) + (IntKind.u64.wrap (((BitVec.ofInt (IntKind.u64.bits) (IntKind.u64.wrap ((IntKind.u64.wrap (((BitVec.ofInt (IntKind.u64.bits) (Int.fdiv a0 (2 ^ (min (1 : Int).toNat (IntKind.u64.bits)))) &&& BitVec.ofInt (IntKind.u64.bits) (6148914691236517205 : Int)).toNat : Int))) + (IntKind.u64.wrap (((BitVec.ofInt (IntKind.u64.bits) a0 &&& BitVec.ofInt (IntKind.u64.bits) (6148914691236517205 : Int)).toNat : Int))))) &&& BitVec.ofInt (IntKind.u64.bits) (3689348814741910323 : Int)).toNat : Int))))) (2 ^ (min (4 : Int).toNat (IntKind.u64.bits)))) + (IntKind.u64.wrap ((IntKind.u64.wrap (((BitVec.ofInt (IntKind.u64.bits) (Int.fdiv (IntKind.u64.wrap ((IntKind.u64.wrap (((BitVec.ofInt (IntKind.u64.bits) (Int.fdiv a0 (2 ^ (min (1 : Int).toNat (IntKind.u64.bits)))) &&& BitVec.ofInt (IntKind.u64.bits) (6148914691236517205 : Int)).toNat : Int))) + (IntKind.u64.wrap (((BitVec.ofInt (IntKind.u64.bits) a0 &&& BitVec.ofInt (IntKind.u64.bits) (6148914691236517205 : Int)).toNat : Int))))) (2 ^ (min (2 : Int).toNat (IntKind.u64.bits)))) &&& BitVec.ofInt (IntKind.u64.bits) (3689348814741910323 : Int)).toNat : Int))) + (IntKind.u64.wrap (((BitVec.ofInt (IntKind.u64.bits) (IntKind.u64.wrap ((IntKind.u64.wrap (((BitVec.ofInt (IntKind.u64.bits) (Int.fdiv a0 (2 ^ (min (1 : Int).toNat (IntKind.u64.bits)))) &&& BitVec.ofInt (IntKind.u64.bits) (6148914691236517205 : Int)).toNat : Int))) + (IntKind.u64.wrap (((BitVec.ofInt (IntKind.u64.bits) a0 &&& BitVec.ofInt (IntKind.u64.bits) (6148914691236517205 : Int)).toNat : Int))))) &&& BitVec.ofInt (IntKind.u64.bits) (3689348814741910323 : Int)).toNat : Int))))))) &&& BitVec.ofInt (IntKind.u64.bits) (1085102592571150095 : Int)).toNat : Int))) + (Int.fdiv (IntKind.u64.wrap (((BitVec.ofInt (IntKind.u64.bits) (IntKind.u64.wrap ((Int.fdiv (IntKind.u64.wrap ((IntKind.u64.wrap (((BitVec.ofInt (IntKind.u64.bits) (Int.fdiv (IntKind.u64.wrap ((IntKind.u64.wrap (((BitVec.ofInt (IntKind.u64.bits) (Int.fdiv a0 (2 ^ (min (1 : Int).toNat (IntKind.u64.bits)))) &&& BitVec.ofInt (IntKind.u64.bits) (6148914691236517205 : Int)).toNat : Int))) + (IntKind.u64.wrap (((BitVec.ofInt (IntKind.u64.bits) a0 &&& BitVec.ofInt (IntKind.u64.bits) (6148914691236517205 : Int)).toNat : Int))))) (2 ^ (min (2 : Int).toNat (IntKind.u64.bits)))) &&& BitVec.ofInt (IntKind.u64.bits) (3689348814741910323 : Int)).toNat : Int))) + (IntKind.u64.wrap (((BitVec.ofInt (IntKind.u64.bits) (IntKind.u64.wrap ((IntKind.u64.wrap (((BitVec.ofInt (IntKind.u64.bits) (Int.fdiv a0 (2 ^ (min (1 : Int).toNat (IntKind.u64.bits)))) &&& BitVec.ofInt (IntKind.u64.bits) (6148914691236517205 : Int)).toNat : Int))) + (IntKind.u64.wrap (((BitVec.ofInt (IntKind.u64.bits) a0 &&& BitVec.ofInt (IntKind.u64.bits) (6148914691236517205 : Int)).toNat : Int))))) &&& BitVec.ofInt (IntKind.u64.bits) (3689348814741910323 : Int)).toNat : Int))))) (2 ^ (min (4 : Int).toNat (IntKind.u64.bits)))) + (IntKind.u64.wrap ((IntKind.u64.wrap (((BitVec.ofInt (IntKind.u64.bits) (Int.fdiv (IntKind.u64.wrap ((IntKind.u64.wrap (((BitVec.ofInt (IntKind.u64.bits) (Int.fdiv a0 (2 ^ (min (1 : Int).toNat (IntKind.u64.bits)))) &&& BitVec.ofInt (IntKind.u64.bits) (6148914691236517205 : Int)).toNat : Int))) + (IntKind.u64.wrap (((BitVec.ofInt (IntKind.u64.bits) a0 &&& BitVec.ofInt (IntKind.u64.bits) (6148914691236517205 : Int)).toNat : Int))))) (2 ^ (min (2 : Int).toNat (IntKind.u64.bits)))) &&& BitVec.ofInt (IntKind.u64.bits) (3689348814741910323 : Int)).toNat : Int))) + (IntKind.u64.wrap (((BitVec.ofInt (IntKind.u64.bits) (IntKind.u64.wrap ((IntKind.u64.wrap (((BitVec.ofInt (IntKind.u64.bits) (Int.fdiv a0 (2 ^ (min (1 : Int).toNat (IntKind.u64.bits)))) &&& BitVec.ofInt (IntKind.u64.bits) (6148914691236517205 : Int)).toNat : Int))) + (IntKind.u64.wrap (((BitVec.ofInt (IntKind.u64.bits) a0 &&& BitVec.ofInt (IntKind.u64.bits) (6148914691236517205 : Int)).toNat : Int))))) &&& BitVec.ofInt (IntKind.u64.bits) (3689348814741910323 : Int)).toNat : Int))))))) &&& BitVec.ofInt (IntKind.u64.bits) (1085102592571150095 : Int)).toNat : Int))) (2 ^ (min (8 : Int).toNat (IntKind.u64.bits)))))) (2 ^ (min (16 : Int).toNat (IntKind.u64.bits)))))) + (Int.fdiv (IntKind.u64.wrap ((IntKind.u64.wrap ((IntKind.u64.wrap (((BitVec.ofInt (IntKind.u64.bits) (IntKind.u64.wrap ((Int.fdiv (IntKind.u64.wrap ((IntKind.u64.wrap (((BitVec.ofInt (IntKind.u64.bits) (Int.fdiv (IntKind.u64.wrap ((IntKind.u64.wrap (((BitVec.ofInt (IntKind.u64.bits) (Int.fdiv a0 (2 ^ (min (1 : Int).toNat (IntKind.u64.bits)))) &&& BitVec.ofInt (IntKind.u64.bits) (6148914691236517205 : Int)).toNat : Int))) + (IntKind.u64.wrap (((BitVec.ofInt (IntKind.u64.bits) a0 &&& BitVec.ofInt (IntKind.u64.bits) (6148914691236517205 : Int)).toNat : Int))))) (2 ^ (min (2 : Int).toNat (IntKind.u64.bits)))) &&& BitVec.ofInt (IntKind.u64.bits) (3689348814741910323 : Int)).toNat : Int))) + (IntKind.u64.wrap (((BitVec.ofInt (IntKind.u64.bits) (IntKind.u64.wrap ((IntKind.u64.wrap (((BitVec.ofInt (IntKind.u64.bits) (Int.fdiv a0 (2 ^ (min (1 : Int).toNat (IntKind.u64.bits)))) &&& BitVec.ofInt (IntKind.u64.bits) (6148914691236517205 : Int)).toNat : Int))) + (IntKind.u64.wrap (((BitVec.ofInt (IntKind.u64.bits) a0 &&& BitVec.ofInt (IntKind.u64.bits) (6148914691236517205 : Int)).toNat : Int))))) &&& BitVec.ofInt (IntKind.u64.bits) (3689348814741910323 : Int)).toNat : Int))))) (2 ^ (min (4 : Int).toNat (IntKind.u64.bits)))) + (IntKind.u64.wrap ((IntKind.u64.wrap (((BitVec.ofInt (IntKind.u64.bits) (Int.fdiv (IntKind.u64.wrap ((IntKind.u64.wrap (((BitVec.ofInt (IntKind.u64.bits) (Int.fdiv a0 (2 ^ (min (1 : Int).toNat (IntKind.u64.bits)))) &&& BitVec.ofInt (IntKind.u64.bits) (6148914691236517205 : Int)).toNat : Int))) + (IntKind.u64.wrap (((BitVec.ofInt (IntKind.u64.bits) a0 &&& BitVec.ofInt (IntKind.u64.bits) (6148914691236517205 : Int)).toNat : Int))))) (2 ^ (min (2 : Int).toNat (IntKind.u64.bits)))) &&& BitVec.ofInt (IntKind.u64.bits) (3689348814741910323 : Int)).toNat : Int))) + (IntKind.u64.wrap (((BitVec.ofInt (IntKind.u64.bits) (IntKind.u64.wrap ((IntKind.u64.wrap (((BitVec.ofInt (IntKind.u64.bits) (Int.fdiv a0 (2 ^ (min (1 : Int).toNat (IntKind.u64.bits)))) &&& BitVec.ofInt (IntKind.u64.bits) (6148914691236517205 : Int)).toNat : Int))) + (IntKind.u64.wrap (((BitVec.ofInt (IntKind.u64.bits) a0 &&& BitVec.ofInt (IntKind.u64.bits) (6148914691236517205 : Int)).toNat : Int))))) &&& BitVec.ofInt (IntKind.u64.bits) (3689348814741910323 : Int)).toNat : Int))))))) &&& BitVec.ofInt (IntKind.u64.bits) (1085102592571150095 : Int)).toNat : Int))) + (Int.fdiv (IntKind.u64.wrap (((BitVec.ofInt (IntKind.u64.bits) (IntKind.u64.wrap ((Int.fdiv (IntKind.u64.wrap ((IntKind.u64.wrap (((BitVec.ofInt (IntKind.u64.bits) (Int.fdiv (IntKind.u64.wrap ((IntKind.u64.wrap (((BitVec.ofInt (IntKind.u64.bits) (Int.fdiv a0 (2 ^ (min (1 : Int).toNat (IntKind.u64.bits)))) &&& BitVec.ofInt (IntKind.u64.bits) (6148914691236517205 : Int)).toNat : Int))) + (IntKind.u64.wrap (((BitVec.ofInt (IntKind.u64.bits) a0 &&& BitVec.ofInt (IntKind.u64.bits) (6148914691236517205 : Int)).toNat : Int))))) (2 ^ (min (2 : Int).toNat (IntKind.u64.bits)))) &&& BitVec.ofInt (IntKind.u64.bits) (3689348814741910323 : Int)).toNat : Int))) + (IntKind.u64.wrap (((BitVec.ofInt (IntKind.u64.bits) (IntKind.u64.wrap ((IntKind.u64.wrap (((BitVec.ofInt (IntKind.u64.bits) (Int.fdiv a0 (2 ^ (min (1 : Int).toNat (IntKind.u64.bits)))) &&& BitVec.ofInt (IntKind.u64.bits) (6148914691236517205 : Int)).toNat : Int))) + (IntKind.u64.wrap (((BitVec.ofInt (IntKind.u64.bits) a0 &&& BitVec.ofInt (IntKind.u64.bits) (6148914691236517205 : Int)).toNat : Int))))) &&& BitVec.ofInt (IntKind.u64.bits) (3689348814741910323 : Int)).toNat : Int))))) (2 ^ (min (4 : Int).toNat (IntKind.u64.bits)))) + (IntKind.u64.wrap ((IntKind.u64.wrap (((BitVec.ofInt (IntKind.u64.bits) (Int.fdiv (IntKind.u64.wrap ((IntKind.u64.wrap (((BitVec.ofInt (IntKind.u64.bits) (Int.fdiv a0 (2 ^ (min (1 : Int).toNat (IntKind.u64.bits)))) &&& BitVec.ofInt (IntKind.u64.bits) (6148914691236517205 : Int)).toNat : Int))) + (IntKind.u64.wrap (((BitVec.ofInt (IntKind.u64.bits) a0 &&& BitVec.ofInt (IntKind.u64.bits) (6148914691236517205 : Int)).toNat : Int))))) (2 ^ (min (2 : Int).toNat (IntKind.u64.bits)))) &&& BitVec.ofInt (IntKind.u64.bits) (3689348814741910323 : Int)).toNat : Int))) + (IntKind.u64.wrap (((BitVec.ofInt (IntKind.u64.bits) (IntKind.u64.wrap ((IntKind.u64.wrap (((BitVec.ofInt (IntKind.u64.bits) (Int.fdiv a0 (2 ^ (min (1 : Int).toNat (IntKind.u64.bits)))) &&& BitVec.ofInt (IntKind.u64.bits) (6148914691236517205 : Int)).toNat : Int))) + (IntKind.u64.wrap (((BitVec.ofInt (IntKind.u64.bits) a0 &&& BitVec.ofInt (IntKind.u64.bits) (6148914691236517205 : Int)).toNat : Int))))) &&& BitVec.ofInt (IntKind.u64.bits) (3689348814741910323 : Int)).toNat : Int))))))) &&& BitVec.ofInt (IntKind.u64.bits) (1085102592571150095 : Int)).toNat : Int))) (2 ^ (min (8 : Int).toNat (IntKind.u64.bits)))))) + (Int.fdiv (IntKind.u64.wrap ((IntKind.u64.wrap (((BitVec.ofInt (IntKind.u64.bits) (IntKind.u64.wrap ((Int.fdiv (IntKind.u64.wrap ((IntKind.u64.wrap (((BitVec.ofInt (IntKind.u64.bits) (Int.fdiv (IntKind.u64.wrap ((IntKind.u64.wrap (((BitVec.ofInt (IntKind.u64.bits) (Int.fdiv a0 (2 ^ (min (1 : Int).toNat (IntKind.u64.bits)))) &&& BitVec.ofInt (IntKind.u64.bits) (6148914691236517205 : Int)).toNat : Int))) + (IntKind.u64.wrap (((BitVec.ofInt (IntKind.u64.bits) a0 &&& BitVec.ofInt (IntKind.u64.bits) (6148914691236517205 : Int)).toNat : Int))))) (2 ^ (min (2 : Int).toNat (IntKind.u64.bits)))) &&& BitVec.ofInt (IntKind.u64.bits) (3689348814741910323 : Int)).toNat : Int))) + (IntKind.u64.wrap (((BitVec.ofInt (IntKind.u64.bits) (IntKind.u64.wrap ((IntKind.u64.wrap (((BitVec.ofInt (IntKind.u64.bits) (Int.fdiv a0 (2 ^ (min (1 : Int).toNat (IntKind.u64.bits)))) &&& BitVec.ofInt (IntKind.u64.bits) (6148914691236517205 : Int)).toNat : Int))) + (IntKind.u64.wrap (((BitVec.ofInt (IntKind.u64.bits) a0 &&& BitVec.ofInt (IntKind.u64.bits) (6148914691236517205 : Int)).toNat : Int))))) &&& BitVec.ofInt (IntKind.u64.bits) (3689348814741910323 : Int)).toNat : Int))))) (2 ^ (min (4 : Int).toNat (IntKind.u64.bits)))) + (IntKind.u64.wrap ((IntKind.u64.wrap (((BitVec.ofInt (IntKind.u64.bits) (Int.fdiv (IntKind.u64.wrap ((IntKind.u64.wrap (((BitVec.ofInt (IntKind.u64.bits) (Int.fdiv a0 (2 ^ (min (1 : Int).toNat (IntKind.u64.bits)))) &&& BitVec.ofInt (IntKind.u64.bits) (6148914691236517205 : Int)).toNat : Int))) + (IntKind.u64.wrap (((BitVec.ofInt (IntKind.u64.bits) a0 &&& BitVec.ofInt (IntKind.u64.bits) (6148914691236517205 : Int)).toNat : Int))))) (2 ^ (min (2 : Int).toNat (IntKind.u64.bits)))) &&& BitVec.ofInt (IntKind.u64.bits) (3689348814741910323 : Int)).toNat : Int))) + (IntKind.u64.wrap (((BitVec.ofInt (IntKind.u64.bits) (IntKind.u64.wrap ((IntKind.u64.wrap (((BitVec.ofInt (IntKind.u64.bits) (Int.fdiv a0 (2 ^ (min (1 : Int).toNat (IntKind.u64.bits)))) &&& BitVec.ofInt (IntKind.u64.bits) (6148914691236517205 : Int)).toNat : Int))) + (IntKind.u64.wrap (((BitVec.ofInt (IntKind.u64.bits) a0 &&& BitVec.ofInt (IntKind.u64.bits) (6148914691236517205 : Int)).toNat : Int))))) &&& BitVec.ofInt (IntKind.u64.bits) (3689348814741910323 : Int)).toNat : Int))))))) &&& BitVec.ofInt (IntKind.u64.bits) (1085102592571150095 : Int)).toNat : Int))) + (Int.fdiv (IntKind.u64.wrap (((BitVec.ofInt (IntKind.u64.bits) (IntKind.u64.wrap ((Int.fdiv (IntKind.u64.wrap ((IntKind.u64.wrap (((BitVec.ofInt (IntKind.u64.bits) (Int.fdiv (IntKind.u64.wrap ((IntKind.u64.wrap (((BitVec.ofInt (IntKind.u64.bits) (Int.fdiv a0 (2 ^ (min (1 : Int).toNat (IntKind.u64.bits)))) &&& BitVec.ofInt (IntKind.u64.bits) (6148914691236517205 : Int)).toNat : Int))) + (IntKind.u64.wrap (((BitVec.ofInt (IntKind.u64.bits) a0 &&& BitVec.ofInt (IntKind.u64.bits) (6148914691236517205 : Int)).toNat : Int))))) (2 ^ (min (2 : Int).toNat (IntKind.u64.bits)))) &&& BitVec.ofInt (IntKind.u64.bits) (3689348814741910323 : Int)).toNat : Int))) + (IntKind.u64.wrap (((BitVec.ofInt (IntKind.u64.bits) (IntKind.u64.wrap ((IntKind.u64.wrap (((BitVec.ofInt (IntKind.u64.bits) (Int.fdiv a0 (2 ^ (min (1 : Int).toNat (IntKind.u64.bits)))) &&& BitVec.ofInt (IntKind.u64.bits) (6148914691236517205 : Int)).toNat : Int))) + (IntKind.u64.wrap (((BitVec.ofInt (IntKind.u64.bits) a0 &&& BitVec.ofInt (IntKind.u64.bits) (6148914691236517205 : Int)).toNat : Int))))) &&& BitVec.ofInt (IntKind.u64.bits) (3689348814741910323 : Int)).toNat : Int))))) (2 ^ (min (4 : Int).toNat (IntKind.u64.bits)))) + (IntKind.u64.wrap ((IntKind.u64.wrap (((BitVec.ofInt (IntKind.u64.bits) (Int.fdiv (IntKind.u64.wrap ((IntKind.u64.wrap (((BitVec.ofInt (IntKind.u64.bits) (Int.fdiv a0 (2 ^ (min (1 : Int).toNat (IntKind.u64.bits)))) &&& BitVec.ofInt (IntKind.u64.bits) (6148914691236517205 : Int)).toNat : Int))) + (IntKind.u64.wrap (((BitVec.ofInt (IntKind.u64.bits) a0 &&& BitVec.ofInt (IntKind.u64.bits) (6148914691236517205 : Int)).toNat : Int))))) (2 ^ (min (2 : Int).toNat (IntKind.u64.bits)))) &&& BitVec.ofInt (IntKind.u64.bits) (3689348814741910323 : Int)).toNat : Int))) + (IntKind.u64.wrap (((BitVec.ofInt (IntKind.u64.bits) (IntKind.u64.wrap ((IntKind.u64.wrap (((BitVec.ofInt (IntKind.u64.bits) (Int.fdiv a0 (2 ^ (min (1 : Int).toNat (IntKind.u64.bits)))) &&& BitVec.ofInt (IntKind.u64.bits) (6148914691236517205 : Int)).toNat : Int))) + (IntKind.u64.wrap (((BitVec.ofInt (IntKind.u64.bits) a0 &&& BitVec.ofInt (IntKind.u64.bits) (6148914691236517205 : Int)).toNat : Int))))) &&& BitVec.ofInt (IntKind.u64.bits) (3689348814741910323 : Int)).toNat : Int))))))) &&& BitVec.ofInt (IntKind.u64.bits) (1085102592571150095 : Int)).toNat : Int))) (2 ^ (min (8 : Int).toNat (IntKind.u64.bits)))))) (2 ^ (min (16 : Int).toNat (IntKind.u64.bits)))))) (2 ^ (min (32 : Int).toNat (IntKind.u64.bits)))))))) &&& BitVec.ofInt (IntKind.i64.bits) (127 : Int)).toNat : Int)))
theorem go_math_bits_OnesCount64_t (k : Nat) (a0 : Int) : runPure (go_math_bits_OnesCount64_C k) (bodyOf Go.Proofs.Try.f164) Go.Proofs.Try.f164.results.toList false (.pr (.val (.int .u64)) .un) (.val I) (a0, ()) = go_math_bits_OnesCount64 k a0 := by kernel_rfl
def go_math_bits_OnesCount64_S (k : Nat) : Spec := ⟨(.pr (.val (.int .u64)) .un), (.val I), false, .inl fun x => go_math_bits_OnesCount64 k x.1⟩
theorem go_math_bits_OnesCount64_F (k : Nat) : Fits Go.Proofs.Try.prog (go_math_bits_OnesCount64_C k) 164 Go.Proofs.Try.f164 (bodyOf Go.Proofs.Try.f164) (.pr (.val (.int .u64)) .un) (.val I) false :=
  ⟨th0, mixed0, by kernel_rfl, Go.Proofs.Try.func164, rfl, by kernel_rfl, rfl, rfl, rfl, rfl, rfl, rfl⟩
theorem go_math_bits_OnesCount64_M (k : Nat) : Meets Go.Proofs.Try.prog 164 (go_math_bits_OnesCount64_S k) :=
  meets_pure (go_math_bits_OnesCount64_F k) (sigs_all (l := []) rfl trivial) rfl fun x => go_math_bits_OnesCount64_t k x.1

/-! ### math/bits.OnesCount -/
def go_math_bits_OnesCount_C (k : Nat) : Ctx := { th := TH, se := SE, sg := [(163, go_math_bits_OnesCount32_S k), (164, go_math_bits_OnesCount64_S k)], mu := [], an := [], dr := [], pre := [], d2 := [], m := 0, fx := [], n := 8, k := k }
def go_math_bits_OnesCount (k : Nat) (a0 : Int) : Option Int :=
  if false = true then
    (go_math_bits_OnesCount32 k (IntKind.u32.wrap (a0))).bind fun r1 =>
    some r1
  else
    (go_math_bits_OnesCount64 k a0).bind fun r2 =>
    some r2
theorem go_math_bits_OnesCount_t (k : Nat) (a0 : Int) : runPure (go_math_bits_OnesCount_C k) (bodyOf Go.Proofs.Try.f149) Go.Proofs.Try.f149.results.toList false (.pr (.val (.int .u64)) .un) (.val I) (a0, ()) = go_math_bits_OnesCount k a0 := by kernel_rfl
def go_math_bits_OnesCount_S (k : Nat) : Spec := ⟨(.pr (.val (.int .u64)) .un), (.val I), false, .inl fun x => go_math_bits_OnesCount k x.1⟩
theorem go_math_bits_OnesCount_F (k : Nat) : Fits Go.Proofs.Try.prog (go_math_bits_OnesCount_C k) 149 Go.Proofs.Try.f149 (bodyOf Go.Proofs.Try.f149) (.pr (.val (.int .u64)) .un) (.val I) false :=
  ⟨th0, mixed0, by kernel_rfl, Go.Proofs.Try.func149, rfl, by kernel_rfl, rfl, rfl, rfl, rfl, rfl, rfl⟩
theorem go_math_bits_OnesCount_M (k : Nat) : Meets Go.Proofs.Try.prog 149 (go_math_bits_OnesCount_S k) :=
  meets_pure (go_math_bits_OnesCount_F k) (sigs_all (l := [(163, go_math_bits_OnesCount32_S k), (164, go_math_bits_OnesCount64_S k)]) rfl ⟨go_math_bits_OnesCount32_M k, ⟨go_math_bits_OnesCount64_M k, trivial⟩⟩) rfl fun x => go_math_bits_OnesCount_t k x.1

/-! ### slices.Clone[[]int,int] -/
def go_slices_Clone_int_C (k : Nat) : Ctx := { th := TH, se := SE, sg := [], mu := [5], an := [], dr := [], pre := [], d2 := [], m := 0, fx := [], n := 8, k := k }
def go_slices_Clone_int (k : Nat) (a0 : (List Int)) : Option (List Int) :=
  if (List.isEmpty a0) = true then
    both (
    some []) (
    if (decide (([] : List Int).length + a0.length ≤ LIM)) = true then
    some (([] : List Int) ++ a0)
    else none)
  else
    if (decide (([] : List Int).length + a0.length ≤ LIM)) = true then
    some (([] : List Int) ++ a0)
    else none
theorem go_slices_Clone_int_t (k : Nat) (a0 : (List Int)) : runPure (go_slices_Clone_int_C k) (bodyOf Go.Proofs.Try.f63) Go.Proofs.Try.f63.results.toList false (.pr (.val (.sl I)) .un) (.own 3 I) (a0, ()) = go_slices_Clone_int k a0 := by kernel_rfl
def go_slices_Clone_int_S (k : Nat) : Spec := ⟨(.pr (.val (.sl I)) .un), (.own 3 I), false, .inl fun x => go_slices_Clone_int k x.1⟩
theorem go_slices_Clone_int_F (k : Nat) : Fits Go.Proofs.Try.prog (go_slices_Clone_int_C k) 63 Go.Proofs.Try.f63 (bodyOf Go.Proofs.Try.f63) (.pr (.val (.sl I)) .un) (.own 3 I) false :=
  ⟨th0, mixed0, by kernel_rfl, Go.Proofs.Try.func63, rfl, by kernel_rfl, rfl, rfl, rfl, rfl, rfl, rfl⟩
theorem go_slices_Clone_int_M (k : Nat) : Meets Go.Proofs.Try.prog 63 (go_slices_Clone_int_S k) :=
  meets_pure (go_slices_Clone_int_F k) (sigs_all (l := []) rfl trivial) rfl fun x => go_slices_Clone_int_t k x.1

/-! ### impl.some -/
def go_impl_some_C (k : Nat) : Ctx := { th := TH, se := SE, sg := [(63, go_slices_Clone_int_S k)], mu := [26], an := [(3, [(1, false), (5, true), (8, false), (9, false), (10, false)])], dr := [], pre := [], d2 := [], m := 0, fx := [], n := 27, k := k }
def go_impl_some_L0_E (a0 : (List Int)) (a1 : Int) (x7 : (Int × (List Int))) : St :=
  ⟨[(1, .one (.val I a1), []), (5, .one (.own 0), []), (8, .one (.val (.sl I) a0), []), (9, .one (.val I (a0.length : Int)), []), (10, .one (.val I x7.1), [])], [.arr 3 I x7.2], []⟩
def go_impl_some_L0_G (k : Nat) (a0 : (List Int)) (a1 : Int) (rec8 : (Int × (List Int)) → Option (List Int)) (x7 : (Int × (List Int))) : Option (List Int) :=
  if (decide (x7.1 < (a0.length : Int))) = true then
    if (inb x7.1 a0.length) = true then
    if (decide (0 ≤ x7.1)) = true then
    if (decide ((IntKind.i64.wrap (((BitVec.ofInt (IntKind.i64.bits) (Int.fdiv a1 (2 ^ (min x7.1.toNat (IntKind.i64.bits)))) &&& BitVec.ofInt (IntKind.i64.bits) (1 : Int)).toNat : Int))) = (1 : Int))) = true then
      if (decide (x7.2.length + [(a0.getD x7.1.toNat (0 : Int))].length ≤ LIM)) = true then
      rec8 ((IntKind.i64.wrap (x7.1 + (1 : Int))), (x7.2 ++ [(a0.getD x7.1.toNat (0 : Int))]))
      else none
    else
      rec8 ((IntKind.i64.wrap (x7.1 + (1 : Int))), x7.2)
    else none
    else none
  else
    (go_slices_Clone_int k x7.2).bind fun r9 =>
    some r9
def go_impl_some_L0 (k : Nat) (a0 : (List Int)) (a1 : Int) : (Int × (List Int)) → Option (List Int) :=
  iter k fun rec8 x7 => go_impl_some_L0_G k a0 a1 rec8 x7
theorem go_impl_some_L0_t (k : Nat) (a0 : (List Int)) (a1 : Int) (x : (Int × (List Int))) :
    iter k (loopAt (go_impl_some_C k) (bodyOf Go.Proofs.Try.f165) [1, 1, 0, 1, 0] [] (finPure (go_impl_some_C k) Go.Proofs.Try.f165.results.toList false (.own 3 I))) (go_impl_some_L0_E a0 a1 x) = go_impl_some_L0 k a0 a1 x := by
  refine iter_tie (G := fun rec x => go_impl_some_L0_G k a0 a1 rec x) (go_impl_some_L0_E a0 a1) (fun rec x => ?_) k x
  have h : loopAt (go_impl_some_C k) (bodyOf Go.Proofs.Try.f165) [1, 1, 0, 1, 0] [] (finPure (go_impl_some_C k) Go.Proofs.Try.f165.results.toList false (.own 3 I)) rec (go_impl_some_L0_E a0 a1 x) = go_impl_some_L0_G k a0 a1 (fun y => rec (go_impl_some_L0_E a0 a1 y)) x := by kernel_rfl
  rw [h]
def go_impl_some_T (k : Nat) (a0 : (List Int)) (a1 : Int) (l_0 : (Int × (List Int)) → Option (List Int)) : Option (List Int) :=
  l_0 ((0 : Int), [])
def go_impl_some (k : Nat) (a0 : (List Int)) (a1 : Int) : Option (List Int) :=
  go_impl_some_T k a0 a1 (fun y => go_impl_some_L0 k a0 a1 y)
theorem go_impl_some_t (k : Nat) (a0 : (List Int)) (a1 : Int) : runPure (go_impl_some_C k) (bodyOf Go.Proofs.Try.f165) Go.Proofs.Try.f165.results.toList false (.pr (.val (.sl I)) (.pr (.val I) .un)) (.own 3 I) (a0, a1, ()) = go_impl_some k a0 a1 := by
  have h : runPure (go_impl_some_C k) (bodyOf Go.Proofs.Try.f165) Go.Proofs.Try.f165.results.toList false (.pr (.val (.sl I)) (.pr (.val I) .un)) (.own 3 I) (a0, a1, ()) = go_impl_some_T k a0 a1 (fun y => iter k (loopAt (go_impl_some_C k) (bodyOf Go.Proofs.Try.f165) [1, 1, 0, 1, 0] [] (finPure (go_impl_some_C k) Go.Proofs.Try.f165.results.toList false (.own 3 I))) (go_impl_some_L0_E a0 a1 y)) := by kernel_rfl
  have h0 : (fun y => iter k (loopAt (go_impl_some_C k) (bodyOf Go.Proofs.Try.f165) [1, 1, 0, 1, 0] [] (finPure (go_impl_some_C k) Go.Proofs.Try.f165.results.toList false (.own 3 I))) (go_impl_some_L0_E a0 a1 y)) = (fun y => go_impl_some_L0 k a0 a1 y) := by
    funext y
    exact go_impl_some_L0_t k a0 a1 y
  rw [h, h0]
  rfl
def go_impl_some_S (k : Nat) : Spec := ⟨(.pr (.val (.sl I)) (.pr (.val I) .un)), (.own 3 I), false, .inl fun x => go_impl_some k x.1 x.2.1⟩
theorem go_impl_some_F (k : Nat) : Fits Go.Proofs.Try.prog (go_impl_some_C k) 165 Go.Proofs.Try.f165 (bodyOf Go.Proofs.Try.f165) (.pr (.val (.sl I)) (.pr (.val I) .un)) (.own 3 I) false :=
  ⟨th0, mixed0, by kernel_rfl, Go.Proofs.Try.func165, rfl, by kernel_rfl, rfl, rfl, rfl, rfl, rfl, rfl⟩
theorem go_impl_some_M (k : Nat) : Meets Go.Proofs.Try.prog 165 (go_impl_some_S k) :=
  meets_pure (go_impl_some_F k) (sigs_all (l := [(63, go_slices_Clone_int_S k)]) rfl ⟨go_slices_Clone_int_M k, trivial⟩) rfl fun x => go_impl_some_t k x.1 x.2.1

/-! ### cmp.Compare[int] -/
def go_cmp_Compare_int_C (k : Nat) : Ctx := { th := TH, se := SE, sg := [(172, go_cmp_isNaN_int_S k)], mu := [], an := [], dr := [], pre := [], d2 := [], m := 0, fx := [], n := 20, k := k }
def go_cmp_Compare_int (k : Nat) (a0 : Int) (a1 : Int) : Option Int :=
  (go_cmp_isNaN_int k a0).bind fun r1 =>
  (go_cmp_isNaN_int k a1).bind fun r2 =>
  if r1 = true then
    if r2 = true then
      some (0 : Int)
    else
      some (-1 : Int)
  else
    if r2 = true then
      some (1 : Int)
    else
      if (decide (a0 < a1)) = true then
        some (-1 : Int)
      else
        if (decide (a1 < a0)) = true then
          some (1 : Int)
        else
          some (0 : Int)
theorem go_cmp_Compare_int_t (k : Nat) (a0 : Int) (a1 : Int) : runPure (go_cmp_Compare_int_C k) (bodyOf Go.Proofs.Try.f173) Go.Proofs.Try.f173.results.toList false (.pr (.val I) (.pr (.val I) .un)) (.val I) (a0, a1, ()) = go_cmp_Compare_int k a0 a1 := by kernel_rfl
def go_cmp_Compare_int_S (k : Nat) : Spec := ⟨(.pr (.val I) (.pr (.val I) .un)), (.val I), false, .inl fun x => go_cmp_Compare_int k x.1 x.2.1⟩
theorem go_cmp_Compare_int_F (k : Nat) : Fits Go.Proofs.Try.prog (go_cmp_Compare_int_C k) 173 Go.Proofs.Try.f173 (bodyOf Go.Proofs.Try.f173) (.pr (.val I) (.pr (.val I) .un)) (.val I) false :=
  ⟨th0, mixed0, by kernel_rfl, Go.Proofs.Try.func173, rfl, by kernel_rfl, rfl, rfl, rfl, rfl, rfl, rfl⟩
theorem go_cmp_Compare_int_M (k : Nat) : Meets Go.Proofs.Try.prog 173 (go_cmp_Compare_int_S k) :=
  meets_pure (go_cmp_Compare_int_F k) (sigs_all (l := [(172, go_cmp_isNaN_int_S k)]) rfl ⟨go_cmp_isNaN_int_M k, trivial⟩) rfl fun x => go_cmp_Compare_int_t k x.1 x.2.1

/-! ### slices.Compare[[]int,int] -/
def go_slices_Compare_int_C (k : Nat) : Ctx := { th := TH, se := SE, sg := [(173, go_cmp_Compare_int_S k)], mu := [], an := [(2, [(0, false), (1, false), (9, false), (10, false), (11, false)])], dr := [], pre := [], d2 := [], m := 0, fx := [], n := 36, k := k }
def go_slices_Compare_int_L0_E (a0 : (List Int)) (a1 : (List Int)) (x4 : (Int)) : St :=
  ⟨[(0, .one (.val (.sl I) a0), []), (1, .one (.val (.sl I) a1), []), (9, .one (.val (.sl I) a0), []), (10, .one (.val I (a0.length : Int)), []), (11, .one (.val I x4), [])], [], []⟩
def go_slices_Compare_int_L0_G (k : Nat) (a0 : (List Int)) (a1 : (List Int)) (rec5 : (Int) → Option Int) (x4 : (Int)) : Option Int :=
  if (decide (x4 < (a0.length : Int))) = true then
    if (inb x4 a0.length) = true then
    if (decide ((a1.length : Int) ≤ x4)) = true then
      some (1 : Int)
    else
      if (inb x4 a1.length) = true then
      (go_cmp_Compare_int k (a0.getD x4.toNat (0 : Int)) (a1.getD x4.toNat (0 : Int))).bind fun r6 =>
      if (!decide (r6 = (0 : Int))) = true then
        some r6
      else
        rec5 (IntKind.i64.wrap (x4 + (1 : Int)))
      else none
    else none
  else
    if (decide ((a0.length : Int) < (a1.length : Int))) = true then
      some (-1 : Int)
    else
      some (0 : Int)
def go_slices_Compare_int_L0 (k : Nat) (a0 : (List Int)) (a1 : (List Int)) : (Int) → Option Int :=
  iter k fun rec5 x4 => go_slices_Compare_int_L0_G k a0 a1 rec5 x4
theorem go_slices_Compare_int_L0_t (k : Nat) (a0 : (List Int)) (a1 : (List Int)) (x : (Int)) :
    iter k (loopAt (go_slices_Compare_int_C k) (bodyOf Go.Proofs.Try.f166) [1, 0, 1, 0] [] (finPure (go_slices_Compare_int_C k) Go.Proofs.Try.f166.results.toList false (.val I))) (go_slices_Compare_int_L0_E a0 a1 x) = go_slices_Compare_int_L0 k a0 a1 x := by
  refine iter_tie (G := fun rec x => go_slices_Compare_int_L0_G k a0 a1 rec x) (go_slices_Compare_int_L0_E a0 a1) (fun rec x => ?_) k x
  have h : loopAt (go_slices_Compare_int_C k) (bodyOf Go.Proofs.Try.f166) [1, 0, 1, 0] [] (finPure (go_slices_Compare_int_C k) Go.Proofs.Try.f166.results.toList false (.val I)) rec (go_slices_Compare_int_L0_E a0 a1 x) = go_slices_Compare_int_L0_G k a0 a1 (fun y => rec (go_slices_Compare_int_L0_E a0 a1 y)) x := by kernel_rfl
  rw [h]
def go_slices_Compare_int_T (k : Nat) (a0 : (List Int)) (a1 : (List Int)) (l_0 : (Int) → Option Int) : Option Int :=
  l_0 (0 : Int)
def go_slices_Compare_int (k : Nat) (a0 : (List Int)) (a1 : (List Int)) : Option Int :=
  go_slices_Compare_int_T k a0 a1 (fun y => go_slices_Compare_int_L0 k a0 a1 y)
theorem go_slices_Compare_int_t (k : Nat) (a0 : (List Int)) (a1 : (List Int)) : runPure (go_slices_Compare_int_C k) (bodyOf Go.Proofs.Try.f166) Go.Proofs.Try.f166.results.toList false (.pr (.val (.sl I)) (.pr (.val (.sl I)) .un)) (.val I) (a0, a1, ()) = go_slices_Compare_int k a0 a1 := by
  have h : runPure (go_slices_Compare_int_C k) (bodyOf Go.Proofs.Try.f166) Go.Proofs.Try.f166.results.toList false (.pr (.val (.sl I)) (.pr (.val (.sl I)) .un)) (.val I) (a0, a1, ()) = go_slices_Compare_int_T k a0 a1 (fun y => iter k (loopAt (go_slices_Compare_int_C k) (bodyOf Go.Proofs.Try.f166) [1, 0, 1, 0] [] (finPure (go_slices_Compare_int_C k) Go.Proofs.Try.f166.results.toList false (.val I))) (go_slices_Compare_int_L0_E a0 a1 y)) := by kernel_rfl
  have h0 : (fun y => iter k (loopAt (go_slices_Compare_int_C k) (bodyOf Go.Proofs.Try.f166) [1, 0, 1, 0] [] (finPure (go_slices_Compare_int_C k) Go.Proofs.Try.f166.results.toList false (.val I))) (go_slices_Compare_int_L0_E a0 a1 y)) = (fun y => go_slices_Compare_int_L0 k a0 a1 y) := by
    funext y
    exact go_slices_Compare_int_L0_t k a0 a1 y
  rw [h, h0]
  rfl
def go_slices_Compare_int_S (k : Nat) : Spec := ⟨(.pr (.val (.sl I)) (.pr (.val (.sl I)) .un)), (.val I), false, .inl fun x => go_slices_Compare_int k x.1 x.2.1⟩
theorem go_slices_Compare_int_F (k : Nat) : Fits Go.Proofs.Try.prog (go_slices_Compare_int_C k) 166 Go.Proofs.Try.f166 (bodyOf Go.Proofs.Try.f166) (.pr (.val (.sl I)) (.pr (.val (.sl I)) .un)) (.val I) false :=
  ⟨th0, mixed0, by kernel_rfl, Go.Proofs.Try.func166, rfl, by kernel_rfl, rfl, rfl, rfl, rfl, rfl, rfl⟩
theorem go_slices_Compare_int_M (k : Nat) : Meets Go.Proofs.Try.prog 166 (go_slices_Compare_int_S k) :=
  meets_pure (go_slices_Compare_int_F k) (sigs_all (l := [(173, go_cmp_Compare_int_S k)]) rfl ⟨go_cmp_Compare_int_M k, trivial⟩) rfl fun x => go_slices_Compare_int_t k x.1 x.2.1

/-! ### (*impl.found).add -/
def go_impl_found_add_C (k : Nat) : Ctx := { th := TH, se := SE, sg := [(165, go_impl_some_S k), (166, go_slices_Compare_int_S k)], mu := [19], an := [], dr := [], pre := [], d2 := [], m := 2, fx := [0], n := 38, k := k }
def go_impl_found_add (k : Nat) (a0 : (Int × (Int × ((List Int) × Unit)))) (a1 : (Option ((Int × (Int × ((List Int) × Unit))) × ((Int × (Int × Unit)) × ((List Int) × ((List (List Int)) × Unit)))))) (a2 : Int) : Option (Unit × ((Int × (Int × ((List Int) × Unit))) × ((Option ((Int × (Int × ((List Int) × Unit))) × ((Int × (Int × Unit)) × ((List Int) × ((List (List Int)) × Unit))))) × (Int × Unit)))) :=
  if a1.isSome = true then
  (go_impl_some k (a1.getD (((0 : Int), ((0 : Int), ([], ()))), (((0 : Int), ((0 : Int), ())), ([], ([], ()))))).2.2.1 a2).bind fun r1 =>
  (if (!(decide ((IntKind.i64.wrap (a0.2.1 + (1 : Int))) = (1 : Int)))) = true then go_slices_Compare_int k r1 a0.2.2.1 else some (0 : Int)).bind fun r2 =>
  if ((decide ((IntKind.i64.wrap (a0.2.1 + (1 : Int))) = (1 : Int))) || (decide (r2 < (0 : Int)))) = true then
    some ((), ((a0.1, ((IntKind.i64.wrap (a0.2.1 + (1 : Int))), (r1, ()))), (a1, (a2, ()))))
  else
    some ((), ((a0.1, ((IntKind.i64.wrap (a0.2.1 + (1 : Int))), (a0.2.2.1, ()))), (a1, (a2, ()))))
  else none
theorem go_impl_found_add_t (k : Nat) (a0 : (Int × (Int × ((List Int) × Unit)))) (a1 : (Option ((Int × (Int × ((List Int) × Unit))) × ((Int × (Int × Unit)) × ((List Int) × ((List (List Int)) × Unit)))))) (a2 : Int) : runEff (go_impl_found_add_C k) (bodyOf Go.Proofs.Try.f150) Go.Proofs.Try.f150.results.toList true (.pr (.box (.pr (.val I) (.pr (.val I) (.pr (.own 3 I) .un)))) (.pr (.val (.pt (.pair (.pair I (.pair I (.pair (.sl I) .unit))) (.pair (.pair I (.pair I .unit)) (.pair (.sl I) (.pair (.sl (.sl I)) .unit)))))) (.pr (.val I) .un))) .un (a0, a1, a2, ()) = go_impl_found_add k a0 a1 a2 := by kernel_rfl
def go_impl_found_add_S (k : Nat) : Spec := ⟨(.pr (.box (.pr (.val I) (.pr (.val I) (.pr (.own 3 I) .un)))) (.pr (.val (.pt (.pair (.pair I (.pair I (.pair (.sl I) .unit))) (.pair (.pair I (.pair I .unit)) (.pair (.sl I) (.pair (.sl (.sl I)) .unit)))))) (.pr (.val I) .un))), .un, true, .inr fun x => go_impl_found_add k x.1 x.2.1 x.2.2.1⟩
theorem go_impl_found_add_F (k : Nat) : Fits Go.Proofs.Try.prog (go_impl_found_add_C k) 150 Go.Proofs.Try.f150 (bodyOf Go.Proofs.Try.f150) (.pr (.box (.pr (.val I) (.pr (.val I) (.pr (.own 3 I) .un)))) (.pr (.val (.pt (.pair (.pair I (.pair I (.pair (.sl I) .unit))) (.pair (.pair I (.pair I .unit)) (.pair (.sl I) (.pair (.sl (.sl I)) .unit)))))) (.pr (.val I) .un))) .un true :=
  ⟨th0, mixed0, by kernel_rfl, Go.Proofs.Try.func150, rfl, by kernel_rfl, rfl, rfl, rfl, rfl, rfl, rfl⟩
theorem go_impl_found_add_M (k : Nat) : Meets Go.Proofs.Try.prog 150 (go_impl_found_add_S k) :=
  meets_eff (go_impl_found_add_F k) (sigs_all (l := [(165, go_impl_some_S k), (166, go_slices_Compare_int_S k)]) rfl ⟨go_impl_some_M k, ⟨go_slices_Compare_int_M k, trivial⟩⟩) fun x => go_impl_found_add_t k x.1 x.2.1 x.2.2.1

/-! ### (*impl.graph).search -/
def go_impl_graph_search_C (k : Nat) : Ctx := { th := TH, se := SE, sg := [(148, go_impl_graph_masks_S k), (149, go_math_bits_OnesCount_S k), (150, go_impl_found_add_S k)], mu := [], an := [(5, [(0, false), (1, false), (2, false), (3, false), (8, false), (9, false), (10, false), (11, true), (23, false), (24, false)]), (11, [(0, false), (1, false), (2, false), (3, false), (8, false), (9, false), (10, false), (11, false), (12, false), (13, false), (14, false), (15, false), (23, false), (24, false), (53, false), (54, false)])], dr := [], pre := [], d2 := [], m := 0, fx := [], n := 105, k := k }
def go_impl_graph_search_L0_E (a0 : (Option ((Int × (Int × ((List Int) × Unit))) × ((Int × (Int × Unit)) × ((List Int) × ((List (List Int)) × Unit)))))) (a1 : Bool) (a2 : Bool) (a3 : Bool) (r1 : (List Int)) (x56 : (Int × Int × Int × (List Int))) : St :=
  ⟨[(0, .one (.val (.pt (.pair (.pair I (.pair I (.pair (.sl I) .unit))) (.pair (.pair I (.pair I .unit)) (.pair (.sl I) (.pair (.sl (.sl I)) .unit))))) a0), []), (1, .one (.val .bool a1), []), (2, .one (.val .bool a2), []), (3, .one (.val .bool a3), []), (8, .one (.bx 0 0 (.pair I (.pair I (.pair (.sl I) .unit)))), []), (9, .one (.val (.sl I) r1), []), (10, .one (.val I (r1.length : Int)), []), (11, .one (.bx 1 0 (.pair I (.pair I (.pair (.sl I) .unit)))), []), (23, .one (.val I (IntKind.i64.wrap ((1 : Int) * 2 ^ (min (r1.length : Int).toNat (IntKind.i64.bits))))), []), (24, .one (.val I x56.1), [])], [.box (.pr (.val I (0 : Int)) (.pr (.val I (0 : Int)) (.pr (.nsl 3 I) .un))), .box (.pr (.val I x56.2.1) (.pr (.val I x56.2.2.1) (.pr (.own 2) .un))), .arr 3 I x56.2.2.2], []⟩
def go_impl_graph_search_L1_E (a0 : (Option ((Int × (Int × ((List Int) × Unit))) × ((Int × (Int × Unit)) × ((List Int) × ((List (List Int)) × Unit)))))) (a1 : Bool) (a2 : Bool) (a3 : Bool) (r1 : (List Int)) (x56 : (Int × Int × Int × (List Int))) (r58 : Int) (x65 : (Int × Bool × Int)) : St :=
  ⟨[(0, .one (.val (.pt (.pair (.pair I (.pair I (.pair (.sl I) .unit))) (.pair (.pair I (.pair I .unit)) (.pair (.sl I) (.pair (.sl (.sl I)) .unit))))) a0), []), (1, .one (.val .bool a1), []), (2, .one (.val .bool a2), []), (3, .one (.val .bool a3), []), (8, .one (.bx 0 0 (.pair I (.pair I (.pair (.sl I) .unit)))), []), (9, .one (.val (.sl I) r1), []), (10, .one (.val I (r1.length : Int)), []), (11, .one (.bx 1 0 (.pair I (.pair I (.pair (.sl I) .unit)))), []), (12, .one (.val I x56.1), []), (13, .one (.val I r58), []), (14, .one (.val I x65.1), []), (15, .one (.val .bool x65.2.1), []), (23, .one (.val I (IntKind.i64.wrap ((1 : Int) * 2 ^ (min (r1.length : Int).toNat (IntKind.i64.bits))))), []), (24, .one (.val I x56.1), []), (53, .one (.val I (r1.length : Int)), []), (54, .one (.val I x65.2.2), [])], [.box (.pr (.val I (0 : Int)) (.pr (.val I (0 : Int)) (.pr (.nsl 3 I) .un))), .box (.pr (.val I x56.2.1) (.pr (.val I x56.2.2.1) (.pr (.own 2) .un))), .arr 3 I x56.2.2.2], []⟩
def go_impl_graph_search_L1_G (k : Nat) (a0 : (Option ((Int × (Int × ((List Int) × Unit))) × ((Int × (Int × Unit)) × ((List Int) × ((List (List Int)) × Unit)))))) (a1 : Bool) (a2 : Bool) (a3 : Bool) (r1 : (List Int)) (x56 : (Int × Int × Int × (List Int))) (r58 : Int) (rec57 : (Int × Int × Int × (List Int)) → Option (Int × (Int × ((List Int) × Unit)))) (rec66 : (Int × Bool × Int) → Option (Int × (Int × ((List Int) × Unit)))) (x65 : (Int × Bool × Int)) : Option (Int × (Int × ((List Int) × Unit))) :=
  if (decide (x65.2.2 < (r1.length : Int))) = true then
    if (decide (0 ≤ x65.2.2)) = true then
    if (decide ((IntKind.i64.wrap (((BitVec.ofInt (IntKind.i64.bits) (Int.fdiv x56.1 (2 ^ (min x65.2.2.toNat (IntKind.i64.bits)))) &&& BitVec.ofInt (IntKind.i64.bits) (1 : Int)).toNat : Int))) = (1 : Int))) = true then
      if (inb x65.2.2 r1.length) = true then
      if (!x65.2.1 || (inb x65.2.2 r1.length)) = true then
      rec66 ((IntKind.i64.wrap (((BitVec.ofInt (IntKind.i64.bits) x65.1 ||| BitVec.ofInt (IntKind.i64.bits) (r1.getD x65.2.2.toNat (0 : Int))).toNat : Int))), (x65.2.1 && (decide ((IntKind.i64.wrap (((BitVec.ofInt (IntKind.i64.bits) (r1.getD x65.2.2.toNat (0 : Int)) &&& BitVec.ofInt (IntKind.i64.bits) x56.1).toNat : Int))) = (0 : Int)))), (IntKind.i64.wrap (x65.2.2 + (1 : Int))))
      else none
      else none
    else
      rec66 (x65.1, x65.2.1, (IntKind.i64.wrap (x65.2.2 + (1 : Int))))
    else none
  else
    if (!a1 || (decide (0 ≤ (r1.length : Int)))) = true then
    if ((a1 && (!decide (x65.1 = (IntKind.i64.wrap ((IntKind.i64.wrap ((1 : Int) * 2 ^ (min (r1.length : Int).toNat (IntKind.i64.bits)))) - (1 : Int)))))) || (a2 && (!x65.2.1))) = true then
      rec57 ((IntKind.i64.wrap (x56.1 + (1 : Int))), x56.2.1, x56.2.2.1, x56.2.2.2)
    else
      if (!decide (r58 = x56.2.1)) = true then
        (go_impl_found_add k (r58, ((0 : Int), ([], ()))) a0 x56.1).bind fun r67 =>
        rec57 ((IntKind.i64.wrap (x56.1 + (1 : Int))), r67.2.1.1, r67.2.1.2.1, r67.2.1.2.2.1)
      else
        (go_impl_found_add k (x56.2.1, (x56.2.2.1, (x56.2.2.2, ()))) a0 x56.1).bind fun r68 =>
        rec57 ((IntKind.i64.wrap (x56.1 + (1 : Int))), r68.2.1.1, r68.2.1.2.1, r68.2.1.2.2.1)
    else none
def go_impl_graph_search_L1 (k : Nat) (a0 : (Option ((Int × (Int × ((List Int) × Unit))) × ((Int × (Int × Unit)) × ((List Int) × ((List (List Int)) × Unit)))))) (a1 : Bool) (a2 : Bool) (a3 : Bool) (rec57 : (Int × Int × Int × (List Int)) → Option (Int × (Int × ((List Int) × Unit)))) (r1 : (List Int)) (x56 : (Int × Int × Int × (List Int))) (r58 : Int) : (Int × Bool × Int) → Option (Int × (Int × ((List Int) × Unit))) :=
  iter k fun rec66 x65 => go_impl_graph_search_L1_G k a0 a1 a2 a3 r1 x56 r58 rec57 rec66 x65
theorem go_impl_graph_search_L1_t (k : Nat) (a0 : (Option ((Int × (Int × ((List Int) × Unit))) × ((Int × (Int × Unit)) × ((List Int) × ((List (List Int)) × Unit)))))) (a1 : Bool) (a2 : Bool) (a3 : Bool) (s0 : St → Option (Int × (Int × ((List Int) × Unit)))) (r1 : (List Int)) (x56 : (Int × Int × Int × (List Int))) (r58 : Int) (x : (Int × Bool × Int)) :
    iter k (loopAt (go_impl_graph_search_C k) (bodyOf Go.Proofs.Try.f133) [1, 1, 1, 1, 0, 1, 0, 0, 1, 1, 0, 0, 1, 1, 1, 1, 0, 1, 0] [s0] (finPure (go_impl_graph_search_C k) Go.Proofs.Try.f133.results.toList false (.pr (.val I) (.pr (.val I) (.pr (.own 3 I) .un))))) (go_impl_graph_search_L1_E a0 a1 a2 a3 r1 x56 r58 x) = go_impl_graph_search_L1 k a0 a1 a2 a3 (fun y => s0 (go_impl_graph_search_L0_E a0 a1 a2 a3 r1 y)) r1 x56 r58 x := by
  refine iter_tie (G := fun rec x => go_impl_graph_search_L1_G k a0 a1 a2 a3 r1 x56 r58 (fun y => s0 (go_impl_graph_search_L0_E a0 a1 a2 a3 r1 y)) rec x) (go_impl_graph_search_L1_E a0 a1 a2 a3 r1 x56 r58) (fun rec x => ?_) k x
  have h : loopAt (go_impl_graph_search_C k) (bodyOf Go.Proofs.Try.f133) [1, 1, 1, 1, 0, 1, 0, 0, 1, 1, 0, 0, 1, 1, 1, 1, 0, 1, 0] [s0] (finPure (go_impl_graph_search_C k) Go.Proofs.Try.f133.results.toList false (.pr (.val I) (.pr (.val I) (.pr (.own 3 I) .un)))) rec (go_impl_graph_search_L1_E a0 a1 a2 a3 r1 x56 r58 x) = go_impl_graph_search_L1_G k a0 a1 a2 a3 r1 x56 r58 (fun y => s0 (go_impl_graph_search_L0_E a0 a1 a2 a3 r1 y)) (fun y => rec (go_impl_graph_search_L1_E a0 a1 a2 a3 r1 x56 r58 y)) x := by kernel_rfl
  rw [h]
def go_impl_graph_search_L0_G (k : Nat) (a0 : (Option ((Int × (Int × ((List Int) × Unit))) × ((Int × (Int × Unit)) × ((List Int) × ((List (List Int)) × Unit)))))) (a1 : Bool) (a2 : Bool) (a3 : Bool) (r1 : (List Int)) (l_1 : (Int × Int × Int × (List Int)) → Int → (Int × Bool × Int) → Option (Int × (Int × ((List Int) × Unit)))) (rec57 : (Int × Int × Int × (List Int)) → Option (Int × (Int × ((List Int) × Unit)))) (x56 : (Int × Int × Int × (List Int))) : Option (Int × (Int × ((List Int) × Unit))) :=
  if (decide (x56.1 < (IntKind.i64.wrap ((1 : Int) * 2 ^ (min (r1.length : Int).toNat (IntKind.i64.bits)))))) = true then
    (go_math_bits_OnesCount k (IntKind.u64.wrap (x56.1))).bind fun r58 =>
    if ((decide ((0 : Int) ≤ x56.2.1)) && ((a3 && (decide (r58 < x56.2.1))) || ((!a3) && (decide (x56.2.1 < r58))))) = true then
      rec57 ((IntKind.i64.wrap (x56.1 + (1 : Int))), x56.2.1, x56.2.2.1, x56.2.2.2)
    else
      l_1 x56 r58 (x56.1, true, (0 : Int))
  else
    some (x56.2.1, (x56.2.2.1, (x56.2.2.2, ())))
def go_impl_graph_search_L0 (k : Nat) (a0 : (Option ((Int × (Int × ((List Int) × Unit))) × ((Int × (Int × Unit)) × ((List Int) × ((List (List Int)) × Unit)))))) (a1 : Bool) (a2 : Bool) (a3 : Bool) (r1 : (List Int)) : (Int × Int × Int × (List Int)) → Option (Int × (Int × ((List Int) × Unit))) :=
  iter k fun rec57 x56 => go_impl_graph_search_L0_G k a0 a1 a2 a3 r1 (fun c0 c1 y => go_impl_graph_search_L1 k a0 a1 a2 a3 rec57 r1 c0 c1 y) rec57 x56
theorem go_impl_graph_search_L0_t (k : Nat) (a0 : (Option ((Int × (Int × ((List Int) × Unit))) × ((Int × (Int × Unit)) × ((List Int) × ((List (List Int)) × Unit)))))) (a1 : Bool) (a2 : Bool) (a3 : Bool) (r1 : (List Int)) (x : (Int × Int × Int × (List Int))) :
    iter k (loopAt (go_impl_graph_search_C k) (bodyOf Go.Proofs.Try.f133) [1, 1, 1, 1, 0, 1, 0] [] (finPure (go_impl_graph_search_C k) Go.Proofs.Try.f133.results.toList false (.pr (.val I) (.pr (.val I) (.pr (.own 3 I) .un))))) (go_impl_graph_search_L0_E a0 a1 a2 a3 r1 x) = go_impl_graph_search_L0 k a0 a1 a2 a3 r1 x := by
  refine iter_tie (G := fun rec x => go_impl_graph_search_L0_G k a0 a1 a2 a3 r1 (fun c0 c1 y => go_impl_graph_search_L1 k a0 a1 a2 a3 rec r1 c0 c1 y) rec x) (go_impl_graph_search_L0_E a0 a1 a2 a3 r1) (fun rec x => ?_) k x
  have h : loopAt (go_impl_graph_search_C k) (bodyOf Go.Proofs.Try.f133) [1, 1, 1, 1, 0, 1, 0] [] (finPure (go_impl_graph_search_C k) Go.Proofs.Try.f133.results.toList false (.pr (.val I) (.pr (.val I) (.pr (.own 3 I) .un)))) rec (go_impl_graph_search_L0_E a0 a1 a2 a3 r1 x) = go_impl_graph_search_L0_G k a0 a1 a2 a3 r1 (fun c0 c1 y => iter k (loopAt (go_impl_graph_search_C k) (bodyOf Go.Proofs.Try.f133) [1, 1, 1, 1, 0, 1, 0, 0, 1, 1, 0, 0, 1, 1, 1, 1, 0, 1, 0] [rec] (finPure (go_impl_graph_search_C k) Go.Proofs.Try.f133.results.toList false (.pr (.val I) (.pr (.val I) (.pr (.own 3 I) .un))))) (go_impl_graph_search_L1_E a0 a1 a2 a3 r1 c0 c1 y)) (fun y => rec (go_impl_graph_search_L0_E a0 a1 a2 a3 r1 y)) x := by kernel_rfl
  have h0 : (fun c0 c1 y => iter k (loopAt (go_impl_graph_search_C k) (bodyOf Go.Proofs.Try.f133) [1, 1, 1, 1, 0, 1, 0, 0, 1, 1, 0, 0, 1, 1, 1, 1, 0, 1, 0] [rec] (finPure (go_impl_graph_search_C k) Go.Proofs.Try.f133.results.toList false (.pr (.val I) (.pr (.val I) (.pr (.own 3 I) .un))))) (go_impl_graph_search_L1_E a0 a1 a2 a3 r1 c0 c1 y)) = (fun c0 c1 y => go_impl_graph_search_L1 k a0 a1 a2 a3 (fun y => rec (go_impl_graph_search_L0_E a0 a1 a2 a3 r1 y)) r1 c0 c1 y) := by
    funext c0 c1 y
    exact go_impl_graph_search_L1_t k a0 a1 a2 a3 rec r1 c0 c1 y
  rw [h, h0]
def go_impl_graph_search_T (k : Nat) (a0 : (Option ((Int × (Int × ((List Int) × Unit))) × ((Int × (Int × Unit)) × ((List Int) × ((List (List Int)) × Unit)))))) (a1 : Bool) (a2 : Bool) (a3 : Bool) (l_0 : (List Int) → (Int × Int × Int × (List Int)) → Option (Int × (Int × ((List Int) × Unit)))) : Option (Int × (Int × ((List Int) × Unit))) :=
  (go_impl_graph_masks k a0).bind fun r1 =>
  if (decide (0 ≤ (r1.length : Int))) = true then
  l_0 r1 ((0 : Int), (-1 : Int), (0 : Int), [])
  else none
def go_impl_graph_search (k : Nat) (a0 : (Option ((Int × (Int × ((List Int) × Unit))) × ((Int × (Int × Unit)) × ((List Int) × ((List (List Int)) × Unit)))))) (a1 : Bool) (a2 : Bool) (a3 : Bool) : Option (Int × (Int × ((List Int) × Unit))) :=
  go_impl_graph_search_T k a0 a1 a2 a3 (fun r1 y => go_impl_graph_search_L0 k a0 a1 a2 a3 r1 y)
theorem go_impl_graph_search_t (k : Nat) (a0 : (Option ((Int × (Int × ((List Int) × Unit))) × ((Int × (Int × Unit)) × ((List Int) × ((List (List Int)) × Unit)))))) (a1 : Bool) (a2 : Bool) (a3 : Bool) : runPure (go_impl_graph_search_C k) (bodyOf Go.Proofs.Try.f133) Go.Proofs.Try.f133.results.toList false (.pr (.val (.pt (.pair (.pair I (.pair I (.pair (.sl I) .unit))) (.pair (.pair I (.pair I .unit)) (.pair (.sl I) (.pair (.sl (.sl I)) .unit)))))) (.pr (.val .bool) (.pr (.val .bool) (.pr (.val .bool) .un)))) (.pr (.val I) (.pr (.val I) (.pr (.own 3 I) .un))) (a0, a1, a2, a3, ()) = go_impl_graph_search k a0 a1 a2 a3 := by
  have h : runPure (go_impl_graph_search_C k) (bodyOf Go.Proofs.Try.f133) Go.Proofs.Try.f133.results.toList false (.pr (.val (.pt (.pair (.pair I (.pair I (.pair (.sl I) .unit))) (.pair (.pair I (.pair I .unit)) (.pair (.sl I) (.pair (.sl (.sl I)) .unit)))))) (.pr (.val .bool) (.pr (.val .bool) (.pr (.val .bool) .un)))) (.pr (.val I) (.pr (.val I) (.pr (.own 3 I) .un))) (a0, a1, a2, a3, ()) = go_impl_graph_search_T k a0 a1 a2 a3 (fun r1 y => iter k (loopAt (go_impl_graph_search_C k) (bodyOf Go.Proofs.Try.f133) [1, 1, 1, 1, 0, 1, 0] [] (finPure (go_impl_graph_search_C k) Go.Proofs.Try.f133.results.toList false (.pr (.val I) (.pr (.val I) (.pr (.own 3 I) .un))))) (go_impl_graph_search_L0_E a0 a1 a2 a3 r1 y)) := by kernel_rfl
  have h0 : (fun r1 y => iter k (loopAt (go_impl_graph_search_C k) (bodyOf Go.Proofs.Try.f133) [1, 1, 1, 1, 0, 1, 0] [] (finPure (go_impl_graph_search_C k) Go.Proofs.Try.f133.results.toList false (.pr (.val I) (.pr (.val I) (.pr (.own 3 I) .un))))) (go_impl_graph_search_L0_E a0 a1 a2 a3 r1 y)) = (fun r1 y => go_impl_graph_search_L0 k a0 a1 a2 a3 r1 y) := by
    funext r1 y
    exact go_impl_graph_search_L0_t k a0 a1 a2 a3 r1 y
  rw [h, h0]
  rfl
def go_impl_graph_search_S (k : Nat) : Spec := ⟨(.pr (.val (.pt (.pair (.pair I (.pair I (.pair (.sl I) .unit))) (.pair (.pair I (.pair I .unit)) (.pair (.sl I) (.pair (.sl (.sl I)) .unit)))))) (.pr (.val .bool) (.pr (.val .bool) (.pr (.val .bool) .un)))), (.pr (.val I) (.pr (.val I) (.pr (.own 3 I) .un))), false, .inl fun x => go_impl_graph_search k x.1 x.2.1 x.2.2.1 x.2.2.2.1⟩
theorem go_impl_graph_search_F (k : Nat) : Fits Go.Proofs.Try.prog (go_impl_graph_search_C k) 133 Go.Proofs.Try.f133 (bodyOf Go.Proofs.Try.f133) (.pr (.val (.pt (.pair (.pair I (.pair I (.pair (.sl I) .unit))) (.pair (.pair I (.pair I .unit)) (.pair (.sl I) (.pair (.sl (.sl I)) .unit)))))) (.pr (.val .bool) (.pr (.val .bool) (.pr (.val .bool) .un)))) (.pr (.val I) (.pr (.val I) (.pr (.own 3 I) .un))) false :=
  ⟨th0, mixed0, by kernel_rfl, Go.Proofs.Try.func133, rfl, by kernel_rfl, rfl, rfl, rfl, rfl, rfl, rfl⟩
theorem go_impl_graph_search_M (k : Nat) : Meets Go.Proofs.Try.prog 133 (go_impl_graph_search_S k) :=
  meets_pure (go_impl_graph_search_F k) (sigs_all (l := [(148, go_impl_graph_masks_S k), (149, go_math_bits_OnesCount_S k), (150, go_impl_found_add_S k)]) rfl ⟨go_impl_graph_masks_M k, ⟨go_math_bits_OnesCount_M k, ⟨go_impl_found_add_M k, trivial⟩⟩⟩) rfl fun x => go_impl_graph_search_t k x.1 x.2.1 x.2.2.1 x.2.2.2.1

/-! ### impl.searched -/
def go_impl_searched_C (k : Nat) : Ctx := { th := TH, se := SE, sg := [(132, go_impl_tourGraph_S k), (133, go_impl_graph_search_S k)], mu := [27], an := [], dr := [], pre := [], d2 := [], m := 0, fx := [], n := 28, k := k }
def go_impl_searched (k : Nat) (a0 : (Int × (Int × ((List Int) × Unit)))) (a1 : (Int × (Int × Unit))) (a2 : Bool) (a3 : Bool) (a4 : Bool) : Option ((Int × (Int × ((List Int) × Unit))) × (Bool × Unit)) :=
  (go_impl_tourGraph k a0 a1 (16 : Int)).bind fun r1 =>
  if (!r1.2.1) = true then
    some (((0 : Int), ((0 : Int), ([], ()))), (false, ()))
  else
    (go_impl_graph_search k r1.1 a2 a3 a4).bind fun r2 =>
    some ((r2.1, (r2.2.1, (r2.2.2.1, ()))), (true, ()))
theorem go_impl_searched_t (k : Nat) (a0 : (Int × (Int × ((List Int) × Unit)))) (a1 : (Int × (Int × Unit))) (a2 : Bool) (a3 : Bool) (a4 : Bool) : runPure (go_impl_searched_C k) (bodyOf Go.Proofs.Try.f95) Go.Proofs.Try.f95.results.toList true (.pr (.val (.pair I (.pair I (.pair (.sl I) .unit)))) (.pr (.val (.pair I (.pair I .unit))) (.pr (.val .bool) (.pr (.val .bool) (.pr (.val .bool) .un))))) (.pr (.pr (.val I) (.pr (.val I) (.pr (.own 3 I) .un))) (.pr (.val .bool) .un)) (a0, a1, a2, a3, a4, ()) = go_impl_searched k a0 a1 a2 a3 a4 := by kernel_rfl
def go_impl_searched_S (k : Nat) : Spec := ⟨(.pr (.val (.pair I (.pair I (.pair (.sl I) .unit)))) (.pr (.val (.pair I (.pair I .unit))) (.pr (.val .bool) (.pr (.val .bool) (.pr (.val .bool) .un))))), (.pr (.pr (.val I) (.pr (.val I) (.pr (.own 3 I) .un))) (.pr (.val .bool) .un)), true, .inl fun x => go_impl_searched k x.1 x.2.1 x.2.2.1 x.2.2.2.1 x.2.2.2.2.1⟩
theorem go_impl_searched_F (k : Nat) : Fits Go.Proofs.Try.prog (go_impl_searched_C k) 95 Go.Proofs.Try.f95 (bodyOf Go.Proofs.Try.f95) (.pr (.val (.pair I (.pair I (.pair (.sl I) .unit)))) (.pr (.val (.pair I (.pair I .unit))) (.pr (.val .bool) (.pr (.val .bool) (.pr (.val .bool) .un))))) (.pr (.pr (.val I) (.pr (.val I) (.pr (.own 3 I) .un))) (.pr (.val .bool) .un)) true :=
  ⟨th0, mixed0, by kernel_rfl, Go.Proofs.Try.func95, rfl, by kernel_rfl, rfl, rfl, rfl, rfl, rfl, rfl⟩
theorem go_impl_searched_M (k : Nat) : Meets Go.Proofs.Try.prog 95 (go_impl_searched_S k) :=
  meets_pure (go_impl_searched_F k) (sigs_all (l := [(132, go_impl_tourGraph_S k), (133, go_impl_graph_search_S k)]) rfl ⟨go_impl_tourGraph_M k, ⟨go_impl_graph_search_M k, trivial⟩⟩) rfl fun x => go_impl_searched_t k x.1 x.2.1 x.2.2.1 x.2.2.2.1 x.2.2.2.2.1

/-! ### impl.FirstPeaceful -/
def go_impl_FirstPeaceful_C (k : Nat) : Ctx := { th := TH, se := SE, sg := [(95, go_impl_searched_S k)], mu := [11], an := [], dr := [], pre := [], d2 := [], m := 0, fx := [], n := 17, k := k }
def go_impl_FirstPeaceful (k : Nat) (a0 : (Int × (Int × ((List Int) × Unit)))) (a1 : (Int × (Int × Unit))) : Option ((List Int) × (Bool × Unit)) :=
  (go_impl_searched k a0 a1 false true true).bind fun r1 =>
  some (r1.1.2.2.1, (r1.2.1, ()))
theorem go_impl_FirstPeaceful_t (k : Nat) (a0 : (Int × (Int × ((List Int) × Unit)))) (a1 : (Int × (Int × Unit))) : runPure (go_impl_FirstPeaceful_C k) (bodyOf Go.Proofs.Try.f48) Go.Proofs.Try.f48.results.toList true (.pr (.val (.pair I (.pair I (.pair (.sl I) .unit)))) (.pr (.val (.pair I (.pair I .unit))) .un)) (.pr (.own 3 I) (.pr (.val .bool) .un)) (a0, a1, ()) = go_impl_FirstPeaceful k a0 a1 := by kernel_rfl
def go_impl_FirstPeaceful_S (k : Nat) : Spec := ⟨(.pr (.val (.pair I (.pair I (.pair (.sl I) .unit)))) (.pr (.val (.pair I (.pair I .unit))) .un)), (.pr (.own 3 I) (.pr (.val .bool) .un)), true, .inl fun x => go_impl_FirstPeaceful k x.1 x.2.1⟩
theorem go_impl_FirstPeaceful_F (k : Nat) : Fits Go.Proofs.Try.prog (go_impl_FirstPeaceful_C k) 48 Go.Proofs.Try.f48 (bodyOf Go.Proofs.Try.f48) (.pr (.val (.pair I (.pair I (.pair (.sl I) .unit)))) (.pr (.val (.pair I (.pair I .unit))) .un)) (.pr (.own 3 I) (.pr (.val .bool) .un)) true :=
  ⟨th0, mixed0, by kernel_rfl, Go.Proofs.Try.func48, rfl, by kernel_rfl, rfl, rfl, rfl, rfl, rfl, rfl⟩
theorem go_impl_FirstPeaceful_M (k : Nat) : Meets Go.Proofs.Try.prog 48 (go_impl_FirstPeaceful_S k) :=
  meets_pure (go_impl_FirstPeaceful_F k) (sigs_all (l := [(95, go_impl_searched_S k)]) rfl ⟨go_impl_searched_M k, trivial⟩) rfl fun x => go_impl_FirstPeaceful_t k x.1 x.2.1

/-! ### laws.FnExactFirstPeaceful -/
def go_laws_FnExactFirstPeaceful_C (k : Nat) : Ctx := { th := TH, se := SE, sg := [(15, go_laws_szBoard_S k), (17, go_laws_toBoard_S k), (18, go_laws_toLeaper_S k), (47, go_spec_FirstPeaceful_S k), (48, go_impl_FirstPeaceful_S k), (22, go_laws_eqIntS_S k), (21, go_laws_eqBoard_S k), (25, go_laws_markBoard_S k), (26, go_laws_markIntS_S k), (27, go_laws_heldIntS_S k)], mu := [30, 35], an := [], dr := [(5, 9), (7, 3), (10, 3), (24, 9)], pre := [], d2 := [7], m := 0, fx := [], n := 104, k := k }
def go_laws_FnExactFirstPeaceful (k : Nat) (a0 : (Int × (Int × ((List Int) × Unit)))) (a1 : (Int × (Int × Unit))) : Option Bool :=
  (go_laws_szBoard k a0 (1048576 : Int)).bind fun r1 =>
  if (decide (r1 < (0 : Int))) = true then
    some true
  else
    (go_laws_toBoard k a0).bind fun r2 =>
    (go_laws_toLeaper k a1).bind fun r3 =>
    (go_spec_FirstPeaceful k (r2.1, (r2.2.1, (r2.2.2.1, ()))) r3).bind fun r4 =>
    (go_laws_toBoard k a0).bind fun r5 =>
    (go_laws_toLeaper k a1).bind fun r6 =>
    (go_impl_FirstPeaceful k (r5.1, (r5.2.1, (r5.2.2.1, ()))) r6).bind fun r7 =>
    (go_laws_eqIntS k r7.1 r4.1).bind fun r8 =>
    if ((!r8) || (r7.2.1 != r4.2.1)) = true then
      some false
    else
      (go_laws_toBoard k a0).bind fun r9 =>
      (go_laws_eqBoard k (r5.1, (r5.2.1, (r5.2.2.1, ()))) (r9.1, (r9.2.1, (r9.2.2.1, ())))).bind fun r10 =>
      if (!r10) = true then
        some false
      else
        (go_laws_markBoard k (r5.1, (r5.2.1, (r5.2.2.1, ()))) (1 : Int)).bind fun r11 =>
        (if (!(decide (r11.1 < (0 : Int)))) = true then go_laws_eqIntS k r7.1 r4.1 else some false).bind fun r12 =>
        if (((decide (r11.1 < (0 : Int))) || (!r12)) || (r7.2.1 != r4.2.1)) = true then
          some false
        else
          (go_laws_markIntS k r7.1 (1 : Int)).bind fun r13 =>
          (go_laws_heldIntS k r13.2.1 (1 : Int)).bind fun r14 =>
          if (decide (r14 < (0 : Int))) = true then
            some false
          else
            if (!decide (r14 = r13.1)) = true then
              some false
            else
              (go_laws_toBoard k a0).bind fun r15 =>
              (go_laws_toLeaper k a1).bind fun r16 =>
              (go_impl_FirstPeaceful k (r15.1, (r15.2.1, (r15.2.2.1, ()))) r16).bind fun r17 =>
              (go_laws_eqIntS k r17.1 r4.1).bind fun r18 =>
              if ((!r18) || (r17.2.1 != r4.2.1)) = true then
                some false
              else
                (go_laws_heldIntS k r13.2.1 (1 : Int)).bind fun r19 =>
                if (decide (r19 < (0 : Int))) = true then
                  some false
                else
                  if (!decide (r19 = r13.1)) = true then
                    some false
                  else
                    some true
theorem go_laws_FnExactFirstPeaceful_t (k : Nat) (a0 : (Int × (Int × ((List Int) × Unit)))) (a1 : (Int × (Int × Unit))) : runPure (go_laws_FnExactFirstPeaceful_C k) (bodyOf Go.Proofs.Try.f13) Go.Proofs.Try.f13.results.toList false (.pr (.val (.pair I (.pair I (.pair (.sl I) .unit)))) (.pr (.val (.pair I (.pair I .unit))) .un)) (.val .bool) (a0, a1, ()) = go_laws_FnExactFirstPeaceful k a0 a1 := by kernel_rfl
def go_laws_FnExactFirstPeaceful_S (k : Nat) : Spec := ⟨(.pr (.val (.pair I (.pair I (.pair (.sl I) .unit)))) (.pr (.val (.pair I (.pair I .unit))) .un)), (.val .bool), false, .inl fun x => go_laws_FnExactFirstPeaceful k x.1 x.2.1⟩
theorem go_laws_FnExactFirstPeaceful_F (k : Nat) : Fits Go.Proofs.Try.prog (go_laws_FnExactFirstPeaceful_C k) 13 Go.Proofs.Try.f13 (bodyOf Go.Proofs.Try.f13) (.pr (.val (.pair I (.pair I (.pair (.sl I) .unit)))) (.pr (.val (.pair I (.pair I .unit))) .un)) (.val .bool) false :=
  ⟨th0, mixed0, by kernel_rfl, Go.Proofs.Try.func13, rfl, by kernel_rfl, rfl, rfl, rfl, rfl, rfl, rfl⟩
theorem go_laws_FnExactFirstPeaceful_M (k : Nat) : Meets Go.Proofs.Try.prog 13 (go_laws_FnExactFirstPeaceful_S k) :=
  meets_pure (go_laws_FnExactFirstPeaceful_F k) (sigs_all (l := [(15, go_laws_szBoard_S k), (17, go_laws_toBoard_S k), (18, go_laws_toLeaper_S k), (47, go_spec_FirstPeaceful_S k), (48, go_impl_FirstPeaceful_S k), (22, go_laws_eqIntS_S k), (21, go_laws_eqBoard_S k), (25, go_laws_markBoard_S k), (26, go_laws_markIntS_S k), (27, go_laws_heldIntS_S k)]) rfl ⟨go_laws_szBoard_M k, ⟨go_laws_toBoard_M k, ⟨go_laws_toLeaper_M k, ⟨go_spec_FirstPeaceful_M k, ⟨go_impl_FirstPeaceful_M k, ⟨go_laws_eqIntS_M k, ⟨go_laws_eqBoard_M k, ⟨go_laws_markBoard_M k, ⟨go_laws_markIntS_M k, ⟨go_laws_heldIntS_M k, trivial⟩⟩⟩⟩⟩⟩⟩⟩⟩⟩) rfl fun x => go_laws_FnExactFirstPeaceful_t k x.1 x.2.1

end
end Go.Lg
