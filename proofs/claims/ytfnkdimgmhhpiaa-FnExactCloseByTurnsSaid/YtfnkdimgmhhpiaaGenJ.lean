/-
  Printed by program: what the functions of the code compute (go_laws_FnExactJoinClosed, go_laws_FnExactCloseByTurns).
-/
import Derived.Test.YtfnkdimgmhhpiaaGenW
set_option linter.unusedVariables false
namespace Go.Lg
open Go.RowKit
noncomputable section
/-! ### spec.blWalk -/
def go_spec_blWalk_C (k : Nat) : Ctx := { th := TH, se := SE, sg := [(52, go_spec_boTwo_S k), (53, go_spec_toWalk_S k)], mu := [], an := [], dr := [], pre := [], d2 := [], m := 0, fx := [], n := 16, k := k }
def go_spec_blWalk (k : Nat) (a0 : (Int × (Int × ((List Int) × Unit)))) (a1 : (Int × (Int × Unit))) (a2 : (List Int)) : Option Bool :=
  (go_spec_boTwo k a0 a1).bind fun r1 =>
  (if r1 = true then go_spec_toWalk k a0 a1 a2 else some false).bind fun r2 =>
  some (r1 && r2)
theorem go_spec_blWalk_t (k : Nat) (a0 : (Int × (Int × ((List Int) × Unit)))) (a1 : (Int × (Int × Unit))) (a2 : (List Int)) : runPure (go_spec_blWalk_C k) (bodyOf Go.Proofs.Try.f64) Go.Proofs.Try.f64.results.toList false (.pr (.val (.pair I (.pair I (.pair (.sl I) .unit)))) (.pr (.val (.pair I (.pair I .unit))) (.pr (.val (.sl I)) .un))) (.val .bool) (a0, a1, a2, ()) = go_spec_blWalk k a0 a1 a2 := by kernel_rfl
def go_spec_blWalk_S (k : Nat) : Spec := ⟨(.pr (.val (.pair I (.pair I (.pair (.sl I) .unit)))) (.pr (.val (.pair I (.pair I .unit))) (.pr (.val (.sl I)) .un))), (.val .bool), false, .inl fun x => go_spec_blWalk k x.1 x.2.1 x.2.2.1⟩
theorem go_spec_blWalk_F (k : Nat) : Fits Go.Proofs.Try.prog (go_spec_blWalk_C k) 64 Go.Proofs.Try.f64 (bodyOf Go.Proofs.Try.f64) (.pr (.val (.pair I (.pair I (.pair (.sl I) .unit)))) (.pr (.val (.pair I (.pair I .unit))) (.pr (.val (.sl I)) .un))) (.val .bool) false :=
  ⟨th0, mixed0, by kernel_rfl, Go.Proofs.Try.func64, rfl, by kernel_rfl, rfl, rfl, rfl, rfl, rfl, rfl⟩
theorem go_spec_blWalk_M (k : Nat) : Meets Go.Proofs.Try.prog 64 (go_spec_blWalk_S k) :=
  meets_pure (go_spec_blWalk_F k) (sigs_all (l := [(52, go_spec_boTwo_S k), (53, go_spec_toWalk_S k)]) rfl ⟨go_spec_boTwo_M k, ⟨go_spec_toWalk_M k, trivial⟩⟩) rfl fun x => go_spec_blWalk_t k x.1 x.2.1 x.2.2.1

/-! ### spec.blClosed -/
def go_spec_blClosed_C (k : Nat) : Ctx := { th := TH, se := SE, sg := [(108, go_spec_boIs_S k)], mu := [], an := [], dr := [(1, 15)], pre := [], d2 := [], m := 0, fx := [], n := 24, k := k }
def go_spec_blClosed (k : Nat) (a0 : (Int × (Int × ((List Int) × Unit)))) (a1 : (Int × (Int × Unit))) (a2 : (List Int)) : Option Bool :=
  if (!(decide ((2 : Int) < (a2.length : Int))) || (inb (IntKind.i64.wrap ((a2.length : Int) - (1 : Int))) a2.length)) = true then
  if (!(decide ((2 : Int) < (a2.length : Int))) || (inb (0 : Int) a2.length)) = true then
  (if (decide ((2 : Int) < (a2.length : Int))) = true then go_spec_boIs k a0 a1 (a2.getD (IntKind.i64.wrap ((a2.length : Int) - (1 : Int))).toNat (0 : Int)) (a2.getD (0 : Int).toNat (0 : Int)) else some false).bind fun r1 =>
  some ((decide ((2 : Int) < (a2.length : Int))) && r1)
  else none
  else none
theorem go_spec_blClosed_t (k : Nat) (a0 : (Int × (Int × ((List Int) × Unit)))) (a1 : (Int × (Int × Unit))) (a2 : (List Int)) : runPure (go_spec_blClosed_C k) (bodyOf Go.Proofs.Try.f107) Go.Proofs.Try.f107.results.toList false (.pr (.val (.pair I (.pair I (.pair (.sl I) .unit)))) (.pr (.val (.pair I (.pair I .unit))) (.pr (.val (.sl I)) .un))) (.val .bool) (a0, a1, a2, ()) = go_spec_blClosed k a0 a1 a2 := by kernel_rfl
def go_spec_blClosed_S (k : Nat) : Spec := ⟨(.pr (.val (.pair I (.pair I (.pair (.sl I) .unit)))) (.pr (.val (.pair I (.pair I .unit))) (.pr (.val (.sl I)) .un))), (.val .bool), false, .inl fun x => go_spec_blClosed k x.1 x.2.1 x.2.2.1⟩
theorem go_spec_blClosed_F (k : Nat) : Fits Go.Proofs.Try.prog (go_spec_blClosed_C k) 107 Go.Proofs.Try.f107 (bodyOf Go.Proofs.Try.f107) (.pr (.val (.pair I (.pair I (.pair (.sl I) .unit)))) (.pr (.val (.pair I (.pair I .unit))) (.pr (.val (.sl I)) .un))) (.val .bool) false :=
  ⟨th0, mixed0, by kernel_rfl, Go.Proofs.Try.func107, rfl, by kernel_rfl, rfl, rfl, rfl, rfl, rfl, rfl⟩
theorem go_spec_blClosed_M (k : Nat) : Meets Go.Proofs.Try.prog 107 (go_spec_blClosed_S k) :=
  meets_pure (go_spec_blClosed_F k) (sigs_all (l := [(108, go_spec_boIs_S k)]) rfl ⟨go_spec_boIs_M k, trivial⟩) rfl fun x => go_spec_blClosed_t k x.1 x.2.1 x.2.2.1

/-! ### spec.blTwo -/
def go_spec_blTwo_C (k : Nat) : Ctx := { th := TH, se := SE, sg := [(64, go_spec_blWalk_S k), (107, go_spec_blClosed_S k), (105, go_spec_l1Has_S k)], mu := [], an := [(4, [(3, false), (37, false), (38, false), (39, false)])], dr := [], pre := [], d2 := [], m := 0, fx := [], n := 47, k := k }
def go_spec_blTwo_L0_E (a0 : (Int × (Int × ((List Int) × Unit)))) (a1 : (Int × (Int × Unit))) (a2 : (List Int)) (a3 : (List Int)) (x8 : (Int)) : St :=
  ⟨[(3, .one (.val (.sl I) a3), []), (37, .one (.val (.sl I) a2), []), (38, .one (.val I (a2.length : Int)), []), (39, .one (.val I x8), [])], [], []⟩
def go_spec_blTwo_L0_G (k : Nat) (a0 : (Int × (Int × ((List Int) × Unit)))) (a1 : (Int × (Int × Unit))) (a2 : (List Int)) (a3 : (List Int)) (rec9 : (Int) → Option Bool) (x8 : (Int)) : Option Bool :=
  if (decide (x8 < (a2.length : Int))) = true then
    if (inb x8 a2.length) = true then
    (go_spec_l1Has k a3 (a2.getD x8.toNat (0 : Int))).bind fun r10 =>
    if r10 = true then
      some false
    else
      rec9 (IntKind.i64.wrap (x8 + (1 : Int)))
    else none
  else
    some true
def go_spec_blTwo_L0 (k : Nat) (a0 : (Int × (Int × ((List Int) × Unit)))) (a1 : (Int × (Int × Unit))) (a2 : (List Int)) (a3 : (List Int)) : (Int) → Option Bool :=
  iter k fun rec9 x8 => go_spec_blTwo_L0_G k a0 a1 a2 a3 rec9 x8
theorem go_spec_blTwo_L0_t (k : Nat) (a0 : (Int × (Int × ((List Int) × Unit)))) (a1 : (Int × (Int × Unit))) (a2 : (List Int)) (a3 : (List Int)) (x : (Int)) :
    iter k (loopAt (go_spec_blTwo_C k) (bodyOf Go.Proofs.Try.f57) [1, 1, 0, 1, 0] [] (finPure (go_spec_blTwo_C k) Go.Proofs.Try.f57.results.toList false (.val .bool))) (go_spec_blTwo_L0_E a0 a1 a2 a3 x) = go_spec_blTwo_L0 k a0 a1 a2 a3 x := by
  refine iter_tie (G := fun rec x => go_spec_blTwo_L0_G k a0 a1 a2 a3 rec x) (go_spec_blTwo_L0_E a0 a1 a2 a3) (fun rec x => ?_) k x
  have h : loopAt (go_spec_blTwo_C k) (bodyOf Go.Proofs.Try.f57) [1, 1, 0, 1, 0] [] (finPure (go_spec_blTwo_C k) Go.Proofs.Try.f57.results.toList false (.val .bool)) rec (go_spec_blTwo_L0_E a0 a1 a2 a3 x) = go_spec_blTwo_L0_G k a0 a1 a2 a3 (fun y => rec (go_spec_blTwo_L0_E a0 a1 a2 a3 y)) x := by kernel_rfl
  rw [h]
def go_spec_blTwo_T (k : Nat) (a0 : (Int × (Int × ((List Int) × Unit)))) (a1 : (Int × (Int × Unit))) (a2 : (List Int)) (a3 : (List Int)) (l_0 : (Int) → Option Bool) : Option Bool :=
  (go_spec_blWalk k a0 a1 a2).bind fun r1 =>
  (if (!(!r1)) = true then go_spec_blWalk k a0 a1 a3 else some false).bind fun r2 =>
  (if (!((!r1) || (!r2))) = true then go_spec_blClosed k a0 a1 a2 else some false).bind fun r3 =>
  (if (!(((!r1) || (!r2)) || (!r3))) = true then go_spec_blClosed k a0 a1 a3 else some false).bind fun r4 =>
  if ((((!r1) || (!r2)) || (!r3)) || (!r4)) = true then
    some false
  else
    l_0 (0 : Int)
def go_spec_blTwo (k : Nat) (a0 : (Int × (Int × ((List Int) × Unit)))) (a1 : (Int × (Int × Unit))) (a2 : (List Int)) (a3 : (List Int)) : Option Bool :=
  go_spec_blTwo_T k a0 a1 a2 a3 (fun y => go_spec_blTwo_L0 k a0 a1 a2 a3 y)
theorem go_spec_blTwo_t (k : Nat) (a0 : (Int × (Int × ((List Int) × Unit)))) (a1 : (Int × (Int × Unit))) (a2 : (List Int)) (a3 : (List Int)) : runPure (go_spec_blTwo_C k) (bodyOf Go.Proofs.Try.f57) Go.Proofs.Try.f57.results.toList false (.pr (.val (.pair I (.pair I (.pair (.sl I) .unit)))) (.pr (.val (.pair I (.pair I .unit))) (.pr (.val (.sl I)) (.pr (.val (.sl I)) .un)))) (.val .bool) (a0, a1, a2, a3, ()) = go_spec_blTwo k a0 a1 a2 a3 := by
  have h : runPure (go_spec_blTwo_C k) (bodyOf Go.Proofs.Try.f57) Go.Proofs.Try.f57.results.toList false (.pr (.val (.pair I (.pair I (.pair (.sl I) .unit)))) (.pr (.val (.pair I (.pair I .unit))) (.pr (.val (.sl I)) (.pr (.val (.sl I)) .un)))) (.val .bool) (a0, a1, a2, a3, ()) = go_spec_blTwo_T k a0 a1 a2 a3 (fun y => iter k (loopAt (go_spec_blTwo_C k) (bodyOf Go.Proofs.Try.f57) [1, 1, 0, 1, 0] [] (finPure (go_spec_blTwo_C k) Go.Proofs.Try.f57.results.toList false (.val .bool))) (go_spec_blTwo_L0_E a0 a1 a2 a3 y)) := by kernel_rfl
  have h0 : (fun y => iter k (loopAt (go_spec_blTwo_C k) (bodyOf Go.Proofs.Try.f57) [1, 1, 0, 1, 0] [] (finPure (go_spec_blTwo_C k) Go.Proofs.Try.f57.results.toList false (.val .bool))) (go_spec_blTwo_L0_E a0 a1 a2 a3 y)) = (fun y => go_spec_blTwo_L0 k a0 a1 a2 a3 y) := by
    funext y
    exact go_spec_blTwo_L0_t k a0 a1 a2 a3 y
  rw [h, h0]
  rfl
def go_spec_blTwo_S (k : Nat) : Spec := ⟨(.pr (.val (.pair I (.pair I (.pair (.sl I) .unit)))) (.pr (.val (.pair I (.pair I .unit))) (.pr (.val (.sl I)) (.pr (.val (.sl I)) .un)))), (.val .bool), false, .inl fun x => go_spec_blTwo k x.1 x.2.1 x.2.2.1 x.2.2.2.1⟩
theorem go_spec_blTwo_F (k : Nat) : Fits Go.Proofs.Try.prog (go_spec_blTwo_C k) 57 Go.Proofs.Try.f57 (bodyOf Go.Proofs.Try.f57) (.pr (.val (.pair I (.pair I (.pair (.sl I) .unit)))) (.pr (.val (.pair I (.pair I .unit))) (.pr (.val (.sl I)) (.pr (.val (.sl I)) .un)))) (.val .bool) false :=
  ⟨th0, mixed0, by kernel_rfl, Go.Proofs.Try.func57, rfl, by kernel_rfl, rfl, rfl, rfl, rfl, rfl, rfl⟩
theorem go_spec_blTwo_M (k : Nat) : Meets Go.Proofs.Try.prog 57 (go_spec_blTwo_S k) :=
  meets_pure (go_spec_blTwo_F k) (sigs_all (l := [(64, go_spec_blWalk_S k), (107, go_spec_blClosed_S k), (105, go_spec_l1Has_S k)]) rfl ⟨go_spec_blWalk_M k, ⟨go_spec_blClosed_M k, ⟨go_spec_l1Has_M k, trivial⟩⟩⟩) rfl fun x => go_spec_blTwo_t k x.1 x.2.1 x.2.2.1 x.2.2.2.1

/-! ### spec.blJoin -/
def go_spec_blJoin_C (k : Nat) : Ctx := { th := TH, se := SE, sg := [(108, go_spec_boIs_S k)], mu := [], an := [], dr := [(5, 23)], pre := [], d2 := [], m := 0, fx := [], n := 61, k := k }
def go_spec_blJoin (k : Nat) (a0 : (Int × (Int × ((List Int) × Unit)))) (a1 : (Int × (Int × Unit))) (a2 : (List Int)) (a3 : (List Int)) (a4 : Int) (a5 : Int) (a6 : Bool) : Option Bool :=
  if (decide ((a3.length : Int) ≠ 0)) = true then
  if (inb (Int.tmod (IntKind.i64.wrap ((IntKind.i64.wrap (a5 + (a3.length : Int))) - (1 : Int))) (a3.length : Int)) a3.length) = true then
  if a6 = true then
    if (decide ((a3.length : Int) ≠ 0)) = true then
    if (inb (Int.tmod (IntKind.i64.wrap (a5 + (1 : Int))) (a3.length : Int)) a3.length) = true then
    if (inb a4 a2.length) = true then
    if (inb a5 a3.length) = true then
    (go_spec_boIs k a0 a1 (a2.getD a4.toNat (0 : Int)) (a3.getD a5.toNat (0 : Int))).bind fun r1 =>
    if (!r1 || (decide ((a2.length : Int) ≠ 0))) = true then
    if (!r1 || (inb (Int.tmod (IntKind.i64.wrap (a4 + (1 : Int))) (a2.length : Int)) a2.length)) = true then
    (if r1 = true then go_spec_boIs k a0 a1 (a3.getD (Int.tmod (IntKind.i64.wrap (a5 + (1 : Int))) (a3.length : Int)).toNat (0 : Int)) (a2.getD (Int.tmod (IntKind.i64.wrap (a4 + (1 : Int))) (a2.length : Int)).toNat (0 : Int)) else some false).bind fun r2 =>
    some (r1 && r2)
    else none
    else none
    else none
    else none
    else none
    else none
  else
    if (inb a4 a2.length) = true then
    if (inb a5 a3.length) = true then
    (go_spec_boIs k a0 a1 (a2.getD a4.toNat (0 : Int)) (a3.getD a5.toNat (0 : Int))).bind fun r3 =>
    if (!r3 || (decide ((a2.length : Int) ≠ 0))) = true then
    if (!r3 || (inb (Int.tmod (IntKind.i64.wrap (a4 + (1 : Int))) (a2.length : Int)) a2.length)) = true then
    (if r3 = true then go_spec_boIs k a0 a1 (a3.getD (Int.tmod (IntKind.i64.wrap ((IntKind.i64.wrap (a5 + (a3.length : Int))) - (1 : Int))) (a3.length : Int)).toNat (0 : Int)) (a2.getD (Int.tmod (IntKind.i64.wrap (a4 + (1 : Int))) (a2.length : Int)).toNat (0 : Int)) else some false).bind fun r4 =>
    some (r3 && r4)
    else none
    else none
    else none
    else none
  else none
  else none
theorem go_spec_blJoin_t (k : Nat) (a0 : (Int × (Int × ((List Int) × Unit)))) (a1 : (Int × (Int × Unit))) (a2 : (List Int)) (a3 : (List Int)) (a4 : Int) (a5 : Int) (a6 : Bool) : runPure (go_spec_blJoin_C k) (bodyOf Go.Proofs.Try.f58) Go.Proofs.Try.f58.results.toList false (.pr (.val (.pair I (.pair I (.pair (.sl I) .unit)))) (.pr (.val (.pair I (.pair I .unit))) (.pr (.val (.sl I)) (.pr (.val (.sl I)) (.pr (.val I) (.pr (.val I) (.pr (.val .bool) .un))))))) (.val .bool) (a0, a1, a2, a3, a4, a5, a6, ()) = go_spec_blJoin k a0 a1 a2 a3 a4 a5 a6 := by kernel_rfl
def go_spec_blJoin_S (k : Nat) : Spec := ⟨(.pr (.val (.pair I (.pair I (.pair (.sl I) .unit)))) (.pr (.val (.pair I (.pair I .unit))) (.pr (.val (.sl I)) (.pr (.val (.sl I)) (.pr (.val I) (.pr (.val I) (.pr (.val .bool) .un))))))), (.val .bool), false, .inl fun x => go_spec_blJoin k x.1 x.2.1 x.2.2.1 x.2.2.2.1 x.2.2.2.2.1 x.2.2.2.2.2.1 x.2.2.2.2.2.2.1⟩
theorem go_spec_blJoin_F (k : Nat) : Fits Go.Proofs.Try.prog (go_spec_blJoin_C k) 58 Go.Proofs.Try.f58 (bodyOf Go.Proofs.Try.f58) (.pr (.val (.pair I (.pair I (.pair (.sl I) .unit)))) (.pr (.val (.pair I (.pair I .unit))) (.pr (.val (.sl I)) (.pr (.val (.sl I)) (.pr (.val I) (.pr (.val I) (.pr (.val .bool) .un))))))) (.val .bool) false :=
  ⟨th0, mixed0, by kernel_rfl, Go.Proofs.Try.func58, rfl, by kernel_rfl, rfl, rfl, rfl, rfl, rfl, rfl⟩
theorem go_spec_blJoin_M (k : Nat) : Meets Go.Proofs.Try.prog 58 (go_spec_blJoin_S k) :=
  meets_pure (go_spec_blJoin_F k) (sigs_all (l := [(108, go_spec_boIs_S k)]) rfl ⟨go_spec_boIs_M k, trivial⟩) rfl fun x => go_spec_blJoin_t k x.1 x.2.1 x.2.2.1 x.2.2.2.1 x.2.2.2.2.1 x.2.2.2.2.2.1 x.2.2.2.2.2.2.1

/-! ### spec.JoinClosed -/
def go_spec_JoinClosed_C (k : Nat) : Ctx := { th := TH, se := SE, sg := [(57, go_spec_blTwo_S k), (58, go_spec_blJoin_S k), (59, go_spec_l1Own_S k)], mu := [52], an := [(5, [(2, false), (3, false), (4, false), (5, false), (10, false), (25, false), (26, false)]), (8, [(2, false), (3, false), (4, false), (5, false), (10, false), (11, false), (25, false), (26, false), (30, false), (31, false)]), (11, [(2, false), (3, false), (4, false), (5, false), (10, false), (11, false), (12, false), (13, false), (25, false), (26, false), (30, false), (31, false)]), (16, [(2, false), (3, false), (10, false), (11, false), (12, false), (13, false), (14, false), (15, false)])], dr := [], pre := [], d2 := [], m := 0, fx := [], n := 92, k := k }
def go_spec_JoinClosed_L0_E (a0 : (Int × (Int × ((List Int) × Unit)))) (a1 : (Int × (Int × Unit))) (a2 : (List Int)) (a3 : (List Int)) (x34 : (Int)) : St :=
  ⟨[(2, .one (.val (.sl I) a2), []), (3, .one (.val (.sl I) a3), []), (4, .one (.val (.pt (.pair I (.pair I (.pair (.sl I) .unit)))) (some a0)), []), (5, .one (.val (.pt (.pair I (.pair I .unit))) (some a1)), []), (10, .one (.val I (a3.length : Int)), []), (25, .one (.val I (a2.length : Int)), []), (26, .one (.val I x34), [])], [], []⟩
def go_spec_JoinClosed_L1_E (a0 : (Int × (Int × ((List Int) × Unit)))) (a1 : (Int × (Int × Unit))) (a2 : (List Int)) (a3 : (List Int)) (x34 : (Int)) (x51 : (Int)) : St :=
  ⟨[(2, .one (.val (.sl I) a2), []), (3, .one (.val (.sl I) a3), []), (4, .one (.val (.pt (.pair I (.pair I (.pair (.sl I) .unit)))) (some a0)), []), (5, .one (.val (.pt (.pair I (.pair I .unit))) (some a1)), []), (10, .one (.val I (a3.length : Int)), []), (11, .one (.val I x34), []), (25, .one (.val I (a2.length : Int)), []), (26, .one (.val I x34), []), (30, .one (.val I (a3.length : Int)), []), (31, .one (.val I x51), [])], [], []⟩
def go_spec_JoinClosed_L2_E (a0 : (Int × (Int × ((List Int) × Unit)))) (a1 : (Int × (Int × Unit))) (a2 : (List Int)) (a3 : (List Int)) (x34 : (Int)) (x51 : (Int)) (x56 : (Int)) : St :=
  ⟨[(2, .one (.val (.sl I) a2), []), (3, .one (.val (.sl I) a3), []), (4, .one (.val (.pt (.pair I (.pair I (.pair (.sl I) .unit)))) (some a0)), []), (5, .one (.val (.pt (.pair I (.pair I .unit))) (some a1)), []), (10, .one (.val I (a3.length : Int)), []), (11, .one (.val I x34), []), (12, .one (.val I x51), []), (13, .one (.val I x56), []), (25, .one (.val I (a2.length : Int)), []), (26, .one (.val I x34), []), (30, .one (.val I (a3.length : Int)), []), (31, .one (.val I x51), [])], [], []⟩
def go_spec_JoinClosed_L3_E (a0 : (Int × (Int × ((List Int) × Unit)))) (a1 : (Int × (Int × Unit))) (a2 : (List Int)) (a3 : (List Int)) (x34 : (Int)) (x51 : (Int)) (x56 : (Int)) (x64 : (Int × (List Int))) : St :=
  ⟨[(2, .one (.val (.sl I) a2), []), (3, .one (.val (.sl I) a3), []), (10, .one (.val I (a3.length : Int)), []), (11, .one (.val I x34), []), (12, .one (.val I x51), []), (13, .one (.val I x56), []), (14, .one (.own 0), []), (15, .one (.val I x64.1), [])], [.arr 3 I x64.2], []⟩
def go_spec_JoinClosed_L3_G (k : Nat) (a0 : (Int × (Int × ((List Int) × Unit)))) (a1 : (Int × (Int × Unit))) (a2 : (List Int)) (a3 : (List Int)) (x34 : (Int)) (x51 : (Int)) (x56 : (Int)) (rec35 : (Int) → Option ((List Int) × (Bool × Unit))) (rec52 : (Int) → Option ((List Int) × (Bool × Unit))) (rec57 : (Int) → Option ((List Int) × (Bool × Unit))) (rec65 : (Int × (List Int)) → Option ((List Int) × (Bool × Unit))) (x64 : (Int × (List Int))) : Option ((List Int) × (Bool × Unit)) :=
  if (decide (x64.1 < (a3.length : Int))) = true then
    if (decide (x56 = (0 : Int))) = true then
      if (decide ((a3.length : Int) ≠ 0)) = true then
      if (inb (Int.tmod (IntKind.i64.wrap (x51 + x64.1)) (a3.length : Int)) a3.length) = true then
      if (decide (x64.2.length + [(a3.getD (Int.tmod (IntKind.i64.wrap (x51 + x64.1)) (a3.length : Int)).toNat (0 : Int))].length ≤ LIM)) = true then
      rec65 ((IntKind.i64.wrap (x64.1 + (1 : Int))), (x64.2 ++ [(a3.getD (Int.tmod (IntKind.i64.wrap (x51 + x64.1)) (a3.length : Int)).toNat (0 : Int))]))
      else none
      else none
      else none
    else
      if (decide ((a3.length : Int) ≠ 0)) = true then
      if (inb (Int.tmod (IntKind.i64.wrap ((IntKind.i64.wrap (x51 + (a3.length : Int))) - x64.1)) (a3.length : Int)) a3.length) = true then
      if (decide (x64.2.length + [(a3.getD (Int.tmod (IntKind.i64.wrap ((IntKind.i64.wrap (x51 + (a3.length : Int))) - x64.1)) (a3.length : Int)).toNat (0 : Int))].length ≤ LIM)) = true then
      rec65 ((IntKind.i64.wrap (x64.1 + (1 : Int))), (x64.2 ++ [(a3.getD (Int.tmod (IntKind.i64.wrap ((IntKind.i64.wrap (x51 + (a3.length : Int))) - x64.1)) (a3.length : Int)).toNat (0 : Int))]))
      else none
      else none
      else none
  else
    if (decide (0 ≤ (IntKind.i64.wrap (x34 + (1 : Int))) ∧ (IntKind.i64.wrap (x34 + (1 : Int))) ≤ (a2.length : Int) ∧ (a2.length : Int) ≤ (a2.length : Int))) = true then
    if (decide (x64.2.length + ((a2.take (a2.length : Int).toNat).drop (IntKind.i64.wrap (x34 + (1 : Int))).toNat).length ≤ LIM)) = true then
    some ((x64.2 ++ ((a2.take (a2.length : Int).toNat).drop (IntKind.i64.wrap (x34 + (1 : Int))).toNat)), (true, ()))
    else none
    else none
def go_spec_JoinClosed_L3 (k : Nat) (a0 : (Int × (Int × ((List Int) × Unit)))) (a1 : (Int × (Int × Unit))) (a2 : (List Int)) (a3 : (List Int)) (rec35 : (Int) → Option ((List Int) × (Bool × Unit))) (rec52 : (Int) → Option ((List Int) × (Bool × Unit))) (rec57 : (Int) → Option ((List Int) × (Bool × Unit))) (x34 : (Int)) (x51 : (Int)) (x56 : (Int)) : (Int × (List Int)) → Option ((List Int) × (Bool × Unit)) :=
  iter k fun rec65 x64 => go_spec_JoinClosed_L3_G k a0 a1 a2 a3 x34 x51 x56 rec35 rec52 rec57 rec65 x64
theorem go_spec_JoinClosed_L3_t (k : Nat) (a0 : (Int × (Int × ((List Int) × Unit)))) (a1 : (Int × (Int × Unit))) (a2 : (List Int)) (a3 : (List Int)) (s0 : St → Option ((List Int) × (Bool × Unit))) (s1 : St → Option ((List Int) × (Bool × Unit))) (s2 : St → Option ((List Int) × (Bool × Unit))) (x34 : (Int)) (x51 : (Int)) (x56 : (Int)) (x : (Int × (List Int))) :
    iter k (loopAt (go_spec_JoinClosed_C k) (bodyOf Go.Proofs.Try.f23) [1, 1, 1, 0, 1, 0, 0, 1, 1, 0, 0, 1, 1, 0, 0, 1, 1, 0, 0, 1, 1, 0, 0, 1, 0, 0, 1, 1, 0, 1, 0] [s0, s1, s2] (finPure (go_spec_JoinClosed_C k) Go.Proofs.Try.f23.results.toList true (.pr (.val (.sl I)) (.pr (.val .bool) .un)))) (go_spec_JoinClosed_L3_E a0 a1 a2 a3 x34 x51 x56 x) = go_spec_JoinClosed_L3 k a0 a1 a2 a3 (fun y => s0 (go_spec_JoinClosed_L0_E a0 a1 a2 a3 y)) (fun y => s1 (go_spec_JoinClosed_L1_E a0 a1 a2 a3 x34 y)) (fun y => s2 (go_spec_JoinClosed_L2_E a0 a1 a2 a3 x34 x51 y)) x34 x51 x56 x := by
  refine iter_tie (G := fun rec x => go_spec_JoinClosed_L3_G k a0 a1 a2 a3 x34 x51 x56 (fun y => s0 (go_spec_JoinClosed_L0_E a0 a1 a2 a3 y)) (fun y => s1 (go_spec_JoinClosed_L1_E a0 a1 a2 a3 x34 y)) (fun y => s2 (go_spec_JoinClosed_L2_E a0 a1 a2 a3 x34 x51 y)) rec x) (go_spec_JoinClosed_L3_E a0 a1 a2 a3 x34 x51 x56) (fun rec x => ?_) k x
  have h : loopAt (go_spec_JoinClosed_C k) (bodyOf Go.Proofs.Try.f23) [1, 1, 1, 0, 1, 0, 0, 1, 1, 0, 0, 1, 1, 0, 0, 1, 1, 0, 0, 1, 1, 0, 0, 1, 0, 0, 1, 1, 0, 1, 0] [s0, s1, s2] (finPure (go_spec_JoinClosed_C k) Go.Proofs.Try.f23.results.toList true (.pr (.val (.sl I)) (.pr (.val .bool) .un))) rec (go_spec_JoinClosed_L3_E a0 a1 a2 a3 x34 x51 x56 x) = go_spec_JoinClosed_L3_G k a0 a1 a2 a3 x34 x51 x56 (fun y => s0 (go_spec_JoinClosed_L0_E a0 a1 a2 a3 y)) (fun y => s1 (go_spec_JoinClosed_L1_E a0 a1 a2 a3 x34 y)) (fun y => s2 (go_spec_JoinClosed_L2_E a0 a1 a2 a3 x34 x51 y)) (fun y => rec (go_spec_JoinClosed_L3_E a0 a1 a2 a3 x34 x51 x56 y)) x := by kernel_rfl
  rw [h]
def go_spec_JoinClosed_L2_G (k : Nat) (a0 : (Int × (Int × ((List Int) × Unit)))) (a1 : (Int × (Int × Unit))) (a2 : (List Int)) (a3 : (List Int)) (x34 : (Int)) (x51 : (Int)) (l_3 : (Int) → (Int × (List Int)) → Option ((List Int) × (Bool × Unit))) (rec35 : (Int) → Option ((List Int) × (Bool × Unit))) (rec52 : (Int) → Option ((List Int) × (Bool × Unit))) (rec57 : (Int) → Option ((List Int) × (Bool × Unit))) (x56 : (Int)) : Option ((List Int) × (Bool × Unit)) :=
  if (decide (x56 < (2 : Int))) = true then
    (go_spec_blJoin k a0 a1 a2 a3 x34 x51 (decide (x56 = (1 : Int)))).bind fun r58 =>
    if (!r58) = true then
      rec57 (IntKind.i64.wrap (x56 + (1 : Int)))
    else
      if (decide (0 ≤ (0 : Int) ∧ (0 : Int) ≤ (IntKind.i64.wrap (x34 + (1 : Int))) ∧ (IntKind.i64.wrap (x34 + (1 : Int))) ≤ (a2.length : Int))) = true then
      (go_spec_l1Own k ((a2.take (IntKind.i64.wrap (x34 + (1 : Int))).toNat).drop (0 : Int).toNat)).bind fun r59 =>
      l_3 x56 ((0 : Int), r59)
      else none
  else
    rec52 (IntKind.i64.wrap (x51 + (1 : Int)))
def go_spec_JoinClosed_L2 (k : Nat) (a0 : (Int × (Int × ((List Int) × Unit)))) (a1 : (Int × (Int × Unit))) (a2 : (List Int)) (a3 : (List Int)) (rec35 : (Int) → Option ((List Int) × (Bool × Unit))) (rec52 : (Int) → Option ((List Int) × (Bool × Unit))) (x34 : (Int)) (x51 : (Int)) : (Int) → Option ((List Int) × (Bool × Unit)) :=
  iter k fun rec57 x56 => go_spec_JoinClosed_L2_G k a0 a1 a2 a3 x34 x51 (fun c0 y => go_spec_JoinClosed_L3 k a0 a1 a2 a3 rec35 rec52 rec57 x34 x51 c0 y) rec35 rec52 rec57 x56
theorem go_spec_JoinClosed_L2_t (k : Nat) (a0 : (Int × (Int × ((List Int) × Unit)))) (a1 : (Int × (Int × Unit))) (a2 : (List Int)) (a3 : (List Int)) (s0 : St → Option ((List Int) × (Bool × Unit))) (s1 : St → Option ((List Int) × (Bool × Unit))) (x34 : (Int)) (x51 : (Int)) (x : (Int)) :
    iter k (loopAt (go_spec_JoinClosed_C k) (bodyOf Go.Proofs.Try.f23) [1, 1, 1, 0, 1, 0, 0, 1, 1, 0, 0, 1, 1, 0, 0, 1, 1, 0, 0, 1, 1, 0] [s0, s1] (finPure (go_spec_JoinClosed_C k) Go.Proofs.Try.f23.results.toList true (.pr (.val (.sl I)) (.pr (.val .bool) .un)))) (go_spec_JoinClosed_L2_E a0 a1 a2 a3 x34 x51 x) = go_spec_JoinClosed_L2 k a0 a1 a2 a3 (fun y => s0 (go_spec_JoinClosed_L0_E a0 a1 a2 a3 y)) (fun y => s1 (go_spec_JoinClosed_L1_E a0 a1 a2 a3 x34 y)) x34 x51 x := by
  refine iter_tie (G := fun rec x => go_spec_JoinClosed_L2_G k a0 a1 a2 a3 x34 x51 (fun c0 y => go_spec_JoinClosed_L3 k a0 a1 a2 a3 (fun y => s0 (go_spec_JoinClosed_L0_E a0 a1 a2 a3 y)) (fun y => s1 (go_spec_JoinClosed_L1_E a0 a1 a2 a3 x34 y)) rec x34 x51 c0 y) (fun y => s0 (go_spec_JoinClosed_L0_E a0 a1 a2 a3 y)) (fun y => s1 (go_spec_JoinClosed_L1_E a0 a1 a2 a3 x34 y)) rec x) (go_spec_JoinClosed_L2_E a0 a1 a2 a3 x34 x51) (fun rec x => ?_) k x
  have h : loopAt (go_spec_JoinClosed_C k) (bodyOf Go.Proofs.Try.f23) [1, 1, 1, 0, 1, 0, 0, 1, 1, 0, 0, 1, 1, 0, 0, 1, 1, 0, 0, 1, 1, 0] [s0, s1] (finPure (go_spec_JoinClosed_C k) Go.Proofs.Try.f23.results.toList true (.pr (.val (.sl I)) (.pr (.val .bool) .un))) rec (go_spec_JoinClosed_L2_E a0 a1 a2 a3 x34 x51 x) = go_spec_JoinClosed_L2_G k a0 a1 a2 a3 x34 x51 (fun c0 y => iter k (loopAt (go_spec_JoinClosed_C k) (bodyOf Go.Proofs.Try.f23) [1, 1, 1, 0, 1, 0, 0, 1, 1, 0, 0, 1, 1, 0, 0, 1, 1, 0, 0, 1, 1, 0, 0, 1, 0, 0, 1, 1, 0, 1, 0] [s0, s1, rec] (finPure (go_spec_JoinClosed_C k) Go.Proofs.Try.f23.results.toList true (.pr (.val (.sl I)) (.pr (.val .bool) .un)))) (go_spec_JoinClosed_L3_E a0 a1 a2 a3 x34 x51 c0 y)) (fun y => s0 (go_spec_JoinClosed_L0_E a0 a1 a2 a3 y)) (fun y => s1 (go_spec_JoinClosed_L1_E a0 a1 a2 a3 x34 y)) (fun y => rec (go_spec_JoinClosed_L2_E a0 a1 a2 a3 x34 x51 y)) x := by kernel_rfl
  have h0 : (fun c0 y => iter k (loopAt (go_spec_JoinClosed_C k) (bodyOf Go.Proofs.Try.f23) [1, 1, 1, 0, 1, 0, 0, 1, 1, 0, 0, 1, 1, 0, 0, 1, 1, 0, 0, 1, 1, 0, 0, 1, 0, 0, 1, 1, 0, 1, 0] [s0, s1, rec] (finPure (go_spec_JoinClosed_C k) Go.Proofs.Try.f23.results.toList true (.pr (.val (.sl I)) (.pr (.val .bool) .un)))) (go_spec_JoinClosed_L3_E a0 a1 a2 a3 x34 x51 c0 y)) = (fun c0 y => go_spec_JoinClosed_L3 k a0 a1 a2 a3 (fun y => s0 (go_spec_JoinClosed_L0_E a0 a1 a2 a3 y)) (fun y => s1 (go_spec_JoinClosed_L1_E a0 a1 a2 a3 x34 y)) (fun y => rec (go_spec_JoinClosed_L2_E a0 a1 a2 a3 x34 x51 y)) x34 x51 c0 y) := by
    funext c0 y
    exact go_spec_JoinClosed_L3_t k a0 a1 a2 a3 s0 s1 rec x34 x51 c0 y
  rw [h, h0]
def go_spec_JoinClosed_L1_G (k : Nat) (a0 : (Int × (Int × ((List Int) × Unit)))) (a1 : (Int × (Int × Unit))) (a2 : (List Int)) (a3 : (List Int)) (x34 : (Int)) (l_2 : (Int) → (Int) → Option ((List Int) × (Bool × Unit))) (rec35 : (Int) → Option ((List Int) × (Bool × Unit))) (rec52 : (Int) → Option ((List Int) × (Bool × Unit))) (x51 : (Int)) : Option ((List Int) × (Bool × Unit)) :=
  if (decide (x51 < (a3.length : Int))) = true then
    l_2 x51 (0 : Int)
  else
    rec35 (IntKind.i64.wrap (x34 + (1 : Int)))
def go_spec_JoinClosed_L1 (k : Nat) (a0 : (Int × (Int × ((List Int) × Unit)))) (a1 : (Int × (Int × Unit))) (a2 : (List Int)) (a3 : (List Int)) (rec35 : (Int) → Option ((List Int) × (Bool × Unit))) (x34 : (Int)) : (Int) → Option ((List Int) × (Bool × Unit)) :=
  iter k fun rec52 x51 => go_spec_JoinClosed_L1_G k a0 a1 a2 a3 x34 (fun c0 y => go_spec_JoinClosed_L2 k a0 a1 a2 a3 rec35 rec52 x34 c0 y) rec35 rec52 x51
theorem go_spec_JoinClosed_L1_t (k : Nat) (a0 : (Int × (Int × ((List Int) × Unit)))) (a1 : (Int × (Int × Unit))) (a2 : (List Int)) (a3 : (List Int)) (s0 : St → Option ((List Int) × (Bool × Unit))) (x34 : (Int)) (x : (Int)) :
    iter k (loopAt (go_spec_JoinClosed_C k) (bodyOf Go.Proofs.Try.f23) [1, 1, 1, 0, 1, 0, 0, 1, 1, 0, 0, 1, 1, 0] [s0] (finPure (go_spec_JoinClosed_C k) Go.Proofs.Try.f23.results.toList true (.pr (.val (.sl I)) (.pr (.val .bool) .un)))) (go_spec_JoinClosed_L1_E a0 a1 a2 a3 x34 x) = go_spec_JoinClosed_L1 k a0 a1 a2 a3 (fun y => s0 (go_spec_JoinClosed_L0_E a0 a1 a2 a3 y)) x34 x := by
  refine iter_tie (G := fun rec x => go_spec_JoinClosed_L1_G k a0 a1 a2 a3 x34 (fun c0 y => go_spec_JoinClosed_L2 k a0 a1 a2 a3 (fun y => s0 (go_spec_JoinClosed_L0_E a0 a1 a2 a3 y)) rec x34 c0 y) (fun y => s0 (go_spec_JoinClosed_L0_E a0 a1 a2 a3 y)) rec x) (go_spec_JoinClosed_L1_E a0 a1 a2 a3 x34) (fun rec x => ?_) k x
  have h : loopAt (go_spec_JoinClosed_C k) (bodyOf Go.Proofs.Try.f23) [1, 1, 1, 0, 1, 0, 0, 1, 1, 0, 0, 1, 1, 0] [s0] (finPure (go_spec_JoinClosed_C k) Go.Proofs.Try.f23.results.toList true (.pr (.val (.sl I)) (.pr (.val .bool) .un))) rec (go_spec_JoinClosed_L1_E a0 a1 a2 a3 x34 x) = go_spec_JoinClosed_L1_G k a0 a1 a2 a3 x34 (fun c0 y => iter k (loopAt (go_spec_JoinClosed_C k) (bodyOf Go.Proofs.Try.f23) [1, 1, 1, 0, 1, 0, 0, 1, 1, 0, 0, 1, 1, 0, 0, 1, 1, 0, 0, 1, 1, 0] [s0, rec] (finPure (go_spec_JoinClosed_C k) Go.Proofs.Try.f23.results.toList true (.pr (.val (.sl I)) (.pr (.val .bool) .un)))) (go_spec_JoinClosed_L2_E a0 a1 a2 a3 x34 c0 y)) (fun y => s0 (go_spec_JoinClosed_L0_E a0 a1 a2 a3 y)) (fun y => rec (go_spec_JoinClosed_L1_E a0 a1 a2 a3 x34 y)) x := by kernel_rfl
  have h0 : (fun c0 y => iter k (loopAt (go_spec_JoinClosed_C k) (bodyOf Go.Proofs.Try.f23) [1, 1, 1, 0, 1, 0, 0, 1, 1, 0, 0, 1, 1, 0, 0, 1, 1, 0, 0, 1, 1, 0] [s0, rec] (finPure (go_spec_JoinClosed_C k) Go.Proofs.Try.f23.results.toList true (.pr (.val (.sl I)) (.pr (.val .bool) .un)))) (go_spec_JoinClosed_L2_E a0 a1 a2 a3 x34 c0 y)) = (fun c0 y => go_spec_JoinClosed_L2 k a0 a1 a2 a3 (fun y => s0 (go_spec_JoinClosed_L0_E a0 a1 a2 a3 y)) (fun y => rec (go_spec_JoinClosed_L1_E a0 a1 a2 a3 x34 y)) x34 c0 y) := by
    funext c0 y
    exact go_spec_JoinClosed_L2_t k a0 a1 a2 a3 s0 rec x34 c0 y
  rw [h, h0]
def go_spec_JoinClosed_L0_G (k : Nat) (a0 : (Int × (Int × ((List Int) × Unit)))) (a1 : (Int × (Int × Unit))) (a2 : (List Int)) (a3 : (List Int)) (l_1 : (Int) → (Int) → Option ((List Int) × (Bool × Unit))) (rec35 : (Int) → Option ((List Int) × (Bool × Unit))) (x34 : (Int)) : Option ((List Int) × (Bool × Unit)) :=
  if (decide (x34 < (a2.length : Int))) = true then
    l_1 x34 (0 : Int)
  else
    some ([], (false, ()))
def go_spec_JoinClosed_L0 (k : Nat) (a0 : (Int × (Int × ((List Int) × Unit)))) (a1 : (Int × (Int × Unit))) (a2 : (List Int)) (a3 : (List Int)) : (Int) → Option ((List Int) × (Bool × Unit)) :=
  iter k fun rec35 x34 => go_spec_JoinClosed_L0_G k a0 a1 a2 a3 (fun c0 y => go_spec_JoinClosed_L1 k a0 a1 a2 a3 rec35 c0 y) rec35 x34
theorem go_spec_JoinClosed_L0_t (k : Nat) (a0 : (Int × (Int × ((List Int) × Unit)))) (a1 : (Int × (Int × Unit))) (a2 : (List Int)) (a3 : (List Int)) (x : (Int)) :
    iter k (loopAt (go_spec_JoinClosed_C k) (bodyOf Go.Proofs.Try.f23) [1, 1, 1, 0, 1, 0] [] (finPure (go_spec_JoinClosed_C k) Go.Proofs.Try.f23.results.toList true (.pr (.val (.sl I)) (.pr (.val .bool) .un)))) (go_spec_JoinClosed_L0_E a0 a1 a2 a3 x) = go_spec_JoinClosed_L0 k a0 a1 a2 a3 x := by
  refine iter_tie (G := fun rec x => go_spec_JoinClosed_L0_G k a0 a1 a2 a3 (fun c0 y => go_spec_JoinClosed_L1 k a0 a1 a2 a3 rec c0 y) rec x) (go_spec_JoinClosed_L0_E a0 a1 a2 a3) (fun rec x => ?_) k x
  have h : loopAt (go_spec_JoinClosed_C k) (bodyOf Go.Proofs.Try.f23) [1, 1, 1, 0, 1, 0] [] (finPure (go_spec_JoinClosed_C k) Go.Proofs.Try.f23.results.toList true (.pr (.val (.sl I)) (.pr (.val .bool) .un))) rec (go_spec_JoinClosed_L0_E a0 a1 a2 a3 x) = go_spec_JoinClosed_L0_G k a0 a1 a2 a3 (fun c0 y => iter k (loopAt (go_spec_JoinClosed_C k) (bodyOf Go.Proofs.Try.f23) [1, 1, 1, 0, 1, 0, 0, 1, 1, 0, 0, 1, 1, 0] [rec] (finPure (go_spec_JoinClosed_C k) Go.Proofs.Try.f23.results.toList true (.pr (.val (.sl I)) (.pr (.val .bool) .un)))) (go_spec_JoinClosed_L1_E a0 a1 a2 a3 c0 y)) (fun y => rec (go_spec_JoinClosed_L0_E a0 a1 a2 a3 y)) x := by kernel_rfl
  have h0 : (fun c0 y => iter k (loopAt (go_spec_JoinClosed_C k) (bodyOf Go.Proofs.Try.f23) [1, 1, 1, 0, 1, 0, 0, 1, 1, 0, 0, 1, 1, 0] [rec] (finPure (go_spec_JoinClosed_C k) Go.Proofs.Try.f23.results.toList true (.pr (.val (.sl I)) (.pr (.val .bool) .un)))) (go_spec_JoinClosed_L1_E a0 a1 a2 a3 c0 y)) = (fun c0 y => go_spec_JoinClosed_L1 k a0 a1 a2 a3 (fun y => rec (go_spec_JoinClosed_L0_E a0 a1 a2 a3 y)) c0 y) := by
    funext c0 y
    exact go_spec_JoinClosed_L1_t k a0 a1 a2 a3 rec c0 y
  rw [h, h0]
def go_spec_JoinClosed_T (k : Nat) (a0 : (Int × (Int × ((List Int) × Unit)))) (a1 : (Int × (Int × Unit))) (a2 : (List Int)) (a3 : (List Int)) (l_0 : (Int) → Option ((List Int) × (Bool × Unit))) : Option ((List Int) × (Bool × Unit)) :=
  (go_spec_blTwo k a0 a1 a2 a3).bind fun r1 =>
  if (!r1) = true then
    some ([], (false, ()))
  else
    l_0 (0 : Int)
def go_spec_JoinClosed (k : Nat) (a0 : (Int × (Int × ((List Int) × Unit)))) (a1 : (Int × (Int × Unit))) (a2 : (List Int)) (a3 : (List Int)) : Option ((List Int) × (Bool × Unit)) :=
  go_spec_JoinClosed_T k a0 a1 a2 a3 (fun y => go_spec_JoinClosed_L0 k a0 a1 a2 a3 y)
theorem go_spec_JoinClosed_t (k : Nat) (a0 : (Int × (Int × ((List Int) × Unit)))) (a1 : (Int × (Int × Unit))) (a2 : (List Int)) (a3 : (List Int)) : runPure (go_spec_JoinClosed_C k) (bodyOf Go.Proofs.Try.f23) Go.Proofs.Try.f23.results.toList true (.pr (.val (.pair I (.pair I (.pair (.sl I) .unit)))) (.pr (.val (.pair I (.pair I .unit))) (.pr (.val (.sl I)) (.pr (.val (.sl I)) .un)))) (.pr (.val (.sl I)) (.pr (.val .bool) .un)) (a0, a1, a2, a3, ()) = go_spec_JoinClosed k a0 a1 a2 a3 := by
  have h : runPure (go_spec_JoinClosed_C k) (bodyOf Go.Proofs.Try.f23) Go.Proofs.Try.f23.results.toList true (.pr (.val (.pair I (.pair I (.pair (.sl I) .unit)))) (.pr (.val (.pair I (.pair I .unit))) (.pr (.val (.sl I)) (.pr (.val (.sl I)) .un)))) (.pr (.val (.sl I)) (.pr (.val .bool) .un)) (a0, a1, a2, a3, ()) = go_spec_JoinClosed_T k a0 a1 a2 a3 (fun y => iter k (loopAt (go_spec_JoinClosed_C k) (bodyOf Go.Proofs.Try.f23) [1, 1, 1, 0, 1, 0] [] (finPure (go_spec_JoinClosed_C k) Go.Proofs.Try.f23.results.toList true (.pr (.val (.sl I)) (.pr (.val .bool) .un)))) (go_spec_JoinClosed_L0_E a0 a1 a2 a3 y)) := by kernel_rfl
  have h0 : (fun y => iter k (loopAt (go_spec_JoinClosed_C k) (bodyOf Go.Proofs.Try.f23) [1, 1, 1, 0, 1, 0] [] (finPure (go_spec_JoinClosed_C k) Go.Proofs.Try.f23.results.toList true (.pr (.val (.sl I)) (.pr (.val .bool) .un)))) (go_spec_JoinClosed_L0_E a0 a1 a2 a3 y)) = (fun y => go_spec_JoinClosed_L0 k a0 a1 a2 a3 y) := by
    funext y
    exact go_spec_JoinClosed_L0_t k a0 a1 a2 a3 y
  rw [h, h0]
  rfl
def go_spec_JoinClosed_S (k : Nat) : Spec := ⟨(.pr (.val (.pair I (.pair I (.pair (.sl I) .unit)))) (.pr (.val (.pair I (.pair I .unit))) (.pr (.val (.sl I)) (.pr (.val (.sl I)) .un)))), (.pr (.val (.sl I)) (.pr (.val .bool) .un)), true, .inl fun x => go_spec_JoinClosed k x.1 x.2.1 x.2.2.1 x.2.2.2.1⟩
theorem go_spec_JoinClosed_F (k : Nat) : Fits Go.Proofs.Try.prog (go_spec_JoinClosed_C k) 23 Go.Proofs.Try.f23 (bodyOf Go.Proofs.Try.f23) (.pr (.val (.pair I (.pair I (.pair (.sl I) .unit)))) (.pr (.val (.pair I (.pair I .unit))) (.pr (.val (.sl I)) (.pr (.val (.sl I)) .un)))) (.pr (.val (.sl I)) (.pr (.val .bool) .un)) true :=
  ⟨th0, mixed0, by kernel_rfl, Go.Proofs.Try.func23, rfl, by kernel_rfl, rfl, rfl, rfl, rfl, rfl, rfl⟩
theorem go_spec_JoinClosed_M (k : Nat) : Meets Go.Proofs.Try.prog 23 (go_spec_JoinClosed_S k) :=
  meets_pure (go_spec_JoinClosed_F k) (sigs_all (l := [(57, go_spec_blTwo_S k), (58, go_spec_blJoin_S k), (59, go_spec_l1Own_S k)]) rfl ⟨go_spec_blTwo_M k, ⟨go_spec_blJoin_M k, ⟨go_spec_l1Own_M k, trivial⟩⟩⟩) rfl fun x => go_spec_JoinClosed_t k x.1 x.2.1 x.2.2.1 x.2.2.2.1

/-! ### impl.walkGraph -/
def go_impl_walkGraph_C (k : Nat) : Ctx := { th := TH, se := SE, sg := [(70, go_impl_graphOf_S k), (106, go_impl_graph_isWalk_S k)], mu := [], an := [], dr := [], pre := [], d2 := [], m := 0, fx := [], n := 25, k := k }
def go_impl_walkGraph (k : Nat) (a0 : (Int × (Int × ((List Int) × Unit)))) (a1 : (Int × (Int × Unit))) (a2 : (List Int)) : Option ((Option ((Int × (Int × ((List Int) × Unit))) × ((Int × (Int × Unit)) × ((List Int) × ((List (List Int)) × Unit))))) × (Bool × Unit)) :=
  (go_impl_graphOf k a0 a1).bind fun r1 =>
  (if (!(!r1.2.1)) = true then go_impl_graph_isWalk k r1.1 a2 else some false).bind fun r2 =>
  if ((!r1.2.1) || (!r2)) = true then
    some (none, (false, ()))
  else
    some (r1.1, (true, ()))
theorem go_impl_walkGraph_t (k : Nat) (a0 : (Int × (Int × ((List Int) × Unit)))) (a1 : (Int × (Int × Unit))) (a2 : (List Int)) : runPure (go_impl_walkGraph_C k) (bodyOf Go.Proofs.Try.f55) Go.Proofs.Try.f55.results.toList true (.pr (.val (.pair I (.pair I (.pair (.sl I) .unit)))) (.pr (.val (.pair I (.pair I .unit))) (.pr (.val (.sl I)) .un))) (.pr (.val (.pt (.pair (.pair I (.pair I (.pair (.sl I) .unit))) (.pair (.pair I (.pair I .unit)) (.pair (.sl I) (.pair (.sl (.sl I)) .unit)))))) (.pr (.val .bool) .un)) (a0, a1, a2, ()) = go_impl_walkGraph k a0 a1 a2 := by kernel_rfl
def go_impl_walkGraph_S (k : Nat) : Spec := ⟨(.pr (.val (.pair I (.pair I (.pair (.sl I) .unit)))) (.pr (.val (.pair I (.pair I .unit))) (.pr (.val (.sl I)) .un))), (.pr (.val (.pt (.pair (.pair I (.pair I (.pair (.sl I) .unit))) (.pair (.pair I (.pair I .unit)) (.pair (.sl I) (.pair (.sl (.sl I)) .unit)))))) (.pr (.val .bool) .un)), true, .inl fun x => go_impl_walkGraph k x.1 x.2.1 x.2.2.1⟩
theorem go_impl_walkGraph_F (k : Nat) : Fits Go.Proofs.Try.prog (go_impl_walkGraph_C k) 55 Go.Proofs.Try.f55 (bodyOf Go.Proofs.Try.f55) (.pr (.val (.pair I (.pair I (.pair (.sl I) .unit)))) (.pr (.val (.pair I (.pair I .unit))) (.pr (.val (.sl I)) .un))) (.pr (.val (.pt (.pair (.pair I (.pair I (.pair (.sl I) .unit))) (.pair (.pair I (.pair I .unit)) (.pair (.sl I) (.pair (.sl (.sl I)) .unit)))))) (.pr (.val .bool) .un)) true :=
  ⟨th0, mixed0, by kernel_rfl, Go.Proofs.Try.func55, rfl, by kernel_rfl, rfl, rfl, rfl, rfl, rfl, rfl⟩
theorem go_impl_walkGraph_M (k : Nat) : Meets Go.Proofs.Try.prog 55 (go_impl_walkGraph_S k) :=
  meets_pure (go_impl_walkGraph_F k) (sigs_all (l := [(70, go_impl_graphOf_S k), (106, go_impl_graph_isWalk_S k)]) rfl ⟨go_impl_graphOf_M k, ⟨go_impl_graph_isWalk_M k, trivial⟩⟩) rfl fun x => go_impl_walkGraph_t k x.1 x.2.1 x.2.2.1

/-! ### impl.apart -/
def go_impl_apart_C (k : Nat) : Ctx := { th := TH, se := SE, sg := [(55, go_impl_walkGraph_S k), (106, go_impl_graph_isWalk_S k), (109, go_slices_Contains_int_S k)], mu := [], an := [(5, [(3, false), (10, false), (29, false), (30, false), (31, false)])], dr := [], pre := [], d2 := [], m := 0, fx := [], n := 40, k := k }
def go_impl_apart_L0_E (a0 : (Int × (Int × ((List Int) × Unit)))) (a1 : (Int × (Int × Unit))) (a2 : (List Int)) (a3 : (List Int)) (r1 : ((Option ((Int × (Int × ((List Int) × Unit))) × ((Int × (Int × Unit)) × ((List Int) × ((List (List Int)) × Unit))))) × (Bool × Unit))) (x6 : (Int)) : St :=
  ⟨[(3, .one (.val (.sl I) a3), []), (10, .one (.val (.pt (.pair (.pair I (.pair I (.pair (.sl I) .unit))) (.pair (.pair I (.pair I .unit)) (.pair (.sl I) (.pair (.sl (.sl I)) .unit))))) r1.1), []), (29, .one (.val (.sl I) a2), []), (30, .one (.val I (a2.length : Int)), []), (31, .one (.val I x6), [])], [], []⟩
def go_impl_apart_L0_G (k : Nat) (a0 : (Int × (Int × ((List Int) × Unit)))) (a1 : (Int × (Int × Unit))) (a2 : (List Int)) (a3 : (List Int)) (r1 : ((Option ((Int × (Int × ((List Int) × Unit))) × ((Int × (Int × Unit)) × ((List Int) × ((List (List Int)) × Unit))))) × (Bool × Unit))) (rec7 : (Int) → Option ((Option ((Int × (Int × ((List Int) × Unit))) × ((Int × (Int × Unit)) × ((List Int) × ((List (List Int)) × Unit))))) × (Bool × Unit))) (x6 : (Int)) : Option ((Option ((Int × (Int × ((List Int) × Unit))) × ((Int × (Int × Unit)) × ((List Int) × ((List (List Int)) × Unit))))) × (Bool × Unit)) :=
  if (decide (x6 < (a2.length : Int))) = true then
    if (inb x6 a2.length) = true then
    (go_slices_Contains_int k a3 (a2.getD x6.toNat (0 : Int))).bind fun r8 =>
    if r8 = true then
      some (none, (false, ()))
    else
      rec7 (IntKind.i64.wrap (x6 + (1 : Int)))
    else none
  else
    some (r1.1, (true, ()))
def go_impl_apart_L0 (k : Nat) (a0 : (Int × (Int × ((List Int) × Unit)))) (a1 : (Int × (Int × Unit))) (a2 : (List Int)) (a3 : (List Int)) (r1 : ((Option ((Int × (Int × ((List Int) × Unit))) × ((Int × (Int × Unit)) × ((List Int) × ((List (List Int)) × Unit))))) × (Bool × Unit))) : (Int) → Option ((Option ((Int × (Int × ((List Int) × Unit))) × ((Int × (Int × Unit)) × ((List Int) × ((List (List Int)) × Unit))))) × (Bool × Unit)) :=
  iter k fun rec7 x6 => go_impl_apart_L0_G k a0 a1 a2 a3 r1 rec7 x6
theorem go_impl_apart_L0_t (k : Nat) (a0 : (Int × (Int × ((List Int) × Unit)))) (a1 : (Int × (Int × Unit))) (a2 : (List Int)) (a3 : (List Int)) (r1 : ((Option ((Int × (Int × ((List Int) × Unit))) × ((Int × (Int × Unit)) × ((List Int) × ((List (List Int)) × Unit))))) × (Bool × Unit))) (x : (Int)) :
    iter k (loopAt (go_impl_apart_C k) (bodyOf Go.Proofs.Try.f60) [1, 1, 1, 0, 1, 0] [] (finPure (go_impl_apart_C k) Go.Proofs.Try.f60.results.toList true (.pr (.val (.pt (.pair (.pair I (.pair I (.pair (.sl I) .unit))) (.pair (.pair I (.pair I .unit)) (.pair (.sl I) (.pair (.sl (.sl I)) .unit)))))) (.pr (.val .bool) .un)))) (go_impl_apart_L0_E a0 a1 a2 a3 r1 x) = go_impl_apart_L0 k a0 a1 a2 a3 r1 x := by
  refine iter_tie (G := fun rec x => go_impl_apart_L0_G k a0 a1 a2 a3 r1 rec x) (go_impl_apart_L0_E a0 a1 a2 a3 r1) (fun rec x => ?_) k x
  have h : loopAt (go_impl_apart_C k) (bodyOf Go.Proofs.Try.f60) [1, 1, 1, 0, 1, 0] [] (finPure (go_impl_apart_C k) Go.Proofs.Try.f60.results.toList true (.pr (.val (.pt (.pair (.pair I (.pair I (.pair (.sl I) .unit))) (.pair (.pair I (.pair I .unit)) (.pair (.sl I) (.pair (.sl (.sl I)) .unit)))))) (.pr (.val .bool) .un))) rec (go_impl_apart_L0_E a0 a1 a2 a3 r1 x) = go_impl_apart_L0_G k a0 a1 a2 a3 r1 (fun y => rec (go_impl_apart_L0_E a0 a1 a2 a3 r1 y)) x := by kernel_rfl
  rw [h]
def go_impl_apart_T (k : Nat) (a0 : (Int × (Int × ((List Int) × Unit)))) (a1 : (Int × (Int × Unit))) (a2 : (List Int)) (a3 : (List Int)) (l_0 : ((Option ((Int × (Int × ((List Int) × Unit))) × ((Int × (Int × Unit)) × ((List Int) × ((List (List Int)) × Unit))))) × (Bool × Unit)) → (Int) → Option ((Option ((Int × (Int × ((List Int) × Unit))) × ((Int × (Int × Unit)) × ((List Int) × ((List (List Int)) × Unit))))) × (Bool × Unit))) : Option ((Option ((Int × (Int × ((List Int) × Unit))) × ((Int × (Int × Unit)) × ((List Int) × ((List (List Int)) × Unit))))) × (Bool × Unit)) :=
  (go_impl_walkGraph k a0 a1 a2).bind fun r1 =>
  (if (!(!r1.2.1)) = true then go_impl_graph_isWalk k r1.1 a3 else some false).bind fun r2 =>
  if ((!r1.2.1) || (!r2)) = true then
    some (none, (false, ()))
  else
    l_0 r1 (0 : Int)
def go_impl_apart (k : Nat) (a0 : (Int × (Int × ((List Int) × Unit)))) (a1 : (Int × (Int × Unit))) (a2 : (List Int)) (a3 : (List Int)) : Option ((Option ((Int × (Int × ((List Int) × Unit))) × ((Int × (Int × Unit)) × ((List Int) × ((List (List Int)) × Unit))))) × (Bool × Unit)) :=
  go_impl_apart_T k a0 a1 a2 a3 (fun r1 y => go_impl_apart_L0 k a0 a1 a2 a3 r1 y)
theorem go_impl_apart_t (k : Nat) (a0 : (Int × (Int × ((List Int) × Unit)))) (a1 : (Int × (Int × Unit))) (a2 : (List Int)) (a3 : (List Int)) : runPure (go_impl_apart_C k) (bodyOf Go.Proofs.Try.f60) Go.Proofs.Try.f60.results.toList true (.pr (.val (.pair I (.pair I (.pair (.sl I) .unit)))) (.pr (.val (.pair I (.pair I .unit))) (.pr (.val (.sl I)) (.pr (.val (.sl I)) .un)))) (.pr (.val (.pt (.pair (.pair I (.pair I (.pair (.sl I) .unit))) (.pair (.pair I (.pair I .unit)) (.pair (.sl I) (.pair (.sl (.sl I)) .unit)))))) (.pr (.val .bool) .un)) (a0, a1, a2, a3, ()) = go_impl_apart k a0 a1 a2 a3 := by
  have h : runPure (go_impl_apart_C k) (bodyOf Go.Proofs.Try.f60) Go.Proofs.Try.f60.results.toList true (.pr (.val (.pair I (.pair I (.pair (.sl I) .unit)))) (.pr (.val (.pair I (.pair I .unit))) (.pr (.val (.sl I)) (.pr (.val (.sl I)) .un)))) (.pr (.val (.pt (.pair (.pair I (.pair I (.pair (.sl I) .unit))) (.pair (.pair I (.pair I .unit)) (.pair (.sl I) (.pair (.sl (.sl I)) .unit)))))) (.pr (.val .bool) .un)) (a0, a1, a2, a3, ()) = go_impl_apart_T k a0 a1 a2 a3 (fun r1 y => iter k (loopAt (go_impl_apart_C k) (bodyOf Go.Proofs.Try.f60) [1, 1, 1, 0, 1, 0] [] (finPure (go_impl_apart_C k) Go.Proofs.Try.f60.results.toList true (.pr (.val (.pt (.pair (.pair I (.pair I (.pair (.sl I) .unit))) (.pair (.pair I (.pair I .unit)) (.pair (.sl I) (.pair (.sl (.sl I)) .unit)))))) (.pr (.val .bool) .un)))) (go_impl_apart_L0_E a0 a1 a2 a3 r1 y)) := by kernel_rfl
  have h0 : (fun r1 y => iter k (loopAt (go_impl_apart_C k) (bodyOf Go.Proofs.Try.f60) [1, 1, 1, 0, 1, 0] [] (finPure (go_impl_apart_C k) Go.Proofs.Try.f60.results.toList true (.pr (.val (.pt (.pair (.pair I (.pair I (.pair (.sl I) .unit))) (.pair (.pair I (.pair I .unit)) (.pair (.sl I) (.pair (.sl (.sl I)) .unit)))))) (.pr (.val .bool) .un)))) (go_impl_apart_L0_E a0 a1 a2 a3 r1 y)) = (fun r1 y => go_impl_apart_L0 k a0 a1 a2 a3 r1 y) := by
    funext r1 y
    exact go_impl_apart_L0_t k a0 a1 a2 a3 r1 y
  rw [h, h0]
  rfl
def go_impl_apart_S (k : Nat) : Spec := ⟨(.pr (.val (.pair I (.pair I (.pair (.sl I) .unit)))) (.pr (.val (.pair I (.pair I .unit))) (.pr (.val (.sl I)) (.pr (.val (.sl I)) .un)))), (.pr (.val (.pt (.pair (.pair I (.pair I (.pair (.sl I) .unit))) (.pair (.pair I (.pair I .unit)) (.pair (.sl I) (.pair (.sl (.sl I)) .unit)))))) (.pr (.val .bool) .un)), true, .inl fun x => go_impl_apart k x.1 x.2.1 x.2.2.1 x.2.2.2.1⟩
theorem go_impl_apart_F (k : Nat) : Fits Go.Proofs.Try.prog (go_impl_apart_C k) 60 Go.Proofs.Try.f60 (bodyOf Go.Proofs.Try.f60) (.pr (.val (.pair I (.pair I (.pair (.sl I) .unit)))) (.pr (.val (.pair I (.pair I .unit))) (.pr (.val (.sl I)) (.pr (.val (.sl I)) .un)))) (.pr (.val (.pt (.pair (.pair I (.pair I (.pair (.sl I) .unit))) (.pair (.pair I (.pair I .unit)) (.pair (.sl I) (.pair (.sl (.sl I)) .unit)))))) (.pr (.val .bool) .un)) true :=
  ⟨th0, mixed0, by kernel_rfl, Go.Proofs.Try.func60, rfl, by kernel_rfl, rfl, rfl, rfl, rfl, rfl, rfl⟩
theorem go_impl_apart_M (k : Nat) : Meets Go.Proofs.Try.prog 60 (go_impl_apart_S k) :=
  meets_pure (go_impl_apart_F k) (sigs_all (l := [(55, go_impl_walkGraph_S k), (106, go_impl_graph_isWalk_S k), (109, go_slices_Contains_int_S k)]) rfl ⟨go_impl_walkGraph_M k, ⟨go_impl_graph_isWalk_M k, ⟨go_slices_Contains_int_M k, trivial⟩⟩⟩) rfl fun x => go_impl_apart_t k x.1 x.2.1 x.2.2.1 x.2.2.2.1

/-! ### (*impl.graph).joins -/
def go_impl_graph_joins_C (k : Nat) : Ctx := { th := TH, se := SE, sg := [(110, go_impl_graph_leaps_S k)], mu := [], an := [], dr := [(1, 9), (4, 21)], pre := [], d2 := [], m := 0, fx := [], n := 57, k := k }
def go_impl_graph_joins (k : Nat) (a0 : (Option ((Int × (Int × ((List Int) × Unit))) × ((Int × (Int × Unit)) × ((List Int) × ((List (List Int)) × Unit)))))) (a1 : (List Int)) (a2 : (List Int)) (a3 : Int) (a4 : Int) : Option (Bool × (Bool × Unit)) :=
  if (inb a3 a1.length) = true then
  if (inb a4 a2.length) = true then
  (go_impl_graph_leaps k a0 (a1.getD a3.toNat (0 : Int)) (a2.getD a4.toNat (0 : Int))).bind fun r1 =>
  if (!r1) = true then
    some (false, (false, ()))
  else
    if (decide ((a1.length : Int) ≠ 0)) = true then
    if (inb (Int.tmod (IntKind.i64.wrap (a3 + (1 : Int))) (a1.length : Int)) a1.length) = true then
    if (decide ((a2.length : Int) ≠ 0)) = true then
    if (inb (Int.tmod (IntKind.i64.wrap ((IntKind.i64.wrap (a4 + (a2.length : Int))) - (1 : Int))) (a2.length : Int)) a2.length) = true then
    (go_impl_graph_leaps k a0 (a2.getD (Int.tmod (IntKind.i64.wrap ((IntKind.i64.wrap (a4 + (a2.length : Int))) - (1 : Int))) (a2.length : Int)).toNat (0 : Int)) (a1.getD (Int.tmod (IntKind.i64.wrap (a3 + (1 : Int))) (a1.length : Int)).toNat (0 : Int))).bind fun r2 =>
    if (decide ((a2.length : Int) ≠ 0)) = true then
    if (inb (Int.tmod (IntKind.i64.wrap (a4 + (1 : Int))) (a2.length : Int)) a2.length) = true then
    (go_impl_graph_leaps k a0 (a2.getD (Int.tmod (IntKind.i64.wrap (a4 + (1 : Int))) (a2.length : Int)).toNat (0 : Int)) (a1.getD (Int.tmod (IntKind.i64.wrap (a3 + (1 : Int))) (a1.length : Int)).toNat (0 : Int))).bind fun r3 =>
    some (r2, (r3, ()))
    else none
    else none
    else none
    else none
    else none
    else none
  else none
  else none
theorem go_impl_graph_joins_t (k : Nat) (a0 : (Option ((Int × (Int × ((List Int) × Unit))) × ((Int × (Int × Unit)) × ((List Int) × ((List (List Int)) × Unit)))))) (a1 : (List Int)) (a2 : (List Int)) (a3 : Int) (a4 : Int) : runPure (go_impl_graph_joins_C k) (bodyOf Go.Proofs.Try.f62) Go.Proofs.Try.f62.results.toList true (.pr (.val (.pt (.pair (.pair I (.pair I (.pair (.sl I) .unit))) (.pair (.pair I (.pair I .unit)) (.pair (.sl I) (.pair (.sl (.sl I)) .unit)))))) (.pr (.val (.sl I)) (.pr (.val (.sl I)) (.pr (.val I) (.pr (.val I) .un))))) (.pr (.val .bool) (.pr (.val .bool) .un)) (a0, a1, a2, a3, a4, ()) = go_impl_graph_joins k a0 a1 a2 a3 a4 := by kernel_rfl
def go_impl_graph_joins_S (k : Nat) : Spec := ⟨(.pr (.val (.pt (.pair (.pair I (.pair I (.pair (.sl I) .unit))) (.pair (.pair I (.pair I .unit)) (.pair (.sl I) (.pair (.sl (.sl I)) .unit)))))) (.pr (.val (.sl I)) (.pr (.val (.sl I)) (.pr (.val I) (.pr (.val I) .un))))), (.pr (.val .bool) (.pr (.val .bool) .un)), true, .inl fun x => go_impl_graph_joins k x.1 x.2.1 x.2.2.1 x.2.2.2.1 x.2.2.2.2.1⟩
theorem go_impl_graph_joins_F (k : Nat) : Fits Go.Proofs.Try.prog (go_impl_graph_joins_C k) 62 Go.Proofs.Try.f62 (bodyOf Go.Proofs.Try.f62) (.pr (.val (.pt (.pair (.pair I (.pair I (.pair (.sl I) .unit))) (.pair (.pair I (.pair I .unit)) (.pair (.sl I) (.pair (.sl (.sl I)) .unit)))))) (.pr (.val (.sl I)) (.pr (.val (.sl I)) (.pr (.val I) (.pr (.val I) .un))))) (.pr (.val .bool) (.pr (.val .bool) .un)) true :=
  ⟨th0, mixed0, by kernel_rfl, Go.Proofs.Try.func62, rfl, by kernel_rfl, rfl, rfl, rfl, rfl, rfl, rfl⟩
theorem go_impl_graph_joins_M (k : Nat) : Meets Go.Proofs.Try.prog 62 (go_impl_graph_joins_S k) :=
  meets_pure (go_impl_graph_joins_F k) (sigs_all (l := [(110, go_impl_graph_leaps_S k)]) rfl ⟨go_impl_graph_leaps_M k, trivial⟩) rfl fun x => go_impl_graph_joins_t k x.1 x.2.1 x.2.2.1 x.2.2.2.1 x.2.2.2.2.1

/-! ### impl.JoinClosed -/
def go_impl_JoinClosed_C (k : Nat) : Ctx := { th := TH, se := SE, sg := [(60, go_impl_apart_S k), (61, go_impl_graph_closes_S k), (62, go_impl_graph_joins_S k), (63, go_slices_Clone_int_S k)], mu := [70], an := [(5, [(2, false), (3, false), (10, false), (42, false), (43, false)]), (8, [(2, false), (3, false), (10, false), (12, false), (42, false), (43, false), (47, false), (48, false)]), (14, [(2, false), (3, false), (12, false), (13, false), (14, false), (16, false), (72, false), (73, false)])], dr := [], pre := [], d2 := [], m := 0, fx := [], n := 106, k := k }
def go_impl_JoinClosed_L0_E (a0 : (Int × (Int × ((List Int) × Unit)))) (a1 : (Int × (Int × Unit))) (a2 : (List Int)) (a3 : (List Int)) (r1 : ((Option ((Int × (Int × ((List Int) × Unit))) × ((Int × (Int × Unit)) × ((List Int) × ((List (List Int)) × Unit))))) × (Bool × Unit))) (x19 : (Int)) : St :=
  ⟨[(2, .one (.val (.sl I) a2), []), (3, .one (.val (.sl I) a3), []), (10, .one (.val (.pt (.pair (.pair I (.pair I (.pair (.sl I) .unit))) (.pair (.pair I (.pair I .unit)) (.pair (.sl I) (.pair (.sl (.sl I)) .unit))))) r1.1), []), (42, .one (.val I (a2.length : Int)), []), (43, .one (.val I x19), [])], [], []⟩
def go_impl_JoinClosed_L1_E (a0 : (Int × (Int × ((List Int) × Unit)))) (a1 : (Int × (Int × Unit))) (a2 : (List Int)) (a3 : (List Int)) (r1 : ((Option ((Int × (Int × ((List Int) × Unit))) × ((Int × (Int × Unit)) × ((List Int) × ((List (List Int)) × Unit))))) × (Bool × Unit))) (x19 : (Int)) (x24 : (Int)) : St :=
  ⟨[(2, .one (.val (.sl I) a2), []), (3, .one (.val (.sl I) a3), []), (10, .one (.val (.pt (.pair (.pair I (.pair I (.pair (.sl I) .unit))) (.pair (.pair I (.pair I .unit)) (.pair (.sl I) (.pair (.sl (.sl I)) .unit))))) r1.1), []), (12, .one (.val I x19), []), (42, .one (.val I (a2.length : Int)), []), (43, .one (.val I x19), []), (47, .one (.val I (a3.length : Int)), []), (48, .one (.val I x24), [])], [], []⟩
def go_impl_JoinClosed_L2_E (a0 : (Int × (Int × ((List Int) × Unit)))) (a1 : (Int × (Int × Unit))) (a2 : (List Int)) (a3 : (List Int)) (r1 : ((Option ((Int × (Int × ((List Int) × Unit))) × ((Int × (Int × Unit)) × ((List Int) × ((List (List Int)) × Unit))))) × (Bool × Unit))) (x19 : (Int)) (x24 : (Int)) (r26 : (Bool × (Bool × Unit))) (x32 : (Int × (List Int))) : St :=
  ⟨[(2, .one (.val (.sl I) a2), []), (3, .one (.val (.sl I) a3), []), (12, .one (.val I x19), []), (13, .one (.val I x24), []), (14, .one (.val .bool r26.1), []), (16, .one (.own 0), []), (72, .one (.val I (a3.length : Int)), []), (73, .one (.val I x32.1), [])], [.arr 3 I x32.2], []⟩
def go_impl_JoinClosed_L2_G (k : Nat) (a0 : (Int × (Int × ((List Int) × Unit)))) (a1 : (Int × (Int × Unit))) (a2 : (List Int)) (a3 : (List Int)) (r1 : ((Option ((Int × (Int × ((List Int) × Unit))) × ((Int × (Int × Unit)) × ((List Int) × ((List (List Int)) × Unit))))) × (Bool × Unit))) (x19 : (Int)) (x24 : (Int)) (r26 : (Bool × (Bool × Unit))) (rec20 : (Int) → Option ((List Int) × (Bool × Unit))) (rec25 : (Int) → Option ((List Int) × (Bool × Unit))) (rec33 : (Int × (List Int)) → Option ((List Int) × (Bool × Unit))) (x32 : (Int × (List Int))) : Option ((List Int) × (Bool × Unit)) :=
  if (decide (x32.1 < (a3.length : Int))) = true then
    if (!r26.1) = true then
      if (decide ((a3.length : Int) ≠ 0)) = true then
      if (inb (Int.tmod (IntKind.i64.wrap ((IntKind.i64.wrap (x24 - x32.1)) + (a3.length : Int))) (a3.length : Int)) a3.length) = true then
      if (decide (x32.2.length + [(a3.getD (Int.tmod (IntKind.i64.wrap ((IntKind.i64.wrap (x24 - x32.1)) + (a3.length : Int))) (a3.length : Int)).toNat (0 : Int))].length ≤ LIM)) = true then
      rec33 ((IntKind.i64.wrap (x32.1 + (1 : Int))), (x32.2 ++ [(a3.getD (Int.tmod (IntKind.i64.wrap ((IntKind.i64.wrap (x24 - x32.1)) + (a3.length : Int))) (a3.length : Int)).toNat (0 : Int))]))
      else none
      else none
      else none
    else
      if (decide ((a3.length : Int) ≠ 0)) = true then
      if (inb (Int.tmod (IntKind.i64.wrap (x24 + x32.1)) (a3.length : Int)) a3.length) = true then
      if (decide (x32.2.length + [(a3.getD (Int.tmod (IntKind.i64.wrap (x24 + x32.1)) (a3.length : Int)).toNat (0 : Int))].length ≤ LIM)) = true then
      rec33 ((IntKind.i64.wrap (x32.1 + (1 : Int))), (x32.2 ++ [(a3.getD (Int.tmod (IntKind.i64.wrap (x24 + x32.1)) (a3.length : Int)).toNat (0 : Int))]))
      else none
      else none
      else none
  else
    if (decide (0 ≤ (IntKind.i64.wrap (x19 + (1 : Int))) ∧ (IntKind.i64.wrap (x19 + (1 : Int))) ≤ (a2.length : Int) ∧ (a2.length : Int) ≤ (a2.length : Int))) = true then
    if (decide (x32.2.length + ((a2.take (a2.length : Int).toNat).drop (IntKind.i64.wrap (x19 + (1 : Int))).toNat).length ≤ LIM)) = true then
    some ((x32.2 ++ ((a2.take (a2.length : Int).toNat).drop (IntKind.i64.wrap (x19 + (1 : Int))).toNat)), (true, ()))
    else none
    else none
def go_impl_JoinClosed_L2 (k : Nat) (a0 : (Int × (Int × ((List Int) × Unit)))) (a1 : (Int × (Int × Unit))) (a2 : (List Int)) (a3 : (List Int)) (rec20 : (Int) → Option ((List Int) × (Bool × Unit))) (rec25 : (Int) → Option ((List Int) × (Bool × Unit))) (r1 : ((Option ((Int × (Int × ((List Int) × Unit))) × ((Int × (Int × Unit)) × ((List Int) × ((List (List Int)) × Unit))))) × (Bool × Unit))) (x19 : (Int)) (x24 : (Int)) (r26 : (Bool × (Bool × Unit))) : (Int × (List Int)) → Option ((List Int) × (Bool × Unit)) :=
  iter k fun rec33 x32 => go_impl_JoinClosed_L2_G k a0 a1 a2 a3 r1 x19 x24 r26 rec20 rec25 rec33 x32
theorem go_impl_JoinClosed_L2_t (k : Nat) (a0 : (Int × (Int × ((List Int) × Unit)))) (a1 : (Int × (Int × Unit))) (a2 : (List Int)) (a3 : (List Int)) (s0 : St → Option ((List Int) × (Bool × Unit))) (s1 : St → Option ((List Int) × (Bool × Unit))) (r1 : ((Option ((Int × (Int × ((List Int) × Unit))) × ((Int × (Int × Unit)) × ((List Int) × ((List (List Int)) × Unit))))) × (Bool × Unit))) (x19 : (Int)) (x24 : (Int)) (r26 : (Bool × (Bool × Unit))) (x : (Int × (List Int))) :
    iter k (loopAt (go_impl_JoinClosed_C k) (bodyOf Go.Proofs.Try.f24) [1, 1, 1, 0, 1, 0, 0, 1, 1, 0, 0, 1, 1, 0, 0, 1, 1, 0, 0, 1, 1, 1, 1, 0, 1, 0] [s0, s1] (finPure (go_impl_JoinClosed_C k) Go.Proofs.Try.f24.results.toList true (.pr (.own 3 I) (.pr (.val .bool) .un)))) (go_impl_JoinClosed_L2_E a0 a1 a2 a3 r1 x19 x24 r26 x) = go_impl_JoinClosed_L2 k a0 a1 a2 a3 (fun y => s0 (go_impl_JoinClosed_L0_E a0 a1 a2 a3 r1 y)) (fun y => s1 (go_impl_JoinClosed_L1_E a0 a1 a2 a3 r1 x19 y)) r1 x19 x24 r26 x := by
  refine iter_tie (G := fun rec x => go_impl_JoinClosed_L2_G k a0 a1 a2 a3 r1 x19 x24 r26 (fun y => s0 (go_impl_JoinClosed_L0_E a0 a1 a2 a3 r1 y)) (fun y => s1 (go_impl_JoinClosed_L1_E a0 a1 a2 a3 r1 x19 y)) rec x) (go_impl_JoinClosed_L2_E a0 a1 a2 a3 r1 x19 x24 r26) (fun rec x => ?_) k x
  have h : loopAt (go_impl_JoinClosed_C k) (bodyOf Go.Proofs.Try.f24) [1, 1, 1, 0, 1, 0, 0, 1, 1, 0, 0, 1, 1, 0, 0, 1, 1, 0, 0, 1, 1, 1, 1, 0, 1, 0] [s0, s1] (finPure (go_impl_JoinClosed_C k) Go.Proofs.Try.f24.results.toList true (.pr (.own 3 I) (.pr (.val .bool) .un))) rec (go_impl_JoinClosed_L2_E a0 a1 a2 a3 r1 x19 x24 r26 x) = go_impl_JoinClosed_L2_G k a0 a1 a2 a3 r1 x19 x24 r26 (fun y => s0 (go_impl_JoinClosed_L0_E a0 a1 a2 a3 r1 y)) (fun y => s1 (go_impl_JoinClosed_L1_E a0 a1 a2 a3 r1 x19 y)) (fun y => rec (go_impl_JoinClosed_L2_E a0 a1 a2 a3 r1 x19 x24 r26 y)) x := by kernel_rfl
  rw [h]
def go_impl_JoinClosed_L1_G (k : Nat) (a0 : (Int × (Int × ((List Int) × Unit)))) (a1 : (Int × (Int × Unit))) (a2 : (List Int)) (a3 : (List Int)) (r1 : ((Option ((Int × (Int × ((List Int) × Unit))) × ((Int × (Int × Unit)) × ((List Int) × ((List (List Int)) × Unit))))) × (Bool × Unit))) (x19 : (Int)) (l_2 : (Int) → (Bool × (Bool × Unit)) → (Int × (List Int)) → Option ((List Int) × (Bool × Unit))) (rec20 : (Int) → Option ((List Int) × (Bool × Unit))) (rec25 : (Int) → Option ((List Int) × (Bool × Unit))) (x24 : (Int)) : Option ((List Int) × (Bool × Unit)) :=
  if (decide (x24 < (a3.length : Int))) = true then
    (go_impl_graph_joins k r1.1 a2 a3 x19 x24).bind fun r26 =>
    if ((!r26.1) && (!r26.2.1)) = true then
      rec25 (IntKind.i64.wrap (x24 + (1 : Int)))
    else
      if (decide (0 ≤ (0 : Int) ∧ (0 : Int) ≤ (IntKind.i64.wrap (x19 + (1 : Int))) ∧ (IntKind.i64.wrap (x19 + (1 : Int))) ≤ (a2.length : Int))) = true then
      (go_slices_Clone_int k ((a2.take (IntKind.i64.wrap (x19 + (1 : Int))).toNat).drop (0 : Int).toNat)).bind fun r27 =>
      l_2 x24 r26 ((0 : Int), r27)
      else none
  else
    rec20 (IntKind.i64.wrap (x19 + (1 : Int)))
def go_impl_JoinClosed_L1 (k : Nat) (a0 : (Int × (Int × ((List Int) × Unit)))) (a1 : (Int × (Int × Unit))) (a2 : (List Int)) (a3 : (List Int)) (rec20 : (Int) → Option ((List Int) × (Bool × Unit))) (r1 : ((Option ((Int × (Int × ((List Int) × Unit))) × ((Int × (Int × Unit)) × ((List Int) × ((List (List Int)) × Unit))))) × (Bool × Unit))) (x19 : (Int)) : (Int) → Option ((List Int) × (Bool × Unit)) :=
  iter k fun rec25 x24 => go_impl_JoinClosed_L1_G k a0 a1 a2 a3 r1 x19 (fun c0 c1 y => go_impl_JoinClosed_L2 k a0 a1 a2 a3 rec20 rec25 r1 x19 c0 c1 y) rec20 rec25 x24
theorem go_impl_JoinClosed_L1_t (k : Nat) (a0 : (Int × (Int × ((List Int) × Unit)))) (a1 : (Int × (Int × Unit))) (a2 : (List Int)) (a3 : (List Int)) (s0 : St → Option ((List Int) × (Bool × Unit))) (r1 : ((Option ((Int × (Int × ((List Int) × Unit))) × ((Int × (Int × Unit)) × ((List Int) × ((List (List Int)) × Unit))))) × (Bool × Unit))) (x19 : (Int)) (x : (Int)) :
    iter k (loopAt (go_impl_JoinClosed_C k) (bodyOf Go.Proofs.Try.f24) [1, 1, 1, 0, 1, 0, 0, 1, 1, 0, 0, 1, 1, 0] [s0] (finPure (go_impl_JoinClosed_C k) Go.Proofs.Try.f24.results.toList true (.pr (.own 3 I) (.pr (.val .bool) .un)))) (go_impl_JoinClosed_L1_E a0 a1 a2 a3 r1 x19 x) = go_impl_JoinClosed_L1 k a0 a1 a2 a3 (fun y => s0 (go_impl_JoinClosed_L0_E a0 a1 a2 a3 r1 y)) r1 x19 x := by
  refine iter_tie (G := fun rec x => go_impl_JoinClosed_L1_G k a0 a1 a2 a3 r1 x19 (fun c0 c1 y => go_impl_JoinClosed_L2 k a0 a1 a2 a3 (fun y => s0 (go_impl_JoinClosed_L0_E a0 a1 a2 a3 r1 y)) rec r1 x19 c0 c1 y) (fun y => s0 (go_impl_JoinClosed_L0_E a0 a1 a2 a3 r1 y)) rec x) (go_impl_JoinClosed_L1_E a0 a1 a2 a3 r1 x19) (fun rec x => ?_) k x
  have h : loopAt (go_impl_JoinClosed_C k) (bodyOf Go.Proofs.Try.f24) [1, 1, 1, 0, 1, 0, 0, 1, 1, 0, 0, 1, 1, 0] [s0] (finPure (go_impl_JoinClosed_C k) Go.Proofs.Try.f24.results.toList true (.pr (.own 3 I) (.pr (.val .bool) .un))) rec (go_impl_JoinClosed_L1_E a0 a1 a2 a3 r1 x19 x) = go_impl_JoinClosed_L1_G k a0 a1 a2 a3 r1 x19 (fun c0 c1 y => iter k (loopAt (go_impl_JoinClosed_C k) (bodyOf Go.Proofs.Try.f24) [1, 1, 1, 0, 1, 0, 0, 1, 1, 0, 0, 1, 1, 0, 0, 1, 1, 0, 0, 1, 1, 1, 1, 0, 1, 0] [s0, rec] (finPure (go_impl_JoinClosed_C k) Go.Proofs.Try.f24.results.toList true (.pr (.own 3 I) (.pr (.val .bool) .un)))) (go_impl_JoinClosed_L2_E a0 a1 a2 a3 r1 x19 c0 c1 y)) (fun y => s0 (go_impl_JoinClosed_L0_E a0 a1 a2 a3 r1 y)) (fun y => rec (go_impl_JoinClosed_L1_E a0 a1 a2 a3 r1 x19 y)) x := by kernel_rfl
  have h0 : (fun c0 c1 y => iter k (loopAt (go_impl_JoinClosed_C k) (bodyOf Go.Proofs.Try.f24) [1, 1, 1, 0, 1, 0, 0, 1, 1, 0, 0, 1, 1, 0, 0, 1, 1, 0, 0, 1, 1, 1, 1, 0, 1, 0] [s0, rec] (finPure (go_impl_JoinClosed_C k) Go.Proofs.Try.f24.results.toList true (.pr (.own 3 I) (.pr (.val .bool) .un)))) (go_impl_JoinClosed_L2_E a0 a1 a2 a3 r1 x19 c0 c1 y)) = (fun c0 c1 y => go_impl_JoinClosed_L2 k a0 a1 a2 a3 (fun y => s0 (go_impl_JoinClosed_L0_E a0 a1 a2 a3 r1 y)) (fun y => rec (go_impl_JoinClosed_L1_E a0 a1 a2 a3 r1 x19 y)) r1 x19 c0 c1 y) := by
    funext c0 c1 y
    exact go_impl_JoinClosed_L2_t k a0 a1 a2 a3 s0 rec r1 x19 c0 c1 y
  rw [h, h0]
def go_impl_JoinClosed_L0_G (k : Nat) (a0 : (Int × (Int × ((List Int) × Unit)))) (a1 : (Int × (Int × Unit))) (a2 : (List Int)) (a3 : (List Int)) (r1 : ((Option ((Int × (Int × ((List Int) × Unit))) × ((Int × (Int × Unit)) × ((List Int) × ((List (List Int)) × Unit))))) × (Bool × Unit))) (l_1 : (Int) → (Int) → Option ((List Int) × (Bool × Unit))) (rec20 : (Int) → Option ((List Int) × (Bool × Unit))) (x19 : (Int)) : Option ((List Int) × (Bool × Unit)) :=
  if (decide (x19 < (a2.length : Int))) = true then
    l_1 x19 (0 : Int)
  else
    some ([], (false, ()))
def go_impl_JoinClosed_L0 (k : Nat) (a0 : (Int × (Int × ((List Int) × Unit)))) (a1 : (Int × (Int × Unit))) (a2 : (List Int)) (a3 : (List Int)) (r1 : ((Option ((Int × (Int × ((List Int) × Unit))) × ((Int × (Int × Unit)) × ((List Int) × ((List (List Int)) × Unit))))) × (Bool × Unit))) : (Int) → Option ((List Int) × (Bool × Unit)) :=
  iter k fun rec20 x19 => go_impl_JoinClosed_L0_G k a0 a1 a2 a3 r1 (fun c0 y => go_impl_JoinClosed_L1 k a0 a1 a2 a3 rec20 r1 c0 y) rec20 x19
theorem go_impl_JoinClosed_L0_t (k : Nat) (a0 : (Int × (Int × ((List Int) × Unit)))) (a1 : (Int × (Int × Unit))) (a2 : (List Int)) (a3 : (List Int)) (r1 : ((Option ((Int × (Int × ((List Int) × Unit))) × ((Int × (Int × Unit)) × ((List Int) × ((List (List Int)) × Unit))))) × (Bool × Unit))) (x : (Int)) :
    iter k (loopAt (go_impl_JoinClosed_C k) (bodyOf Go.Proofs.Try.f24) [1, 1, 1, 0, 1, 0] [] (finPure (go_impl_JoinClosed_C k) Go.Proofs.Try.f24.results.toList true (.pr (.own 3 I) (.pr (.val .bool) .un)))) (go_impl_JoinClosed_L0_E a0 a1 a2 a3 r1 x) = go_impl_JoinClosed_L0 k a0 a1 a2 a3 r1 x := by
  refine iter_tie (G := fun rec x => go_impl_JoinClosed_L0_G k a0 a1 a2 a3 r1 (fun c0 y => go_impl_JoinClosed_L1 k a0 a1 a2 a3 rec r1 c0 y) rec x) (go_impl_JoinClosed_L0_E a0 a1 a2 a3 r1) (fun rec x => ?_) k x
  have h : loopAt (go_impl_JoinClosed_C k) (bodyOf Go.Proofs.Try.f24) [1, 1, 1, 0, 1, 0] [] (finPure (go_impl_JoinClosed_C k) Go.Proofs.Try.f24.results.toList true (.pr (.own 3 I) (.pr (.val .bool) .un))) rec (go_impl_JoinClosed_L0_E a0 a1 a2 a3 r1 x) = go_impl_JoinClosed_L0_G k a0 a1 a2 a3 r1 (fun c0 y => iter k (loopAt (go_impl_JoinClosed_C k) (bodyOf Go.Proofs.Try.f24) [1, 1, 1, 0, 1, 0, 0, 1, 1, 0, 0, 1, 1, 0] [rec] (finPure (go_impl_JoinClosed_C k) Go.Proofs.Try.f24.results.toList true (.pr (.own 3 I) (.pr (.val .bool) .un)))) (go_impl_JoinClosed_L1_E a0 a1 a2 a3 r1 c0 y)) (fun y => rec (go_impl_JoinClosed_L0_E a0 a1 a2 a3 r1 y)) x := by kernel_rfl
  have h0 : (fun c0 y => iter k (loopAt (go_impl_JoinClosed_C k) (bodyOf Go.Proofs.Try.f24) [1, 1, 1, 0, 1, 0, 0, 1, 1, 0, 0, 1, 1, 0] [rec] (finPure (go_impl_JoinClosed_C k) Go.Proofs.Try.f24.results.toList true (.pr (.own 3 I) (.pr (.val .bool) .un)))) (go_impl_JoinClosed_L1_E a0 a1 a2 a3 r1 c0 y)) = (fun c0 y => go_impl_JoinClosed_L1 k a0 a1 a2 a3 (fun y => rec (go_impl_JoinClosed_L0_E a0 a1 a2 a3 r1 y)) r1 c0 y) := by
    funext c0 y
    exact go_impl_JoinClosed_L1_t k a0 a1 a2 a3 rec r1 c0 y
  rw [h, h0]
def go_impl_JoinClosed_T (k : Nat) (a0 : (Int × (Int × ((List Int) × Unit)))) (a1 : (Int × (Int × Unit))) (a2 : (List Int)) (a3 : (List Int)) (l_0 : ((Option ((Int × (Int × ((List Int) × Unit))) × ((Int × (Int × Unit)) × ((List Int) × ((List (List Int)) × Unit))))) × (Bool × Unit)) → (Int) → Option ((List Int) × (Bool × Unit))) : Option ((List Int) × (Bool × Unit)) :=
  (go_impl_apart k a0 a1 a2 a3).bind fun r1 =>
  (if (!(!r1.2.1)) = true then go_impl_graph_closes k r1.1 a2 else some false).bind fun r2 =>
  (if (!((!r1.2.1) || (!r2))) = true then go_impl_graph_closes k r1.1 a3 else some false).bind fun r3 =>
  if (((!r1.2.1) || (!r2)) || (!r3)) = true then
    some ([], (false, ()))
  else
    l_0 r1 (0 : Int)
def go_impl_JoinClosed (k : Nat) (a0 : (Int × (Int × ((List Int) × Unit)))) (a1 : (Int × (Int × Unit))) (a2 : (List Int)) (a3 : (List Int)) : Option ((List Int) × (Bool × Unit)) :=
  go_impl_JoinClosed_T k a0 a1 a2 a3 (fun r1 y => go_impl_JoinClosed_L0 k a0 a1 a2 a3 r1 y)
theorem go_impl_JoinClosed_t (k : Nat) (a0 : (Int × (Int × ((List Int) × Unit)))) (a1 : (Int × (Int × Unit))) (a2 : (List Int)) (a3 : (List Int)) : runPure (go_impl_JoinClosed_C k) (bodyOf Go.Proofs.Try.f24) Go.Proofs.Try.f24.results.toList true (.pr (.val (.pair I (.pair I (.pair (.sl I) .unit)))) (.pr (.val (.pair I (.pair I .unit))) (.pr (.val (.sl I)) (.pr (.val (.sl I)) .un)))) (.pr (.own 3 I) (.pr (.val .bool) .un)) (a0, a1, a2, a3, ()) = go_impl_JoinClosed k a0 a1 a2 a3 := by
  have h : runPure (go_impl_JoinClosed_C k) (bodyOf Go.Proofs.Try.f24) Go.Proofs.Try.f24.results.toList true (.pr (.val (.pair I (.pair I (.pair (.sl I) .unit)))) (.pr (.val (.pair I (.pair I .unit))) (.pr (.val (.sl I)) (.pr (.val (.sl I)) .un)))) (.pr (.own 3 I) (.pr (.val .bool) .un)) (a0, a1, a2, a3, ()) = go_impl_JoinClosed_T k a0 a1 a2 a3 (fun r1 y => iter k (loopAt (go_impl_JoinClosed_C k) (bodyOf Go.Proofs.Try.f24) [1, 1, 1, 0, 1, 0] [] (finPure (go_impl_JoinClosed_C k) Go.Proofs.Try.f24.results.toList true (.pr (.own 3 I) (.pr (.val .bool) .un)))) (go_impl_JoinClosed_L0_E a0 a1 a2 a3 r1 y)) := by kernel_rfl
  have h0 : (fun r1 y => iter k (loopAt (go_impl_JoinClosed_C k) (bodyOf Go.Proofs.Try.f24) [1, 1, 1, 0, 1, 0] [] (finPure (go_impl_JoinClosed_C k) Go.Proofs.Try.f24.results.toList true (.pr (.own 3 I) (.pr (.val .bool) .un)))) (go_impl_JoinClosed_L0_E a0 a1 a2 a3 r1 y)) = (fun r1 y => go_impl_JoinClosed_L0 k a0 a1 a2 a3 r1 y) := by
    funext r1 y
    exact go_impl_JoinClosed_L0_t k a0 a1 a2 a3 r1 y
  rw [h, h0]
  rfl
def go_impl_JoinClosed_S (k : Nat) : Spec := ⟨(.pr (.val (.pair I (.pair I (.pair (.sl I) .unit)))) (.pr (.val (.pair I (.pair I .unit))) (.pr (.val (.sl I)) (.pr (.val (.sl I)) .un)))), (.pr (.own 3 I) (.pr (.val .bool) .un)), true, .inl fun x => go_impl_JoinClosed k x.1 x.2.1 x.2.2.1 x.2.2.2.1⟩
theorem go_impl_JoinClosed_F (k : Nat) : Fits Go.Proofs.Try.prog (go_impl_JoinClosed_C k) 24 Go.Proofs.Try.f24 (bodyOf Go.Proofs.Try.f24) (.pr (.val (.pair I (.pair I (.pair (.sl I) .unit)))) (.pr (.val (.pair I (.pair I .unit))) (.pr (.val (.sl I)) (.pr (.val (.sl I)) .un)))) (.pr (.own 3 I) (.pr (.val .bool) .un)) true :=
  ⟨th0, mixed0, by kernel_rfl, Go.Proofs.Try.func24, rfl, by kernel_rfl, rfl, rfl, rfl, rfl, rfl, rfl⟩
theorem go_impl_JoinClosed_M (k : Nat) : Meets Go.Proofs.Try.prog 24 (go_impl_JoinClosed_S k) :=
  meets_pure (go_impl_JoinClosed_F k) (sigs_all (l := [(60, go_impl_apart_S k), (61, go_impl_graph_closes_S k), (62, go_impl_graph_joins_S k), (63, go_slices_Clone_int_S k)]) rfl ⟨go_impl_apart_M k, ⟨go_impl_graph_closes_M k, ⟨go_impl_graph_joins_M k, ⟨go_slices_Clone_int_M k, trivial⟩⟩⟩⟩) rfl fun x => go_impl_JoinClosed_t k x.1 x.2.1 x.2.2.1 x.2.2.2.1

/-! ### laws.FnExactJoinClosed -/
def go_laws_FnExactJoinClosed_C (k : Nat) : Ctx := { th := TH, se := SE, sg := [(15, go_laws_szBoard_S k), (17, go_laws_toBoard_S k), (18, go_laws_toLeaper_S k), (19, go_laws_toIntS_S k), (23, go_spec_JoinClosed_S k), (24, go_impl_JoinClosed_S k), (22, go_laws_eqIntS_S k), (21, go_laws_eqBoard_S k), (25, go_laws_markBoard_S k), (26, go_laws_markIntS_S k), (27, go_laws_heldIntS_S k)], mu := [46, 48, 50, 57], an := [], dr := [(9, 13), (13, 5), (16, 3), (36, 13)], pre := [], d2 := [13], m := 0, fx := [], n := 146, k := k }
def go_laws_FnExactJoinClosed (k : Nat) (a0 : (Int × (Int × ((List Int) × Unit)))) (a1 : (Int × (Int × Unit))) (a2 : (List Int)) (a3 : (List Int)) : Option Bool :=
  if (decide ((1048576 : Int) < (a2.length : Int))) = true then
    some true
  else
    if (decide ((1048576 : Int) < (a3.length : Int))) = true then
      some true
    else
      (go_laws_szBoard k a0 (1048576 : Int)).bind fun r1 =>
      if (decide (r1 < (0 : Int))) = true then
        some true
      else
        (go_laws_toBoard k a0).bind fun r2 =>
        (go_laws_toLeaper k a1).bind fun r3 =>
        (go_laws_toIntS k a2).bind fun r4 =>
        (go_laws_toIntS k a3).bind fun r5 =>
        (go_spec_JoinClosed k (r2.1, (r2.2.1, (r2.2.2.1, ()))) r3 r4 r5).bind fun r6 =>
        (go_laws_toBoard k a0).bind fun r7 =>
        (go_laws_toIntS k a2).bind fun r8 =>
        (go_laws_toIntS k a3).bind fun r9 =>
        (go_laws_toLeaper k a1).bind fun r10 =>
        (go_impl_JoinClosed k (r7.1, (r7.2.1, (r7.2.2.1, ()))) r10 r8 r9).bind fun r11 =>
        (go_laws_eqIntS k r11.1 r6.1).bind fun r12 =>
        if ((!r12) || (r11.2.1 != r6.2.1)) = true then
          some false
        else
          (go_laws_toBoard k a0).bind fun r13 =>
          (go_laws_eqBoard k (r7.1, (r7.2.1, (r7.2.2.1, ()))) (r13.1, (r13.2.1, (r13.2.2.1, ())))).bind fun r14 =>
          if (!r14) = true then
            some false
          else
            (go_laws_toIntS k a2).bind fun r15 =>
            (go_laws_eqIntS k r8 r15).bind fun r16 =>
            if (!r16) = true then
              some false
            else
              (go_laws_toIntS k a3).bind fun r17 =>
              (go_laws_eqIntS k r9 r17).bind fun r18 =>
              if (!r18) = true then
                some false
              else
                (go_laws_markBoard k (r7.1, (r7.2.1, (r7.2.2.1, ()))) (1 : Int)).bind fun r19 =>
                (go_laws_markIntS k r8 r19.1).bind fun r20 =>
                (go_laws_markIntS k r9 r20.1).bind fun r21 =>
                (if (!(decide (r21.1 < (0 : Int)))) = true then go_laws_eqIntS k r11.1 r6.1 else some false).bind fun r22 =>
                if (((decide (r21.1 < (0 : Int))) || (!r22)) || (r11.2.1 != r6.2.1)) = true then
                  some false
                else
                  (go_laws_markIntS k r11.1 (1 : Int)).bind fun r23 =>
                  (go_laws_heldIntS k r23.2.1 (1 : Int)).bind fun r24 =>
                  if (decide (r24 < (0 : Int))) = true then
                    some false
                  else
                    if (!decide (r24 = r23.1)) = true then
                      some false
                    else
                      (go_laws_toBoard k a0).bind fun r25 =>
                      (go_laws_toLeaper k a1).bind fun r26 =>
                      (go_laws_toIntS k a2).bind fun r27 =>
                      (go_laws_toIntS k a3).bind fun r28 =>
                      (go_impl_JoinClosed k (r25.1, (r25.2.1, (r25.2.2.1, ()))) r26 r27 r28).bind fun r29 =>
                      (go_laws_eqIntS k r29.1 r6.1).bind fun r30 =>
                      if ((!r30) || (r29.2.1 != r6.2.1)) = true then
                        some false
                      else
                        (go_laws_heldIntS k r23.2.1 (1 : Int)).bind fun r31 =>
                        if (decide (r31 < (0 : Int))) = true then
                          some false
                        else
                          if (!decide (r31 = r23.1)) = true then
                            some false
                          else
                            some true
theorem go_laws_FnExactJoinClosed_t (k : Nat) (a0 : (Int × (Int × ((List Int) × Unit)))) (a1 : (Int × (Int × Unit))) (a2 : (List Int)) (a3 : (List Int)) : runPure (go_laws_FnExactJoinClosed_C k) (bodyOf Go.Proofs.Try.f4) Go.Proofs.Try.f4.results.toList false (.pr (.val (.pair I (.pair I (.pair (.sl I) .unit)))) (.pr (.val (.pair I (.pair I .unit))) (.pr (.val (.sl I)) (.pr (.val (.sl I)) .un)))) (.val .bool) (a0, a1, a2, a3, ()) = go_laws_FnExactJoinClosed k a0 a1 a2 a3 := by kernel_rfl
def go_laws_FnExactJoinClosed_S (k : Nat) : Spec := ⟨(.pr (.val (.pair I (.pair I (.pair (.sl I) .unit)))) (.pr (.val (.pair I (.pair I .unit))) (.pr (.val (.sl I)) (.pr (.val (.sl I)) .un)))), (.val .bool), false, .inl fun x => go_laws_FnExactJoinClosed k x.1 x.2.1 x.2.2.1 x.2.2.2.1⟩
theorem go_laws_FnExactJoinClosed_F (k : Nat) : Fits Go.Proofs.Try.prog (go_laws_FnExactJoinClosed_C k) 4 Go.Proofs.Try.f4 (bodyOf Go.Proofs.Try.f4) (.pr (.val (.pair I (.pair I (.pair (.sl I) .unit)))) (.pr (.val (.pair I (.pair I .unit))) (.pr (.val (.sl I)) (.pr (.val (.sl I)) .un)))) (.val .bool) false :=
  ⟨th0, mixed0, by kernel_rfl, Go.Proofs.Try.func4, rfl, by kernel_rfl, rfl, rfl, rfl, rfl, rfl, rfl⟩
theorem go_laws_FnExactJoinClosed_M (k : Nat) : Meets Go.Proofs.Try.prog 4 (go_laws_FnExactJoinClosed_S k) :=
  meets_pure (go_laws_FnExactJoinClosed_F k) (sigs_all (l := [(15, go_laws_szBoard_S k), (17, go_laws_toBoard_S k), (18, go_laws_toLeaper_S k), (19, go_laws_toIntS_S k), (23, go_spec_JoinClosed_S k), (24, go_impl_JoinClosed_S k), (22, go_laws_eqIntS_S k), (21, go_laws_eqBoard_S k), (25, go_laws_markBoard_S k), (26, go_laws_markIntS_S k), (27, go_laws_heldIntS_S k)]) rfl ⟨go_laws_szBoard_M k, ⟨go_laws_toBoard_M k, ⟨go_laws_toLeaper_M k, ⟨go_laws_toIntS_M k, ⟨go_spec_JoinClosed_M k, ⟨go_impl_JoinClosed_M k, ⟨go_laws_eqIntS_M k, ⟨go_laws_eqBoard_M k, ⟨go_laws_markBoard_M k, ⟨go_laws_markIntS_M k, ⟨go_laws_heldIntS_M k, trivial⟩⟩⟩⟩⟩⟩⟩⟩⟩⟩⟩) rfl fun x => go_laws_FnExactJoinClosed_t k x.1 x.2.1 x.2.2.1 x.2.2.2.1

/-! ### spec.blCan -/
def go_spec_blCan_C (k : Nat) : Ctx := { th := TH, se := SE, sg := [(108, go_spec_boIs_S k)], mu := [], an := [], dr := [(1, 13)], pre := [], d2 := [], m := 0, fx := [], n := 23, k := k }
def go_spec_blCan (k : Nat) (a0 : (Int × (Int × ((List Int) × Unit)))) (a1 : (Int × (Int × Unit))) (a2 : (List Int)) (a3 : Int) : Option Bool :=
  if (inb (IntKind.i64.wrap (a3 - (1 : Int))) a2.length) = true then
  if (inb (IntKind.i64.wrap ((a2.length : Int) - (1 : Int))) a2.length) = true then
  (go_spec_boIs k a0 a1 (a2.getD (IntKind.i64.wrap (a3 - (1 : Int))).toNat (0 : Int)) (a2.getD (IntKind.i64.wrap ((a2.length : Int) - (1 : Int))).toNat (0 : Int))).bind fun r1 =>
  some r1
  else none
  else none
theorem go_spec_blCan_t (k : Nat) (a0 : (Int × (Int × ((List Int) × Unit)))) (a1 : (Int × (Int × Unit))) (a2 : (List Int)) (a3 : Int) : runPure (go_spec_blCan_C k) (bodyOf Go.Proofs.Try.f139) Go.Proofs.Try.f139.results.toList false (.pr (.val (.pair I (.pair I (.pair (.sl I) .unit)))) (.pr (.val (.pair I (.pair I .unit))) (.pr (.val (.sl I)) (.pr (.val I) .un)))) (.val .bool) (a0, a1, a2, a3, ()) = go_spec_blCan k a0 a1 a2 a3 := by kernel_rfl
def go_spec_blCan_S (k : Nat) : Spec := ⟨(.pr (.val (.pair I (.pair I (.pair (.sl I) .unit)))) (.pr (.val (.pair I (.pair I .unit))) (.pr (.val (.sl I)) (.pr (.val I) .un)))), (.val .bool), false, .inl fun x => go_spec_blCan k x.1 x.2.1 x.2.2.1 x.2.2.2.1⟩
theorem go_spec_blCan_F (k : Nat) : Fits Go.Proofs.Try.prog (go_spec_blCan_C k) 139 Go.Proofs.Try.f139 (bodyOf Go.Proofs.Try.f139) (.pr (.val (.pair I (.pair I (.pair (.sl I) .unit)))) (.pr (.val (.pair I (.pair I .unit))) (.pr (.val (.sl I)) (.pr (.val I) .un)))) (.val .bool) false :=
  ⟨th0, mixed0, by kernel_rfl, Go.Proofs.Try.func139, rfl, by kernel_rfl, rfl, rfl, rfl, rfl, rfl, rfl⟩
theorem go_spec_blCan_M (k : Nat) : Meets Go.Proofs.Try.prog 139 (go_spec_blCan_S k) :=
  meets_pure (go_spec_blCan_F k) (sigs_all (l := [(108, go_spec_boIs_S k)]) rfl ⟨go_spec_boIs_M k, trivial⟩) rfl fun x => go_spec_blCan_t k x.1 x.2.1 x.2.2.1 x.2.2.2.1

/-! ### spec.blTurns -/
def go_spec_blTurns_C (k : Nat) : Ctx := { th := TH, se := SE, sg := [(139, go_spec_blCan_S k)], mu := [], an := [(3, [(2, false), (3, false), (4, false), (7, true), (8, false)])], dr := [], pre := [], d2 := [], m := 0, fx := [], n := 26, k := k }
def go_spec_blTurns_L0_E (a0 : (Int × (Int × ((List Int) × Unit)))) (a1 : (Int × (Int × Unit))) (a2 : (List Int)) (x10 : (Int × (List Int))) : St :=
  ⟨[(2, .one (.val (.sl I) a2), []), (3, .one (.val (.pt (.pair I (.pair I (.pair (.sl I) .unit)))) (some a0)), []), (4, .one (.val (.pt (.pair I (.pair I .unit))) (some a1)), []), (7, .one (.own 0), []), (8, .one (.val I x10.1), [])], [.arr 3 I x10.2], []⟩
def go_spec_blTurns_L0_G (k : Nat) (a0 : (Int × (Int × ((List Int) × Unit)))) (a1 : (Int × (Int × Unit))) (a2 : (List Int)) (rec11 : (Int × (List Int)) → Option (List Int)) (x10 : (Int × (List Int))) : Option (List Int) :=
  if (decide ((IntKind.i64.wrap (x10.1 + (1 : Int))) < (a2.length : Int))) = true then
    (go_spec_blCan k a0 a1 a2 x10.1).bind fun r12 =>
    if r12 = true then
      if (decide (x10.2.length + [x10.1].length ≤ LIM)) = true then
      rec11 ((IntKind.i64.wrap (x10.1 + (1 : Int))), (x10.2 ++ [x10.1]))
      else none
    else
      rec11 ((IntKind.i64.wrap (x10.1 + (1 : Int))), x10.2)
  else
    some x10.2
def go_spec_blTurns_L0 (k : Nat) (a0 : (Int × (Int × ((List Int) × Unit)))) (a1 : (Int × (Int × Unit))) (a2 : (List Int)) : (Int × (List Int)) → Option (List Int) :=
  iter k fun rec11 x10 => go_spec_blTurns_L0_G k a0 a1 a2 rec11 x10
theorem go_spec_blTurns_L0_t (k : Nat) (a0 : (Int × (Int × ((List Int) × Unit)))) (a1 : (Int × (Int × Unit))) (a2 : (List Int)) (x : (Int × (List Int))) :
    iter k (loopAt (go_spec_blTurns_C k) (bodyOf Go.Proofs.Try.f111) [1, 1, 0, 1, 0] [] (finPure (go_spec_blTurns_C k) Go.Proofs.Try.f111.results.toList false (.val (.sl I)))) (go_spec_blTurns_L0_E a0 a1 a2 x) = go_spec_blTurns_L0 k a0 a1 a2 x := by
  refine iter_tie (G := fun rec x => go_spec_blTurns_L0_G k a0 a1 a2 rec x) (go_spec_blTurns_L0_E a0 a1 a2) (fun rec x => ?_) k x
  have h : loopAt (go_spec_blTurns_C k) (bodyOf Go.Proofs.Try.f111) [1, 1, 0, 1, 0] [] (finPure (go_spec_blTurns_C k) Go.Proofs.Try.f111.results.toList false (.val (.sl I))) rec (go_spec_blTurns_L0_E a0 a1 a2 x) = go_spec_blTurns_L0_G k a0 a1 a2 (fun y => rec (go_spec_blTurns_L0_E a0 a1 a2 y)) x := by kernel_rfl
  rw [h]
def go_spec_blTurns_T (k : Nat) (a0 : (Int × (Int × ((List Int) × Unit)))) (a1 : (Int × (Int × Unit))) (a2 : (List Int)) (l_0 : (Int × (List Int)) → Option (List Int)) : Option (List Int) :=
  l_0 ((1 : Int), [])
def go_spec_blTurns (k : Nat) (a0 : (Int × (Int × ((List Int) × Unit)))) (a1 : (Int × (Int × Unit))) (a2 : (List Int)) : Option (List Int) :=
  go_spec_blTurns_T k a0 a1 a2 (fun y => go_spec_blTurns_L0 k a0 a1 a2 y)
theorem go_spec_blTurns_t (k : Nat) (a0 : (Int × (Int × ((List Int) × Unit)))) (a1 : (Int × (Int × Unit))) (a2 : (List Int)) : runPure (go_spec_blTurns_C k) (bodyOf Go.Proofs.Try.f111) Go.Proofs.Try.f111.results.toList false (.pr (.val (.pair I (.pair I (.pair (.sl I) .unit)))) (.pr (.val (.pair I (.pair I .unit))) (.pr (.val (.sl I)) .un))) (.val (.sl I)) (a0, a1, a2, ()) = go_spec_blTurns k a0 a1 a2 := by
  have h : runPure (go_spec_blTurns_C k) (bodyOf Go.Proofs.Try.f111) Go.Proofs.Try.f111.results.toList false (.pr (.val (.pair I (.pair I (.pair (.sl I) .unit)))) (.pr (.val (.pair I (.pair I .unit))) (.pr (.val (.sl I)) .un))) (.val (.sl I)) (a0, a1, a2, ()) = go_spec_blTurns_T k a0 a1 a2 (fun y => iter k (loopAt (go_spec_blTurns_C k) (bodyOf Go.Proofs.Try.f111) [1, 1, 0, 1, 0] [] (finPure (go_spec_blTurns_C k) Go.Proofs.Try.f111.results.toList false (.val (.sl I)))) (go_spec_blTurns_L0_E a0 a1 a2 y)) := by kernel_rfl
  have h0 : (fun y => iter k (loopAt (go_spec_blTurns_C k) (bodyOf Go.Proofs.Try.f111) [1, 1, 0, 1, 0] [] (finPure (go_spec_blTurns_C k) Go.Proofs.Try.f111.results.toList false (.val (.sl I)))) (go_spec_blTurns_L0_E a0 a1 a2 y)) = (fun y => go_spec_blTurns_L0 k a0 a1 a2 y) := by
    funext y
    exact go_spec_blTurns_L0_t k a0 a1 a2 y
  rw [h, h0]
  rfl
def go_spec_blTurns_S (k : Nat) : Spec := ⟨(.pr (.val (.pair I (.pair I (.pair (.sl I) .unit)))) (.pr (.val (.pair I (.pair I .unit))) (.pr (.val (.sl I)) .un))), (.val (.sl I)), false, .inl fun x => go_spec_blTurns k x.1 x.2.1 x.2.2.1⟩
theorem go_spec_blTurns_F (k : Nat) : Fits Go.Proofs.Try.prog (go_spec_blTurns_C k) 111 Go.Proofs.Try.f111 (bodyOf Go.Proofs.Try.f111) (.pr (.val (.pair I (.pair I (.pair (.sl I) .unit)))) (.pr (.val (.pair I (.pair I .unit))) (.pr (.val (.sl I)) .un))) (.val (.sl I)) false :=
  ⟨th0, mixed0, by kernel_rfl, Go.Proofs.Try.func111, rfl, by kernel_rfl, rfl, rfl, rfl, rfl, rfl, rfl⟩
theorem go_spec_blTurns_M (k : Nat) : Meets Go.Proofs.Try.prog 111 (go_spec_blTurns_S k) :=
  meets_pure (go_spec_blTurns_F k) (sigs_all (l := [(139, go_spec_blCan_S k)]) rfl ⟨go_spec_blCan_M k, trivial⟩) rfl fun x => go_spec_blTurns_t k x.1 x.2.1 x.2.2.1

/-! ### spec.blBack -/
def go_spec_blBack_C (k : Nat) : Ctx := { th := TH, se := SE, sg := [], mu := [], an := [(3, [(0, false), (3, true), (4, false)])], dr := [], pre := [], d2 := [], m := 0, fx := [], n := 20, k := k }
def go_spec_blBack_L0_E (a0 : (List Int)) (x7 : (Int × (List Int))) : St :=
  ⟨[(0, .one (.val (.sl I) a0), []), (3, .one (.own 0), []), (4, .one (.val I x7.1), [])], [.arr 3 I x7.2], []⟩
def go_spec_blBack_L0_G (k : Nat) (a0 : (List Int)) (rec8 : (Int × (List Int)) → Option (List Int)) (x7 : (Int × (List Int))) : Option (List Int) :=
  if (decide ((0 : Int) ≤ x7.1)) = true then
    if (inb x7.1 a0.length) = true then
    if (decide (x7.2.length + [(a0.getD x7.1.toNat (0 : Int))].length ≤ LIM)) = true then
    rec8 ((IntKind.i64.wrap (x7.1 - (1 : Int))), (x7.2 ++ [(a0.getD x7.1.toNat (0 : Int))]))
    else none
    else none
  else
    some x7.2
def go_spec_blBack_L0 (k : Nat) (a0 : (List Int)) : (Int × (List Int)) → Option (List Int) :=
  iter k fun rec8 x7 => go_spec_blBack_L0_G k a0 rec8 x7
theorem go_spec_blBack_L0_t (k : Nat) (a0 : (List Int)) (x : (Int × (List Int))) :
    iter k (loopAt (go_spec_blBack_C k) (bodyOf Go.Proofs.Try.f140) [1, 1, 0, 1, 0] [] (finPure (go_spec_blBack_C k) Go.Proofs.Try.f140.results.toList false (.val (.sl I)))) (go_spec_blBack_L0_E a0 x) = go_spec_blBack_L0 k a0 x := by
  refine iter_tie (G := fun rec x => go_spec_blBack_L0_G k a0 rec x) (go_spec_blBack_L0_E a0) (fun rec x => ?_) k x
  have h : loopAt (go_spec_blBack_C k) (bodyOf Go.Proofs.Try.f140) [1, 1, 0, 1, 0] [] (finPure (go_spec_blBack_C k) Go.Proofs.Try.f140.results.toList false (.val (.sl I))) rec (go_spec_blBack_L0_E a0 x) = go_spec_blBack_L0_G k a0 (fun y => rec (go_spec_blBack_L0_E a0 y)) x := by kernel_rfl
  rw [h]
def go_spec_blBack_T (k : Nat) (a0 : (List Int)) (l_0 : (Int × (List Int)) → Option (List Int)) : Option (List Int) :=
  l_0 ((IntKind.i64.wrap ((a0.length : Int) - (1 : Int))), [])
def go_spec_blBack (k : Nat) (a0 : (List Int)) : Option (List Int) :=
  go_spec_blBack_T k a0 (fun y => go_spec_blBack_L0 k a0 y)
theorem go_spec_blBack_t (k : Nat) (a0 : (List Int)) : runPure (go_spec_blBack_C k) (bodyOf Go.Proofs.Try.f140) Go.Proofs.Try.f140.results.toList false (.pr (.val (.sl I)) .un) (.val (.sl I)) (a0, ()) = go_spec_blBack k a0 := by
  have h : runPure (go_spec_blBack_C k) (bodyOf Go.Proofs.Try.f140) Go.Proofs.Try.f140.results.toList false (.pr (.val (.sl I)) .un) (.val (.sl I)) (a0, ()) = go_spec_blBack_T k a0 (fun y => iter k (loopAt (go_spec_blBack_C k) (bodyOf Go.Proofs.Try.f140) [1, 1, 0, 1, 0] [] (finPure (go_spec_blBack_C k) Go.Proofs.Try.f140.results.toList false (.val (.sl I)))) (go_spec_blBack_L0_E a0 y)) := by kernel_rfl
  have h0 : (fun y => iter k (loopAt (go_spec_blBack_C k) (bodyOf Go.Proofs.Try.f140) [1, 1, 0, 1, 0] [] (finPure (go_spec_blBack_C k) Go.Proofs.Try.f140.results.toList false (.val (.sl I)))) (go_spec_blBack_L0_E a0 y)) = (fun y => go_spec_blBack_L0 k a0 y) := by
    funext y
    exact go_spec_blBack_L0_t k a0 y
  rw [h, h0]
  rfl
def go_spec_blBack_S (k : Nat) : Spec := ⟨(.pr (.val (.sl I)) .un), (.val (.sl I)), false, .inl fun x => go_spec_blBack k x.1⟩
theorem go_spec_blBack_F (k : Nat) : Fits Go.Proofs.Try.prog (go_spec_blBack_C k) 140 Go.Proofs.Try.f140 (bodyOf Go.Proofs.Try.f140) (.pr (.val (.sl I)) .un) (.val (.sl I)) false :=
  ⟨th0, mixed0, by kernel_rfl, Go.Proofs.Try.func140, rfl, by kernel_rfl, rfl, rfl, rfl, rfl, rfl, rfl⟩
theorem go_spec_blBack_M (k : Nat) : Meets Go.Proofs.Try.prog 140 (go_spec_blBack_S k) :=
  meets_pure (go_spec_blBack_F k) (sigs_all (l := []) rfl trivial) rfl fun x => go_spec_blBack_t k x.1

/-! ### spec.blTurn -/
def go_spec_blTurn_C (k : Nat) : Ctx := { th := TH, se := SE, sg := [(59, go_spec_l1Own_S k), (140, go_spec_blBack_S k)], mu := [8], an := [], dr := [(1, 7)], pre := [], d2 := [], m := 0, fx := [], n := 14, k := k }
def go_spec_blTurn (k : Nat) (a0 : (List Int)) (a1 : Int) : Option (List Int) :=
  if (decide (0 ≤ (0 : Int) ∧ (0 : Int) ≤ a1 ∧ a1 ≤ (a0.length : Int))) = true then
  (go_spec_l1Own k ((a0.take a1.toNat).drop (0 : Int).toNat)).bind fun r1 =>
  if (decide (0 ≤ a1 ∧ a1 ≤ (a0.length : Int) ∧ (a0.length : Int) ≤ (a0.length : Int))) = true then
  (go_spec_blBack k ((a0.take (a0.length : Int).toNat).drop a1.toNat)).bind fun r2 =>
  if (decide (r1.length + r2.length ≤ LIM)) = true then
  some (r1 ++ r2)
  else none
  else none
  else none
theorem go_spec_blTurn_t (k : Nat) (a0 : (List Int)) (a1 : Int) : runPure (go_spec_blTurn_C k) (bodyOf Go.Proofs.Try.f112) Go.Proofs.Try.f112.results.toList false (.pr (.val (.sl I)) (.pr (.val I) .un)) (.val (.sl I)) (a0, a1, ()) = go_spec_blTurn k a0 a1 := by kernel_rfl
def go_spec_blTurn_S (k : Nat) : Spec := ⟨(.pr (.val (.sl I)) (.pr (.val I) .un)), (.val (.sl I)), false, .inl fun x => go_spec_blTurn k x.1 x.2.1⟩
theorem go_spec_blTurn_F (k : Nat) : Fits Go.Proofs.Try.prog (go_spec_blTurn_C k) 112 Go.Proofs.Try.f112 (bodyOf Go.Proofs.Try.f112) (.pr (.val (.sl I)) (.pr (.val I) .un)) (.val (.sl I)) false :=
  ⟨th0, mixed0, by kernel_rfl, Go.Proofs.Try.func112, rfl, by kernel_rfl, rfl, rfl, rfl, rfl, rfl, rfl⟩
theorem go_spec_blTurn_M (k : Nat) : Meets Go.Proofs.Try.prog 112 (go_spec_blTurn_S k) :=
  meets_pure (go_spec_blTurn_F k) (sigs_all (l := [(59, go_spec_l1Own_S k), (140, go_spec_blBack_S k)]) rfl ⟨go_spec_l1Own_M k, ⟨go_spec_blBack_M k, trivial⟩⟩) rfl fun x => go_spec_blTurn_t k x.1 x.2.1

/-! ### spec.blClose -/
def go_spec_blClose_C (sf : (Int × (Int × ((List Int) × Unit))) → (Int × (Int × Unit)) → (List Int) → Int → Option ((List Int) × (Bool × Unit))) (k : Nat) : Ctx := { th := TH, se := SE, sg := [(107, go_spec_blClosed_S k), (111, go_spec_blTurns_S k), (112, go_spec_blTurn_S k), (66, ⟨(.pr (.val (.pair I (.pair I (.pair (.sl I) .unit)))) (.pr (.val (.pair I (.pair I .unit))) (.pr (.val (.sl I)) (.pr (.val I) .un)))), (.pr (.val (.sl I)) (.pr (.val .bool) .un)), true, .inl fun x => sf x.1 x.2.1 x.2.2.1 x.2.2.2.1⟩)], mu := [], an := [(4, [(2, false), (3, false), (4, false), (5, false), (24, false), (25, false), (26, false)])], dr := [(6, 12)], pre := [], d2 := [], m := 0, fx := [], n := 44, k := k }
def go_spec_blClose_L0_E (a0 : (Int × (Int × ((List Int) × Unit)))) (a1 : (Int × (Int × Unit))) (a2 : (List Int)) (a3 : Int) (r2 : (List Int)) (x7 : (Int)) : St :=
  ⟨[(2, .one (.val (.sl I) a2), []), (3, .one (.val I a3), []), (4, .one (.val (.pt (.pair I (.pair I (.pair (.sl I) .unit)))) (some a0)), []), (5, .one (.val (.pt (.pair I (.pair I .unit))) (some a1)), []), (24, .one (.val (.sl I) r2), []), (25, .one (.val I (r2.length : Int)), []), (26, .one (.val I x7), [])], [], []⟩
def go_spec_blClose_L0_G (sf : (Int × (Int × ((List Int) × Unit))) → (Int × (Int × Unit)) → (List Int) → Int → Option ((List Int) × (Bool × Unit))) (k : Nat) (a0 : (Int × (Int × ((List Int) × Unit)))) (a1 : (Int × (Int × Unit))) (a2 : (List Int)) (a3 : Int) (r2 : (List Int)) (rec8 : (Int) → Option ((List Int) × (Bool × Unit))) (x7 : (Int)) : Option ((List Int) × (Bool × Unit)) :=
  if (decide (x7 < (r2.length : Int))) = true then
    if (inb x7 r2.length) = true then
    (go_spec_blTurn k a2 (r2.getD x7.toNat (0 : Int))).bind fun r9 =>
    (sf a0 a1 r9 (IntKind.i64.wrap (a3 - (1 : Int)))).bind fun r10 =>
    if r10.2.1 = true then
      some (r10.1, (true, ()))
    else
      rec8 (IntKind.i64.wrap (x7 + (1 : Int)))
    else none
  else
    some ([], (false, ()))
def go_spec_blClose_L0 (sf : (Int × (Int × ((List Int) × Unit))) → (Int × (Int × Unit)) → (List Int) → Int → Option ((List Int) × (Bool × Unit))) (k : Nat) (a0 : (Int × (Int × ((List Int) × Unit)))) (a1 : (Int × (Int × Unit))) (a2 : (List Int)) (a3 : Int) (r2 : (List Int)) : (Int) → Option ((List Int) × (Bool × Unit)) :=
  iter k fun rec8 x7 => go_spec_blClose_L0_G sf k a0 a1 a2 a3 r2 rec8 x7
theorem go_spec_blClose_L0_t (sf : (Int × (Int × ((List Int) × Unit))) → (Int × (Int × Unit)) → (List Int) → Int → Option ((List Int) × (Bool × Unit))) (k : Nat) (a0 : (Int × (Int × ((List Int) × Unit)))) (a1 : (Int × (Int × Unit))) (a2 : (List Int)) (a3 : Int) (r2 : (List Int)) (x : (Int)) :
    iter k (loopAt (go_spec_blClose_C sf k) (bodyOf Go.Proofs.Try.f66) [1, 1, 0, 1, 0] [] (finPure (go_spec_blClose_C sf k) Go.Proofs.Try.f66.results.toList true (.pr (.val (.sl I)) (.pr (.val .bool) .un)))) (go_spec_blClose_L0_E a0 a1 a2 a3 r2 x) = go_spec_blClose_L0 sf k a0 a1 a2 a3 r2 x := by
  refine iter_tie (G := fun rec x => go_spec_blClose_L0_G sf k a0 a1 a2 a3 r2 rec x) (go_spec_blClose_L0_E a0 a1 a2 a3 r2) (fun rec x => ?_) k x
  have h : loopAt (go_spec_blClose_C sf k) (bodyOf Go.Proofs.Try.f66) [1, 1, 0, 1, 0] [] (finPure (go_spec_blClose_C sf k) Go.Proofs.Try.f66.results.toList true (.pr (.val (.sl I)) (.pr (.val .bool) .un))) rec (go_spec_blClose_L0_E a0 a1 a2 a3 r2 x) = go_spec_blClose_L0_G sf k a0 a1 a2 a3 r2 (fun y => rec (go_spec_blClose_L0_E a0 a1 a2 a3 r2 y)) x := by kernel_rfl
  rw [h]
def go_spec_blClose_T (sf : (Int × (Int × ((List Int) × Unit))) → (Int × (Int × Unit)) → (List Int) → Int → Option ((List Int) × (Bool × Unit))) (k : Nat) (a0 : (Int × (Int × ((List Int) × Unit)))) (a1 : (Int × (Int × Unit))) (a2 : (List Int)) (a3 : Int) (l_0 : (List Int) → (Int) → Option ((List Int) × (Bool × Unit))) : Option ((List Int) × (Bool × Unit)) :=
  if (decide (a3 = (0 : Int))) = true then
    (go_spec_blClosed k a0 a1 a2).bind fun r1 =>
    some (a2, (r1, ()))
  else
    (go_spec_blTurns k a0 a1 a2).bind fun r2 =>
    l_0 r2 (0 : Int)
def go_spec_blClose_b (sf : (Int × (Int × ((List Int) × Unit))) → (Int × (Int × Unit)) → (List Int) → Int → Option ((List Int) × (Bool × Unit))) (k : Nat) (a0 : (Int × (Int × ((List Int) × Unit)))) (a1 : (Int × (Int × Unit))) (a2 : (List Int)) (a3 : Int) : Option ((List Int) × (Bool × Unit)) :=
  go_spec_blClose_T sf k a0 a1 a2 a3 (fun r2 y => go_spec_blClose_L0 sf k a0 a1 a2 a3 r2 y)
theorem go_spec_blClose_t (sf : (Int × (Int × ((List Int) × Unit))) → (Int × (Int × Unit)) → (List Int) → Int → Option ((List Int) × (Bool × Unit))) (k : Nat) (a0 : (Int × (Int × ((List Int) × Unit)))) (a1 : (Int × (Int × Unit))) (a2 : (List Int)) (a3 : Int) : runPure (go_spec_blClose_C sf k) (bodyOf Go.Proofs.Try.f66) Go.Proofs.Try.f66.results.toList true (.pr (.val (.pair I (.pair I (.pair (.sl I) .unit)))) (.pr (.val (.pair I (.pair I .unit))) (.pr (.val (.sl I)) (.pr (.val I) .un)))) (.pr (.val (.sl I)) (.pr (.val .bool) .un)) (a0, a1, a2, a3, ()) = go_spec_blClose_b sf k a0 a1 a2 a3 := by
  have h : runPure (go_spec_blClose_C sf k) (bodyOf Go.Proofs.Try.f66) Go.Proofs.Try.f66.results.toList true (.pr (.val (.pair I (.pair I (.pair (.sl I) .unit)))) (.pr (.val (.pair I (.pair I .unit))) (.pr (.val (.sl I)) (.pr (.val I) .un)))) (.pr (.val (.sl I)) (.pr (.val .bool) .un)) (a0, a1, a2, a3, ()) = go_spec_blClose_T sf k a0 a1 a2 a3 (fun r2 y => iter k (loopAt (go_spec_blClose_C sf k) (bodyOf Go.Proofs.Try.f66) [1, 1, 0, 1, 0] [] (finPure (go_spec_blClose_C sf k) Go.Proofs.Try.f66.results.toList true (.pr (.val (.sl I)) (.pr (.val .bool) .un)))) (go_spec_blClose_L0_E a0 a1 a2 a3 r2 y)) := by kernel_rfl
  have h0 : (fun r2 y => iter k (loopAt (go_spec_blClose_C sf k) (bodyOf Go.Proofs.Try.f66) [1, 1, 0, 1, 0] [] (finPure (go_spec_blClose_C sf k) Go.Proofs.Try.f66.results.toList true (.pr (.val (.sl I)) (.pr (.val .bool) .un)))) (go_spec_blClose_L0_E a0 a1 a2 a3 r2 y)) = (fun r2 y => go_spec_blClose_L0 sf k a0 a1 a2 a3 r2 y) := by
    funext r2 y
    exact go_spec_blClose_L0_t sf k a0 a1 a2 a3 r2 y
  rw [h, h0]
  rfl
theorem go_spec_blClose_F (sf : (Int × (Int × ((List Int) × Unit))) → (Int × (Int × Unit)) → (List Int) → Int → Option ((List Int) × (Bool × Unit))) (k : Nat) : Fits Go.Proofs.Try.prog (go_spec_blClose_C sf k) 66 Go.Proofs.Try.f66 (bodyOf Go.Proofs.Try.f66) (.pr (.val (.pair I (.pair I (.pair (.sl I) .unit)))) (.pr (.val (.pair I (.pair I .unit))) (.pr (.val (.sl I)) (.pr (.val I) .un)))) (.pr (.val (.sl I)) (.pr (.val .bool) .un)) true :=
  ⟨th0, mixed0, by kernel_rfl, Go.Proofs.Try.func66, rfl, by kernel_rfl, rfl, rfl, rfl, rfl, rfl, rfl⟩
def go_spec_blClose_r (k : Nat) : Nat → (Int × (Int × ((List Int) × Unit))) → (Int × (Int × Unit)) → (List Int) → Int → Option ((List Int) × (Bool × Unit))
  | 0 => fun _ _ _ _ => none
  | n + 1 => go_spec_blClose_b (go_spec_blClose_r k n) k
def go_spec_blClose_Sr (n k : Nat) : Spec := ⟨(.pr (.val (.pair I (.pair I (.pair (.sl I) .unit)))) (.pr (.val (.pair I (.pair I .unit))) (.pr (.val (.sl I)) (.pr (.val I) .un)))), (.pr (.val (.sl I)) (.pr (.val .bool) .un)), true, .inl fun x => go_spec_blClose_r k n x.1 x.2.1 x.2.2.1 x.2.2.2.1⟩
theorem go_spec_blClose_Mr : ∀ (n k : Nat), Meets Go.Proofs.Try.prog 66 (go_spec_blClose_Sr n k)
  | 0, k => meets_none (go_spec_blClose_F (fun _ _ _ _ => none) k) rfl
  | n + 1, k => meets_pure (go_spec_blClose_F (go_spec_blClose_r k n) k) (sigs_all (l := [(107, go_spec_blClosed_S k), (111, go_spec_blTurns_S k), (112, go_spec_blTurn_S k), (66, go_spec_blClose_Sr n k)]) rfl ⟨go_spec_blClosed_M k, ⟨go_spec_blTurns_M k, ⟨go_spec_blTurn_M k, ⟨go_spec_blClose_Mr n k, trivial⟩⟩⟩⟩) rfl fun x => go_spec_blClose_t (go_spec_blClose_r k n) k x.1 x.2.1 x.2.2.1 x.2.2.2.1
def go_spec_blClose (k : Nat) (a0 : (Int × (Int × ((List Int) × Unit)))) (a1 : (Int × (Int × Unit))) (a2 : (List Int)) (a3 : Int) : Option ((List Int) × (Bool × Unit)) := go_spec_blClose_r k k a0 a1 a2 a3
def go_spec_blClose_S (k : Nat) : Spec := ⟨(.pr (.val (.pair I (.pair I (.pair (.sl I) .unit)))) (.pr (.val (.pair I (.pair I .unit))) (.pr (.val (.sl I)) (.pr (.val I) .un)))), (.pr (.val (.sl I)) (.pr (.val .bool) .un)), true, .inl fun x => go_spec_blClose k x.1 x.2.1 x.2.2.1 x.2.2.2.1⟩
theorem go_spec_blClose_M (k : Nat) : Meets Go.Proofs.Try.prog 66 (go_spec_blClose_S k) := go_spec_blClose_Mr k k

/-! ### spec.CloseByTurns -/
def go_spec_CloseByTurns_C (k : Nat) : Ctx := { th := TH, se := SE, sg := [(64, go_spec_blWalk_S k), (65, go_spec_l1In_S k), (66, go_spec_blClose_S k), (59, go_spec_l1Own_S k)], mu := [], an := [(4, [(2, false), (3, false), (4, false), (5, false), (10, false)])], dr := [], pre := [], d2 := [], m := 0, fx := [], n := 39, k := k }
def go_spec_CloseByTurns_L0_E (a0 : (Int × (Int × ((List Int) × Unit)))) (a1 : (Int × (Int × Unit))) (a2 : (List Int)) (a3 : Int) (x7 : (Int)) : St :=
  ⟨[(2, .one (.val (.sl I) a2), []), (3, .one (.val I a3), []), (4, .one (.val (.pt (.pair I (.pair I (.pair (.sl I) .unit)))) (some a0)), []), (5, .one (.val (.pt (.pair I (.pair I .unit))) (some a1)), []), (10, .one (.val I x7), [])], [], []⟩
def go_spec_CloseByTurns_L0_G (k : Nat) (a0 : (Int × (Int × ((List Int) × Unit)))) (a1 : (Int × (Int × Unit))) (a2 : (List Int)) (a3 : Int) (rec8 : (Int) → Option ((List Int) × (Bool × Unit))) (x7 : (Int)) : Option ((List Int) × (Bool × Unit)) :=
  if (decide (x7 ≤ a3)) = true then
    (go_spec_blClose k a0 a1 a2 x7).bind fun r9 =>
    if r9.2.1 = true then
      (go_spec_l1Own k r9.1).bind fun r10 =>
      some (r10, (true, ()))
    else
      rec8 (IntKind.i64.wrap (x7 + (1 : Int)))
  else
    some ([], (false, ()))
def go_spec_CloseByTurns_L0 (k : Nat) (a0 : (Int × (Int × ((List Int) × Unit)))) (a1 : (Int × (Int × Unit))) (a2 : (List Int)) (a3 : Int) : (Int) → Option ((List Int) × (Bool × Unit)) :=
  iter k fun rec8 x7 => go_spec_CloseByTurns_L0_G k a0 a1 a2 a3 rec8 x7
theorem go_spec_CloseByTurns_L0_t (k : Nat) (a0 : (Int × (Int × ((List Int) × Unit)))) (a1 : (Int × (Int × Unit))) (a2 : (List Int)) (a3 : Int) (x : (Int)) :
    iter k (loopAt (go_spec_CloseByTurns_C k) (bodyOf Go.Proofs.Try.f28) [1, 1, 0, 1, 0] [] (finPure (go_spec_CloseByTurns_C k) Go.Proofs.Try.f28.results.toList true (.pr (.val (.sl I)) (.pr (.val .bool) .un)))) (go_spec_CloseByTurns_L0_E a0 a1 a2 a3 x) = go_spec_CloseByTurns_L0 k a0 a1 a2 a3 x := by
  refine iter_tie (G := fun rec x => go_spec_CloseByTurns_L0_G k a0 a1 a2 a3 rec x) (go_spec_CloseByTurns_L0_E a0 a1 a2 a3) (fun rec x => ?_) k x
  have h : loopAt (go_spec_CloseByTurns_C k) (bodyOf Go.Proofs.Try.f28) [1, 1, 0, 1, 0] [] (finPure (go_spec_CloseByTurns_C k) Go.Proofs.Try.f28.results.toList true (.pr (.val (.sl I)) (.pr (.val .bool) .un))) rec (go_spec_CloseByTurns_L0_E a0 a1 a2 a3 x) = go_spec_CloseByTurns_L0_G k a0 a1 a2 a3 (fun y => rec (go_spec_CloseByTurns_L0_E a0 a1 a2 a3 y)) x := by kernel_rfl
  rw [h]
def go_spec_CloseByTurns_T (k : Nat) (a0 : (Int × (Int × ((List Int) × Unit)))) (a1 : (Int × (Int × Unit))) (a2 : (List Int)) (a3 : Int) (l_0 : (Int) → Option ((List Int) × (Bool × Unit))) : Option ((List Int) × (Bool × Unit)) :=
  (go_spec_blWalk k a0 a1 a2).bind fun r1 =>
  (if (!(!r1)) = true then go_spec_l1In k a3 (0 : Int) (3 : Int) else some false).bind fun r2 =>
  if ((!r1) || (!r2)) = true then
    some ([], (false, ()))
  else
    l_0 (0 : Int)
def go_spec_CloseByTurns (k : Nat) (a0 : (Int × (Int × ((List Int) × Unit)))) (a1 : (Int × (Int × Unit))) (a2 : (List Int)) (a3 : Int) : Option ((List Int) × (Bool × Unit)) :=
  go_spec_CloseByTurns_T k a0 a1 a2 a3 (fun y => go_spec_CloseByTurns_L0 k a0 a1 a2 a3 y)
theorem go_spec_CloseByTurns_t (k : Nat) (a0 : (Int × (Int × ((List Int) × Unit)))) (a1 : (Int × (Int × Unit))) (a2 : (List Int)) (a3 : Int) : runPure (go_spec_CloseByTurns_C k) (bodyOf Go.Proofs.Try.f28) Go.Proofs.Try.f28.results.toList true (.pr (.val (.pair I (.pair I (.pair (.sl I) .unit)))) (.pr (.val (.pair I (.pair I .unit))) (.pr (.val (.sl I)) (.pr (.val I) .un)))) (.pr (.val (.sl I)) (.pr (.val .bool) .un)) (a0, a1, a2, a3, ()) = go_spec_CloseByTurns k a0 a1 a2 a3 := by
  have h : runPure (go_spec_CloseByTurns_C k) (bodyOf Go.Proofs.Try.f28) Go.Proofs.Try.f28.results.toList true (.pr (.val (.pair I (.pair I (.pair (.sl I) .unit)))) (.pr (.val (.pair I (.pair I .unit))) (.pr (.val (.sl I)) (.pr (.val I) .un)))) (.pr (.val (.sl I)) (.pr (.val .bool) .un)) (a0, a1, a2, a3, ()) = go_spec_CloseByTurns_T k a0 a1 a2 a3 (fun y => iter k (loopAt (go_spec_CloseByTurns_C k) (bodyOf Go.Proofs.Try.f28) [1, 1, 0, 1, 0] [] (finPure (go_spec_CloseByTurns_C k) Go.Proofs.Try.f28.results.toList true (.pr (.val (.sl I)) (.pr (.val .bool) .un)))) (go_spec_CloseByTurns_L0_E a0 a1 a2 a3 y)) := by kernel_rfl
  have h0 : (fun y => iter k (loopAt (go_spec_CloseByTurns_C k) (bodyOf Go.Proofs.Try.f28) [1, 1, 0, 1, 0] [] (finPure (go_spec_CloseByTurns_C k) Go.Proofs.Try.f28.results.toList true (.pr (.val (.sl I)) (.pr (.val .bool) .un)))) (go_spec_CloseByTurns_L0_E a0 a1 a2 a3 y)) = (fun y => go_spec_CloseByTurns_L0 k a0 a1 a2 a3 y) := by
    funext y
    exact go_spec_CloseByTurns_L0_t k a0 a1 a2 a3 y
  rw [h, h0]
  rfl
def go_spec_CloseByTurns_S (k : Nat) : Spec := ⟨(.pr (.val (.pair I (.pair I (.pair (.sl I) .unit)))) (.pr (.val (.pair I (.pair I .unit))) (.pr (.val (.sl I)) (.pr (.val I) .un)))), (.pr (.val (.sl I)) (.pr (.val .bool) .un)), true, .inl fun x => go_spec_CloseByTurns k x.1 x.2.1 x.2.2.1 x.2.2.2.1⟩
theorem go_spec_CloseByTurns_F (k : Nat) : Fits Go.Proofs.Try.prog (go_spec_CloseByTurns_C k) 28 Go.Proofs.Try.f28 (bodyOf Go.Proofs.Try.f28) (.pr (.val (.pair I (.pair I (.pair (.sl I) .unit)))) (.pr (.val (.pair I (.pair I .unit))) (.pr (.val (.sl I)) (.pr (.val I) .un)))) (.pr (.val (.sl I)) (.pr (.val .bool) .un)) true :=
  ⟨th0, mixed0, by kernel_rfl, Go.Proofs.Try.func28, rfl, by kernel_rfl, rfl, rfl, rfl, rfl, rfl, rfl⟩
theorem go_spec_CloseByTurns_M (k : Nat) : Meets Go.Proofs.Try.prog 28 (go_spec_CloseByTurns_S k) :=
  meets_pure (go_spec_CloseByTurns_F k) (sigs_all (l := [(64, go_spec_blWalk_S k), (65, go_spec_l1In_S k), (66, go_spec_blClose_S k), (59, go_spec_l1Own_S k)]) rfl ⟨go_spec_blWalk_M k, ⟨go_spec_l1In_M k, ⟨go_spec_blClose_M k, ⟨go_spec_l1Own_M k, trivial⟩⟩⟩⟩) rfl fun x => go_spec_CloseByTurns_t k x.1 x.2.1 x.2.2.1 x.2.2.2.1

/-! ### (*impl.graph).turns -/
def go_impl_graph_turns_C (k : Nat) : Ctx := { th := TH, se := SE, sg := [(110, go_impl_graph_leaps_S k)], mu := [], an := [(3, [(0, false), (1, false), (5, true), (6, false)])], dr := [(5, 12)], pre := [], d2 := [], m := 0, fx := [], n := 32, k := k }
def go_impl_graph_turns_L0_E (a0 : (Option ((Int × (Int × ((List Int) × Unit))) × ((Int × (Int × Unit)) × ((List Int) × ((List (List Int)) × Unit)))))) (a1 : (List Int)) (x10 : (Int × (List Int))) : St :=
  ⟨[(0, .one (.val (.pt (.pair (.pair I (.pair I (.pair (.sl I) .unit))) (.pair (.pair I (.pair I .unit)) (.pair (.sl I) (.pair (.sl (.sl I)) .unit))))) a0), []), (1, .one (.val (.sl I) a1), []), (5, .one (.own 0), []), (6, .one (.val I x10.1), [])], [.arr 3 I x10.2], []⟩
def go_impl_graph_turns_L0_G (k : Nat) (a0 : (Option ((Int × (Int × ((List Int) × Unit))) × ((Int × (Int × Unit)) × ((List Int) × ((List (List Int)) × Unit)))))) (a1 : (List Int)) (rec11 : (Int × (List Int)) → Option (List Int)) (x10 : (Int × (List Int))) : Option (List Int) :=
  if (decide ((IntKind.i64.wrap (x10.1 + (1 : Int))) < (a1.length : Int))) = true then
    if (inb (IntKind.i64.wrap (x10.1 - (1 : Int))) a1.length) = true then
    if (inb (IntKind.i64.wrap ((a1.length : Int) - (1 : Int))) a1.length) = true then
    (go_impl_graph_leaps k a0 (a1.getD (IntKind.i64.wrap (x10.1 - (1 : Int))).toNat (0 : Int)) (a1.getD (IntKind.i64.wrap ((a1.length : Int) - (1 : Int))).toNat (0 : Int))).bind fun r12 =>
    if r12 = true then
      if (decide (x10.2.length + [x10.1].length ≤ LIM)) = true then
      rec11 ((IntKind.i64.wrap (x10.1 + (1 : Int))), (x10.2 ++ [x10.1]))
      else none
    else
      rec11 ((IntKind.i64.wrap (x10.1 + (1 : Int))), x10.2)
    else none
    else none
  else
    some x10.2
def go_impl_graph_turns_L0 (k : Nat) (a0 : (Option ((Int × (Int × ((List Int) × Unit))) × ((Int × (Int × Unit)) × ((List Int) × ((List (List Int)) × Unit)))))) (a1 : (List Int)) : (Int × (List Int)) → Option (List Int) :=
  iter k fun rec11 x10 => go_impl_graph_turns_L0_G k a0 a1 rec11 x10
theorem go_impl_graph_turns_L0_t (k : Nat) (a0 : (Option ((Int × (Int × ((List Int) × Unit))) × ((Int × (Int × Unit)) × ((List Int) × ((List (List Int)) × Unit)))))) (a1 : (List Int)) (x : (Int × (List Int))) :
    iter k (loopAt (go_impl_graph_turns_C k) (bodyOf Go.Proofs.Try.f67) [1, 1, 0, 1, 0] [] (finPure (go_impl_graph_turns_C k) Go.Proofs.Try.f67.results.toList false (.val (.sl I)))) (go_impl_graph_turns_L0_E a0 a1 x) = go_impl_graph_turns_L0 k a0 a1 x := by
  refine iter_tie (G := fun rec x => go_impl_graph_turns_L0_G k a0 a1 rec x) (go_impl_graph_turns_L0_E a0 a1) (fun rec x => ?_) k x
  have h : loopAt (go_impl_graph_turns_C k) (bodyOf Go.Proofs.Try.f67) [1, 1, 0, 1, 0] [] (finPure (go_impl_graph_turns_C k) Go.Proofs.Try.f67.results.toList false (.val (.sl I))) rec (go_impl_graph_turns_L0_E a0 a1 x) = go_impl_graph_turns_L0_G k a0 a1 (fun y => rec (go_impl_graph_turns_L0_E a0 a1 y)) x := by kernel_rfl
  rw [h]
def go_impl_graph_turns_T (k : Nat) (a0 : (Option ((Int × (Int × ((List Int) × Unit))) × ((Int × (Int × Unit)) × ((List Int) × ((List (List Int)) × Unit)))))) (a1 : (List Int)) (l_0 : (Int × (List Int)) → Option (List Int)) : Option (List Int) :=
  l_0 ((1 : Int), [])
def go_impl_graph_turns (k : Nat) (a0 : (Option ((Int × (Int × ((List Int) × Unit))) × ((Int × (Int × Unit)) × ((List Int) × ((List (List Int)) × Unit)))))) (a1 : (List Int)) : Option (List Int) :=
  go_impl_graph_turns_T k a0 a1 (fun y => go_impl_graph_turns_L0 k a0 a1 y)
theorem go_impl_graph_turns_t (k : Nat) (a0 : (Option ((Int × (Int × ((List Int) × Unit))) × ((Int × (Int × Unit)) × ((List Int) × ((List (List Int)) × Unit)))))) (a1 : (List Int)) : runPure (go_impl_graph_turns_C k) (bodyOf Go.Proofs.Try.f67) Go.Proofs.Try.f67.results.toList false (.pr (.val (.pt (.pair (.pair I (.pair I (.pair (.sl I) .unit))) (.pair (.pair I (.pair I .unit)) (.pair (.sl I) (.pair (.sl (.sl I)) .unit)))))) (.pr (.val (.sl I)) .un)) (.val (.sl I)) (a0, a1, ()) = go_impl_graph_turns k a0 a1 := by
  have h : runPure (go_impl_graph_turns_C k) (bodyOf Go.Proofs.Try.f67) Go.Proofs.Try.f67.results.toList false (.pr (.val (.pt (.pair (.pair I (.pair I (.pair (.sl I) .unit))) (.pair (.pair I (.pair I .unit)) (.pair (.sl I) (.pair (.sl (.sl I)) .unit)))))) (.pr (.val (.sl I)) .un)) (.val (.sl I)) (a0, a1, ()) = go_impl_graph_turns_T k a0 a1 (fun y => iter k (loopAt (go_impl_graph_turns_C k) (bodyOf Go.Proofs.Try.f67) [1, 1, 0, 1, 0] [] (finPure (go_impl_graph_turns_C k) Go.Proofs.Try.f67.results.toList false (.val (.sl I)))) (go_impl_graph_turns_L0_E a0 a1 y)) := by kernel_rfl
  have h0 : (fun y => iter k (loopAt (go_impl_graph_turns_C k) (bodyOf Go.Proofs.Try.f67) [1, 1, 0, 1, 0] [] (finPure (go_impl_graph_turns_C k) Go.Proofs.Try.f67.results.toList false (.val (.sl I)))) (go_impl_graph_turns_L0_E a0 a1 y)) = (fun y => go_impl_graph_turns_L0 k a0 a1 y) := by
    funext y
    exact go_impl_graph_turns_L0_t k a0 a1 y
  rw [h, h0]
  rfl
def go_impl_graph_turns_S (k : Nat) : Spec := ⟨(.pr (.val (.pt (.pair (.pair I (.pair I (.pair (.sl I) .unit))) (.pair (.pair I (.pair I .unit)) (.pair (.sl I) (.pair (.sl (.sl I)) .unit)))))) (.pr (.val (.sl I)) .un)), (.val (.sl I)), false, .inl fun x => go_impl_graph_turns k x.1 x.2.1⟩
theorem go_impl_graph_turns_F (k : Nat) : Fits Go.Proofs.Try.prog (go_impl_graph_turns_C k) 67 Go.Proofs.Try.f67 (bodyOf Go.Proofs.Try.f67) (.pr (.val (.pt (.pair (.pair I (.pair I (.pair (.sl I) .unit))) (.pair (.pair I (.pair I .unit)) (.pair (.sl I) (.pair (.sl (.sl I)) .unit)))))) (.pr (.val (.sl I)) .un)) (.val (.sl I)) false :=
  ⟨th0, mixed0, by kernel_rfl, Go.Proofs.Try.func67, rfl, by kernel_rfl, rfl, rfl, rfl, rfl, rfl, rfl⟩
theorem go_impl_graph_turns_M (k : Nat) : Meets Go.Proofs.Try.prog 67 (go_impl_graph_turns_S k) :=
  meets_pure (go_impl_graph_turns_F k) (sigs_all (l := [(110, go_impl_graph_leaps_S k)]) rfl ⟨go_impl_graph_leaps_M k, trivial⟩) rfl fun x => go_impl_graph_turns_t k x.1 x.2.1

/-! ### slices.Reverse[[]int,int] -/
def go_slices_Reverse_int_C (k : Nat) : Ctx := { th := TH, se := SE, sg := [], mu := [], an := [(1, [(0, false), (2, false), (3, false)])], dr := [(3, 12)], pre := [(3, [2, 3])], d2 := [], m := 1, fx := [0], n := 28, k := k }
def go_slices_Reverse_int_L0_E (a0 : (List Int)) (x7 : (Int × Int × (List Int))) : St :=
  ⟨[(0, .one (.own 0), []), (2, .one (.val I x7.1), []), (3, .one (.val I x7.2.1), [])], [.arr 3 I x7.2.2], []⟩
def go_slices_Reverse_int_L0_G (k : Nat) (a0 : (List Int)) (rec8 : (Int × Int × (List Int)) → Option (Unit × ((List Int) × Unit))) (x7 : (Int × Int × (List Int))) : Option (Unit × ((List Int) × Unit)) :=
  if (decide (x7.1 < x7.2.1)) = true then
    if (inb x7.2.1 x7.2.2.length) = true then
    if (inb x7.1 x7.2.2.length) = true then
    if (inb x7.1 x7.2.2.length) = true then
    if (inb x7.2.1 (x7.2.2.set x7.1.toNat (x7.2.2.getD x7.2.1.toNat (0 : Int))).length) = true then
    rec8 ((IntKind.i64.wrap (x7.1 + (1 : Int))), (IntKind.i64.wrap (x7.2.1 - (1 : Int))), ((x7.2.2.set x7.1.toNat (x7.2.2.getD x7.2.1.toNat (0 : Int))).set x7.2.1.toNat (x7.2.2.getD x7.1.toNat (0 : Int))))
    else none
    else none
    else none
    else none
  else
    some ((), (x7.2.2, ()))
def go_slices_Reverse_int_L0 (k : Nat) (a0 : (List Int)) : (Int × Int × (List Int)) → Option (Unit × ((List Int) × Unit)) :=
  iter k fun rec8 x7 => go_slices_Reverse_int_L0_G k a0 rec8 x7
theorem go_slices_Reverse_int_L0_t (k : Nat) (a0 : (List Int)) (x : (Int × Int × (List Int))) :
    iter k (loopAt (go_slices_Reverse_int_C k) (bodyOf Go.Proofs.Try.f141) [1, 0] [] (finEff (go_slices_Reverse_int_C k) Go.Proofs.Try.f141.results.toList true (.pr (.own 3 I) .un) .un (a0, ()))) (go_slices_Reverse_int_L0_E a0 x) = go_slices_Reverse_int_L0 k a0 x := by
  refine iter_tie (G := fun rec x => go_slices_Reverse_int_L0_G k a0 rec x) (go_slices_Reverse_int_L0_E a0) (fun rec x => ?_) k x
  have h : loopAt (go_slices_Reverse_int_C k) (bodyOf Go.Proofs.Try.f141) [1, 0] [] (finEff (go_slices_Reverse_int_C k) Go.Proofs.Try.f141.results.toList true (.pr (.own 3 I) .un) .un (a0, ())) rec (go_slices_Reverse_int_L0_E a0 x) = go_slices_Reverse_int_L0_G k a0 (fun y => rec (go_slices_Reverse_int_L0_E a0 y)) x := by kernel_rfl
  rw [h]
def go_slices_Reverse_int_T (k : Nat) (a0 : (List Int)) (l_0 : (Int × Int × (List Int)) → Option (Unit × ((List Int) × Unit))) : Option (Unit × ((List Int) × Unit)) :=
  l_0 ((0 : Int), (IntKind.i64.wrap ((a0.length : Int) - (1 : Int))), a0)
def go_slices_Reverse_int (k : Nat) (a0 : (List Int)) : Option (Unit × ((List Int) × Unit)) :=
  go_slices_Reverse_int_T k a0 (fun y => go_slices_Reverse_int_L0 k a0 y)
theorem go_slices_Reverse_int_t (k : Nat) (a0 : (List Int)) : runEff (go_slices_Reverse_int_C k) (bodyOf Go.Proofs.Try.f141) Go.Proofs.Try.f141.results.toList true (.pr (.own 3 I) .un) .un (a0, ()) = go_slices_Reverse_int k a0 := by
  have h : runEff (go_slices_Reverse_int_C k) (bodyOf Go.Proofs.Try.f141) Go.Proofs.Try.f141.results.toList true (.pr (.own 3 I) .un) .un (a0, ()) = go_slices_Reverse_int_T k a0 (fun y => iter k (loopAt (go_slices_Reverse_int_C k) (bodyOf Go.Proofs.Try.f141) [1, 0] [] (finEff (go_slices_Reverse_int_C k) Go.Proofs.Try.f141.results.toList true (.pr (.own 3 I) .un) .un (a0, ()))) (go_slices_Reverse_int_L0_E a0 y)) := by kernel_rfl
  have h0 : (fun y => iter k (loopAt (go_slices_Reverse_int_C k) (bodyOf Go.Proofs.Try.f141) [1, 0] [] (finEff (go_slices_Reverse_int_C k) Go.Proofs.Try.f141.results.toList true (.pr (.own 3 I) .un) .un (a0, ()))) (go_slices_Reverse_int_L0_E a0 y)) = (fun y => go_slices_Reverse_int_L0 k a0 y) := by
    funext y
    exact go_slices_Reverse_int_L0_t k a0 y
  rw [h, h0]
  rfl
def go_slices_Reverse_int_S (k : Nat) : Spec := ⟨(.pr (.own 3 I) .un), .un, true, .inr fun x => go_slices_Reverse_int k x.1⟩
theorem go_slices_Reverse_int_F (k : Nat) : Fits Go.Proofs.Try.prog (go_slices_Reverse_int_C k) 141 Go.Proofs.Try.f141 (bodyOf Go.Proofs.Try.f141) (.pr (.own 3 I) .un) .un true :=
  ⟨th0, mixed0, by kernel_rfl, Go.Proofs.Try.func141, rfl, by kernel_rfl, rfl, rfl, rfl, rfl, rfl, rfl⟩
theorem go_slices_Reverse_int_M (k : Nat) : Meets Go.Proofs.Try.prog 141 (go_slices_Reverse_int_S k) :=
  meets_eff (go_slices_Reverse_int_F k) (sigs_all (l := []) rfl trivial) fun x => go_slices_Reverse_int_t k x.1

/-! ### impl.backwards -/
def go_impl_backwards_C (k : Nat) : Ctx := { th := TH, se := SE, sg := [(63, go_slices_Clone_int_S k), (141, go_slices_Reverse_int_S k)], mu := [5], an := [], dr := [], pre := [], d2 := [], m := 0, fx := [], n := 9, k := k }
def go_impl_backwards (k : Nat) (a0 : (List Int)) : Option (List Int) :=
  (go_slices_Clone_int k a0).bind fun r1 =>
  (go_slices_Reverse_int k r1).bind fun r2 =>
  some r2.2.1
theorem go_impl_backwards_t (k : Nat) (a0 : (List Int)) : runPure (go_impl_backwards_C k) (bodyOf Go.Proofs.Try.f113) Go.Proofs.Try.f113.results.toList false (.pr (.val (.sl I)) .un) (.val (.sl I)) (a0, ()) = go_impl_backwards k a0 := by kernel_rfl
def go_impl_backwards_S (k : Nat) : Spec := ⟨(.pr (.val (.sl I)) .un), (.val (.sl I)), false, .inl fun x => go_impl_backwards k x.1⟩
theorem go_impl_backwards_F (k : Nat) : Fits Go.Proofs.Try.prog (go_impl_backwards_C k) 113 Go.Proofs.Try.f113 (bodyOf Go.Proofs.Try.f113) (.pr (.val (.sl I)) .un) (.val (.sl I)) false :=
  ⟨th0, mixed0, by kernel_rfl, Go.Proofs.Try.func113, rfl, by kernel_rfl, rfl, rfl, rfl, rfl, rfl, rfl⟩
theorem go_impl_backwards_M (k : Nat) : Meets Go.Proofs.Try.prog 113 (go_impl_backwards_S k) :=
  meets_pure (go_impl_backwards_F k) (sigs_all (l := [(63, go_slices_Clone_int_S k), (141, go_slices_Reverse_int_S k)]) rfl ⟨go_slices_Clone_int_M k, ⟨go_slices_Reverse_int_M k, trivial⟩⟩) rfl fun x => go_impl_backwards_t k x.1

/-! ### impl.tail -/
def go_impl_tail_C (k : Nat) : Ctx := { th := TH, se := SE, sg := [(63, go_slices_Clone_int_S k), (113, go_impl_backwards_S k)], mu := [8], an := [], dr := [(1, 7)], pre := [], d2 := [], m := 0, fx := [], n := 14, k := k }
def go_impl_tail (k : Nat) (a0 : (List Int)) (a1 : Int) : Option (List Int) :=
  if (decide (0 ≤ (0 : Int) ∧ (0 : Int) ≤ a1 ∧ a1 ≤ (a0.length : Int))) = true then
  (go_slices_Clone_int k ((a0.take a1.toNat).drop (0 : Int).toNat)).bind fun r1 =>
  if (decide (0 ≤ a1 ∧ a1 ≤ (a0.length : Int) ∧ (a0.length : Int) ≤ (a0.length : Int))) = true then
  (go_impl_backwards k ((a0.take (a0.length : Int).toNat).drop a1.toNat)).bind fun r2 =>
  if (decide (r1.length + r2.length ≤ LIM)) = true then
  some (r1 ++ r2)
  else none
  else none
  else none
theorem go_impl_tail_t (k : Nat) (a0 : (List Int)) (a1 : Int) : runPure (go_impl_tail_C k) (bodyOf Go.Proofs.Try.f68) Go.Proofs.Try.f68.results.toList false (.pr (.val (.sl I)) (.pr (.val I) .un)) (.val (.sl I)) (a0, a1, ()) = go_impl_tail k a0 a1 := by kernel_rfl
def go_impl_tail_S (k : Nat) : Spec := ⟨(.pr (.val (.sl I)) (.pr (.val I) .un)), (.val (.sl I)), false, .inl fun x => go_impl_tail k x.1 x.2.1⟩
theorem go_impl_tail_F (k : Nat) : Fits Go.Proofs.Try.prog (go_impl_tail_C k) 68 Go.Proofs.Try.f68 (bodyOf Go.Proofs.Try.f68) (.pr (.val (.sl I)) (.pr (.val I) .un)) (.val (.sl I)) false :=
  ⟨th0, mixed0, by kernel_rfl, Go.Proofs.Try.func68, rfl, by kernel_rfl, rfl, rfl, rfl, rfl, rfl, rfl⟩
theorem go_impl_tail_M (k : Nat) : Meets Go.Proofs.Try.prog 68 (go_impl_tail_S k) :=
  meets_pure (go_impl_tail_F k) (sigs_all (l := [(63, go_slices_Clone_int_S k), (113, go_impl_backwards_S k)]) rfl ⟨go_slices_Clone_int_M k, ⟨go_impl_backwards_M k, trivial⟩⟩) rfl fun x => go_impl_tail_t k x.1 x.2.1

/-! ### impl.CloseByTurns -/
def go_impl_CloseByTurns_C (k : Nat) : Ctx := { th := TH, se := SE, sg := [(55, go_impl_walkGraph_S k), (63, go_slices_Clone_int_S k), (61, go_impl_graph_closes_S k), (67, go_impl_graph_turns_S k), (68, go_impl_tail_S k)], mu := [40, 53], an := [(7, [(3, false), (10, false), (12, false), (13, false)]), (8, [(3, false), (10, false), (12, false), (13, false), (43, false), (44, false), (45, false)]), (17, [(3, false), (10, false), (13, false), (16, true), (58, false), (59, false), (60, false)]), (20, [(3, false), (10, false), (13, false), (16, true), (18, false), (58, false), (59, false), (60, false), (66, false), (67, false), (68, false)])], dr := [], pre := [], d2 := [], m := 0, fx := [], n := 81, k := k }
def go_impl_CloseByTurns_L0_E (a0 : (Int × (Int × ((List Int) × Unit)))) (a1 : (Int × (Int × Unit))) (a2 : (List Int)) (a3 : Int) (r1 : ((Option ((Int × (Int × ((List Int) × Unit))) × ((Int × (Int × Unit)) × ((List Int) × ((List (List Int)) × Unit))))) × (Bool × Unit))) (x110 : (Int × (List (List Int)))) : St :=
  ⟨[(3, .one (.val I a3), []), (10, .one (.val (.pt (.pair (.pair I (.pair I (.pair (.sl I) .unit))) (.pair (.pair I (.pair I .unit)) (.pair (.sl I) (.pair (.sl (.sl I)) .unit))))) r1.1), []), (12, .one (.own 0), []), (13, .one (.val I x110.1), [])], [.arr 22 (.sl I) x110.2], []⟩
def go_impl_CloseByTurns_L1_E (a0 : (Int × (Int × ((List Int) × Unit)))) (a1 : (Int × (Int × Unit))) (a2 : (List Int)) (a3 : Int) (r1 : ((Option ((Int × (Int × ((List Int) × Unit))) × ((Int × (Int × Unit)) × ((List Int) × ((List (List Int)) × Unit))))) × (Bool × Unit))) (x110 : (Int × (List (List Int)))) (x116 : (Int)) : St :=
  ⟨[(3, .one (.val I a3), []), (10, .one (.val (.pt (.pair (.pair I (.pair I (.pair (.sl I) .unit))) (.pair (.pair I (.pair I .unit)) (.pair (.sl I) (.pair (.sl (.sl I)) .unit))))) r1.1), []), (12, .one (.own 0), []), (13, .one (.val I x110.1), []), (43, .one (.own 0), []), (44, .one (.val I (x110.2.length : Int)), []), (45, .one (.val I x116), [])], [.arr 22 (.sl I) x110.2], []⟩
def go_impl_CloseByTurns_L2_E (a0 : (Int × (Int × ((List Int) × Unit)))) (a1 : (Int × (Int × Unit))) (a2 : (List Int)) (a3 : Int) (r1 : ((Option ((Int × (Int × ((List Int) × Unit))) × ((Int × (Int × Unit)) × ((List Int) × ((List (List Int)) × Unit))))) × (Bool × Unit))) (x110 : (Int × (List (List Int)))) (x144 : (Int × (List (List Int)))) : St :=
  ⟨[(3, .one (.val I a3), []), (10, .one (.val (.pt (.pair (.pair I (.pair I (.pair (.sl I) .unit))) (.pair (.pair I (.pair I .unit)) (.pair (.sl I) (.pair (.sl (.sl I)) .unit))))) r1.1), []), (13, .one (.val I x110.1), []), (16, .one (.own 0), []), (58, .one (.own 1), []), (59, .one (.val I (x110.2.length : Int)), []), (60, .one (.val I x144.1), [])], [.arr 22 (.sl I) x144.2, .arr 22 (.sl I) x110.2], []⟩
def go_impl_CloseByTurns_L3_E (a0 : (Int × (Int × ((List Int) × Unit)))) (a1 : (Int × (Int × Unit))) (a2 : (List Int)) (a3 : Int) (r1 : ((Option ((Int × (Int × ((List Int) × Unit))) × ((Int × (Int × Unit)) × ((List Int) × ((List (List Int)) × Unit))))) × (Bool × Unit))) (x110 : (Int × (List (List Int)))) (x144 : (Int × (List (List Int)))) (r146 : (List Int)) (x153 : (Int × (List (List Int)))) : St :=
  ⟨[(3, .one (.val I a3), []), (10, .one (.val (.pt (.pair (.pair I (.pair I (.pair (.sl I) .unit))) (.pair (.pair I (.pair I .unit)) (.pair (.sl I) (.pair (.sl (.sl I)) .unit))))) r1.1), []), (13, .one (.val I x110.1), []), (16, .one (.own 0), []), (18, .one (.val (.sl I) (x110.2.getD x144.1.toNat [])), []), (58, .one (.own 1), []), (59, .one (.val I (x110.2.length : Int)), []), (60, .one (.val I x144.1), []), (66, .one (.val (.sl I) r146), []), (67, .one (.val I (r146.length : Int)), []), (68, .one (.val I x153.1), [])], [.arr 22 (.sl I) x153.2, .arr 22 (.sl I) x110.2], []⟩
def go_impl_CloseByTurns_L3_G (k : Nat) (a0 : (Int × (Int × ((List Int) × Unit)))) (a1 : (Int × (Int × Unit))) (a2 : (List Int)) (a3 : Int) (r1 : ((Option ((Int × (Int × ((List Int) × Unit))) × ((Int × (Int × Unit)) × ((List Int) × ((List (List Int)) × Unit))))) × (Bool × Unit))) (x110 : (Int × (List (List Int)))) (x144 : (Int × (List (List Int)))) (r146 : (List Int)) (rec111 : (Int × (List (List Int))) → Option ((List Int) × (Bool × Unit))) (rec145 : (Int × (List (List Int))) → Option ((List Int) × (Bool × Unit))) (rec154 : (Int × (List (List Int))) → Option ((List Int) × (Bool × Unit))) (x153 : (Int × (List (List Int)))) : Option ((List Int) × (Bool × Unit)) :=
  if (decide (x153.1 < (r146.length : Int))) = true then
    if (inb x153.1 r146.length) = true then
    (go_impl_tail k (x110.2.getD x144.1.toNat []) (r146.getD x153.1.toNat (0 : Int))).bind fun r155 =>
    if (decide (x153.2.length + [r155].length ≤ LIM)) = true then
    rec154 ((IntKind.i64.wrap (x153.1 + (1 : Int))), (x153.2 ++ [r155]))
    else none
    else none
  else
    rec145 ((IntKind.i64.wrap (x144.1 + (1 : Int))), x153.2)
def go_impl_CloseByTurns_L3 (k : Nat) (a0 : (Int × (Int × ((List Int) × Unit)))) (a1 : (Int × (Int × Unit))) (a2 : (List Int)) (a3 : Int) (rec111 : (Int × (List (List Int))) → Option ((List Int) × (Bool × Unit))) (rec145 : (Int × (List (List Int))) → Option ((List Int) × (Bool × Unit))) (r1 : ((Option ((Int × (Int × ((List Int) × Unit))) × ((Int × (Int × Unit)) × ((List Int) × ((List (List Int)) × Unit))))) × (Bool × Unit))) (x110 : (Int × (List (List Int)))) (x144 : (Int × (List (List Int)))) (r146 : (List Int)) : (Int × (List (List Int))) → Option ((List Int) × (Bool × Unit)) :=
  iter k fun rec154 x153 => go_impl_CloseByTurns_L3_G k a0 a1 a2 a3 r1 x110 x144 r146 rec111 rec145 rec154 x153
theorem go_impl_CloseByTurns_L3_t (k : Nat) (a0 : (Int × (Int × ((List Int) × Unit)))) (a1 : (Int × (Int × Unit))) (a2 : (List Int)) (a3 : Int) (s0 : St → Option ((List Int) × (Bool × Unit))) (s1 : St → Option ((List Int) × (Bool × Unit))) (r1 : ((Option ((Int × (Int × ((List Int) × Unit))) × ((Int × (Int × Unit)) × ((List Int) × ((List (List Int)) × Unit))))) × (Bool × Unit))) (x110 : (Int × (List (List Int)))) (x144 : (Int × (List (List Int)))) (r146 : (List Int)) (x : (Int × (List (List Int)))) :
    iter k (loopAt (go_impl_CloseByTurns_C k) (bodyOf Go.Proofs.Try.f29) [1, 1, 1, 1, 1, 0, 0, 0, 0, 1, 1, 1, 0, 1, 0, 0, 1, 1, 0, 0, 1, 1, 0] [s0, s1] (finPure (go_impl_CloseByTurns_C k) Go.Proofs.Try.f29.results.toList true (.pr (.own 3 I) (.pr (.val .bool) .un)))) (go_impl_CloseByTurns_L3_E a0 a1 a2 a3 r1 x110 x144 r146 x) = go_impl_CloseByTurns_L3 k a0 a1 a2 a3 (fun y => s0 (go_impl_CloseByTurns_L0_E a0 a1 a2 a3 r1 y)) (fun y => s1 (go_impl_CloseByTurns_L2_E a0 a1 a2 a3 r1 x110 y)) r1 x110 x144 r146 x := by
  refine iter_tie (G := fun rec x => go_impl_CloseByTurns_L3_G k a0 a1 a2 a3 r1 x110 x144 r146 (fun y => s0 (go_impl_CloseByTurns_L0_E a0 a1 a2 a3 r1 y)) (fun y => s1 (go_impl_CloseByTurns_L2_E a0 a1 a2 a3 r1 x110 y)) rec x) (go_impl_CloseByTurns_L3_E a0 a1 a2 a3 r1 x110 x144 r146) (fun rec x => ?_) k x
  have h : loopAt (go_impl_CloseByTurns_C k) (bodyOf Go.Proofs.Try.f29) [1, 1, 1, 1, 1, 0, 0, 0, 0, 1, 1, 1, 0, 1, 0, 0, 1, 1, 0, 0, 1, 1, 0] [s0, s1] (finPure (go_impl_CloseByTurns_C k) Go.Proofs.Try.f29.results.toList true (.pr (.own 3 I) (.pr (.val .bool) .un))) rec (go_impl_CloseByTurns_L3_E a0 a1 a2 a3 r1 x110 x144 r146 x) = go_impl_CloseByTurns_L3_G k a0 a1 a2 a3 r1 x110 x144 r146 (fun y => s0 (go_impl_CloseByTurns_L0_E a0 a1 a2 a3 r1 y)) (fun y => s1 (go_impl_CloseByTurns_L2_E a0 a1 a2 a3 r1 x110 y)) (fun y => rec (go_impl_CloseByTurns_L3_E a0 a1 a2 a3 r1 x110 x144 r146 y)) x := by kernel_rfl
  rw [h]
def go_impl_CloseByTurns_L2_G (k : Nat) (a0 : (Int × (Int × ((List Int) × Unit)))) (a1 : (Int × (Int × Unit))) (a2 : (List Int)) (a3 : Int) (r1 : ((Option ((Int × (Int × ((List Int) × Unit))) × ((Int × (Int × Unit)) × ((List Int) × ((List (List Int)) × Unit))))) × (Bool × Unit))) (x110 : (Int × (List (List Int)))) (l_3 : (Int × (List (List Int))) → (List Int) → (Int × (List (List Int))) → Option ((List Int) × (Bool × Unit))) (rec111 : (Int × (List (List Int))) → Option ((List Int) × (Bool × Unit))) (rec145 : (Int × (List (List Int))) → Option ((List Int) × (Bool × Unit))) (x144 : (Int × (List (List Int)))) : Option ((List Int) × (Bool × Unit)) :=
  if (decide (x144.1 < (x110.2.length : Int))) = true then
    if (inb x144.1 x110.2.length) = true then
    (go_impl_graph_turns k r1.1 (x110.2.getD x144.1.toNat [])).bind fun r146 =>
    l_3 x144 r146 ((0 : Int), x144.2)
    else none
  else
    rec111 ((IntKind.i64.wrap (x110.1 + (1 : Int))), x144.2)
def go_impl_CloseByTurns_L2 (k : Nat) (a0 : (Int × (Int × ((List Int) × Unit)))) (a1 : (Int × (Int × Unit))) (a2 : (List Int)) (a3 : Int) (rec111 : (Int × (List (List Int))) → Option ((List Int) × (Bool × Unit))) (r1 : ((Option ((Int × (Int × ((List Int) × Unit))) × ((Int × (Int × Unit)) × ((List Int) × ((List (List Int)) × Unit))))) × (Bool × Unit))) (x110 : (Int × (List (List Int)))) : (Int × (List (List Int))) → Option ((List Int) × (Bool × Unit)) :=
  iter k fun rec145 x144 => go_impl_CloseByTurns_L2_G k a0 a1 a2 a3 r1 x110 (fun c0 c1 y => go_impl_CloseByTurns_L3 k a0 a1 a2 a3 rec111 rec145 r1 x110 c0 c1 y) rec111 rec145 x144
theorem go_impl_CloseByTurns_L2_t (k : Nat) (a0 : (Int × (Int × ((List Int) × Unit)))) (a1 : (Int × (Int × Unit))) (a2 : (List Int)) (a3 : Int) (s0 : St → Option ((List Int) × (Bool × Unit))) (r1 : ((Option ((Int × (Int × ((List Int) × Unit))) × ((Int × (Int × Unit)) × ((List Int) × ((List (List Int)) × Unit))))) × (Bool × Unit))) (x110 : (Int × (List (List Int)))) (x : (Int × (List (List Int)))) :
    iter k (loopAt (go_impl_CloseByTurns_C k) (bodyOf Go.Proofs.Try.f29) [1, 1, 1, 1, 1, 0, 0, 0, 0, 1, 1, 1, 0, 1, 0] [s0] (finPure (go_impl_CloseByTurns_C k) Go.Proofs.Try.f29.results.toList true (.pr (.own 3 I) (.pr (.val .bool) .un)))) (go_impl_CloseByTurns_L2_E a0 a1 a2 a3 r1 x110 x) = go_impl_CloseByTurns_L2 k a0 a1 a2 a3 (fun y => s0 (go_impl_CloseByTurns_L0_E a0 a1 a2 a3 r1 y)) r1 x110 x := by
  refine iter_tie (G := fun rec x => go_impl_CloseByTurns_L2_G k a0 a1 a2 a3 r1 x110 (fun c0 c1 y => go_impl_CloseByTurns_L3 k a0 a1 a2 a3 (fun y => s0 (go_impl_CloseByTurns_L0_E a0 a1 a2 a3 r1 y)) rec r1 x110 c0 c1 y) (fun y => s0 (go_impl_CloseByTurns_L0_E a0 a1 a2 a3 r1 y)) rec x) (go_impl_CloseByTurns_L2_E a0 a1 a2 a3 r1 x110) (fun rec x => ?_) k x
  have h : loopAt (go_impl_CloseByTurns_C k) (bodyOf Go.Proofs.Try.f29) [1, 1, 1, 1, 1, 0, 0, 0, 0, 1, 1, 1, 0, 1, 0] [s0] (finPure (go_impl_CloseByTurns_C k) Go.Proofs.Try.f29.results.toList true (.pr (.own 3 I) (.pr (.val .bool) .un))) rec (go_impl_CloseByTurns_L2_E a0 a1 a2 a3 r1 x110 x) = go_impl_CloseByTurns_L2_G k a0 a1 a2 a3 r1 x110 (fun c0 c1 y => iter k (loopAt (go_impl_CloseByTurns_C k) (bodyOf Go.Proofs.Try.f29) [1, 1, 1, 1, 1, 0, 0, 0, 0, 1, 1, 1, 0, 1, 0, 0, 1, 1, 0, 0, 1, 1, 0] [s0, rec] (finPure (go_impl_CloseByTurns_C k) Go.Proofs.Try.f29.results.toList true (.pr (.own 3 I) (.pr (.val .bool) .un)))) (go_impl_CloseByTurns_L3_E a0 a1 a2 a3 r1 x110 c0 c1 y)) (fun y => s0 (go_impl_CloseByTurns_L0_E a0 a1 a2 a3 r1 y)) (fun y => rec (go_impl_CloseByTurns_L2_E a0 a1 a2 a3 r1 x110 y)) x := by kernel_rfl
  have h0 : (fun c0 c1 y => iter k (loopAt (go_impl_CloseByTurns_C k) (bodyOf Go.Proofs.Try.f29) [1, 1, 1, 1, 1, 0, 0, 0, 0, 1, 1, 1, 0, 1, 0, 0, 1, 1, 0, 0, 1, 1, 0] [s0, rec] (finPure (go_impl_CloseByTurns_C k) Go.Proofs.Try.f29.results.toList true (.pr (.own 3 I) (.pr (.val .bool) .un)))) (go_impl_CloseByTurns_L3_E a0 a1 a2 a3 r1 x110 c0 c1 y)) = (fun c0 c1 y => go_impl_CloseByTurns_L3 k a0 a1 a2 a3 (fun y => s0 (go_impl_CloseByTurns_L0_E a0 a1 a2 a3 r1 y)) (fun y => rec (go_impl_CloseByTurns_L2_E a0 a1 a2 a3 r1 x110 y)) r1 x110 c0 c1 y) := by
    funext c0 c1 y
    exact go_impl_CloseByTurns_L3_t k a0 a1 a2 a3 s0 rec r1 x110 c0 c1 y
  rw [h, h0]
def go_impl_CloseByTurns_L1_G (k : Nat) (a0 : (Int × (Int × ((List Int) × Unit)))) (a1 : (Int × (Int × Unit))) (a2 : (List Int)) (a3 : Int) (r1 : ((Option ((Int × (Int × ((List Int) × Unit))) × ((Int × (Int × Unit)) × ((List Int) × ((List (List Int)) × Unit))))) × (Bool × Unit))) (x110 : (Int × (List (List Int)))) (l_2 : (Int × (List (List Int))) → (Int × (List (List Int))) → Option ((List Int) × (Bool × Unit))) (rec111 : (Int × (List (List Int))) → Option ((List Int) × (Bool × Unit))) (rec117 : (Int) → Option ((List Int) × (Bool × Unit))) (x116 : (Int)) : Option ((List Int) × (Bool × Unit)) :=
  if (decide (x116 < (x110.2.length : Int))) = true then
    if (inb x116 x110.2.length) = true then
    (go_impl_graph_closes k r1.1 (x110.2.getD x116.toNat [])).bind fun r118 =>
    if r118 = true then
      (go_slices_Clone_int k (x110.2.getD x116.toNat [])).bind fun r119 =>
      some (r119, (true, ()))
    else
      rec117 (IntKind.i64.wrap (x116 + (1 : Int)))
    else none
  else
    if (decide (x110.1 = a3)) = true then
      some ([], (false, ()))
    else
      l_2 x110 ((0 : Int), [])
def go_impl_CloseByTurns_L1 (k : Nat) (a0 : (Int × (Int × ((List Int) × Unit)))) (a1 : (Int × (Int × Unit))) (a2 : (List Int)) (a3 : Int) (rec111 : (Int × (List (List Int))) → Option ((List Int) × (Bool × Unit))) (r1 : ((Option ((Int × (Int × ((List Int) × Unit))) × ((Int × (Int × Unit)) × ((List Int) × ((List (List Int)) × Unit))))) × (Bool × Unit))) (x110 : (Int × (List (List Int)))) : (Int) → Option ((List Int) × (Bool × Unit)) :=
  iter k fun rec117 x116 => go_impl_CloseByTurns_L1_G k a0 a1 a2 a3 r1 x110 (fun c0 y => go_impl_CloseByTurns_L2 k a0 a1 a2 a3 rec111 r1 c0 y) rec111 rec117 x116
theorem go_impl_CloseByTurns_L1_t (k : Nat) (a0 : (Int × (Int × ((List Int) × Unit)))) (a1 : (Int × (Int × Unit))) (a2 : (List Int)) (a3 : Int) (s0 : St → Option ((List Int) × (Bool × Unit))) (r1 : ((Option ((Int × (Int × ((List Int) × Unit))) × ((Int × (Int × Unit)) × ((List Int) × ((List (List Int)) × Unit))))) × (Bool × Unit))) (x110 : (Int × (List (List Int)))) (x : (Int)) :
    iter k (loopAt (go_impl_CloseByTurns_C k) (bodyOf Go.Proofs.Try.f29) [1, 1, 1, 1, 1, 0, 0, 0, 0, 0, 1, 0] [s0] (finPure (go_impl_CloseByTurns_C k) Go.Proofs.Try.f29.results.toList true (.pr (.own 3 I) (.pr (.val .bool) .un)))) (go_impl_CloseByTurns_L1_E a0 a1 a2 a3 r1 x110 x) = go_impl_CloseByTurns_L1 k a0 a1 a2 a3 (fun y => s0 (go_impl_CloseByTurns_L0_E a0 a1 a2 a3 r1 y)) r1 x110 x := by
  refine iter_tie (G := fun rec x => go_impl_CloseByTurns_L1_G k a0 a1 a2 a3 r1 x110 (fun c0 y => go_impl_CloseByTurns_L2 k a0 a1 a2 a3 (fun y => s0 (go_impl_CloseByTurns_L0_E a0 a1 a2 a3 r1 y)) r1 c0 y) (fun y => s0 (go_impl_CloseByTurns_L0_E a0 a1 a2 a3 r1 y)) rec x) (go_impl_CloseByTurns_L1_E a0 a1 a2 a3 r1 x110) (fun rec x => ?_) k x
  have h : loopAt (go_impl_CloseByTurns_C k) (bodyOf Go.Proofs.Try.f29) [1, 1, 1, 1, 1, 0, 0, 0, 0, 0, 1, 0] [s0] (finPure (go_impl_CloseByTurns_C k) Go.Proofs.Try.f29.results.toList true (.pr (.own 3 I) (.pr (.val .bool) .un))) rec (go_impl_CloseByTurns_L1_E a0 a1 a2 a3 r1 x110 x) = go_impl_CloseByTurns_L1_G k a0 a1 a2 a3 r1 x110 (fun c0 y => iter k (loopAt (go_impl_CloseByTurns_C k) (bodyOf Go.Proofs.Try.f29) [1, 1, 1, 1, 1, 0, 0, 0, 0, 1, 1, 1, 0, 1, 0] [s0] (finPure (go_impl_CloseByTurns_C k) Go.Proofs.Try.f29.results.toList true (.pr (.own 3 I) (.pr (.val .bool) .un)))) (go_impl_CloseByTurns_L2_E a0 a1 a2 a3 r1 c0 y)) (fun y => s0 (go_impl_CloseByTurns_L0_E a0 a1 a2 a3 r1 y)) (fun y => rec (go_impl_CloseByTurns_L1_E a0 a1 a2 a3 r1 x110 y)) x := by kernel_rfl
  have h0 : (fun c0 y => iter k (loopAt (go_impl_CloseByTurns_C k) (bodyOf Go.Proofs.Try.f29) [1, 1, 1, 1, 1, 0, 0, 0, 0, 1, 1, 1, 0, 1, 0] [s0] (finPure (go_impl_CloseByTurns_C k) Go.Proofs.Try.f29.results.toList true (.pr (.own 3 I) (.pr (.val .bool) .un)))) (go_impl_CloseByTurns_L2_E a0 a1 a2 a3 r1 c0 y)) = (fun c0 y => go_impl_CloseByTurns_L2 k a0 a1 a2 a3 (fun y => s0 (go_impl_CloseByTurns_L0_E a0 a1 a2 a3 r1 y)) r1 c0 y) := by
    funext c0 y
    exact go_impl_CloseByTurns_L2_t k a0 a1 a2 a3 s0 r1 c0 y
  rw [h, h0]
def go_impl_CloseByTurns_L0_G (k : Nat) (a0 : (Int × (Int × ((List Int) × Unit)))) (a1 : (Int × (Int × Unit))) (a2 : (List Int)) (a3 : Int) (r1 : ((Option ((Int × (Int × ((List Int) × Unit))) × ((Int × (Int × Unit)) × ((List Int) × ((List (List Int)) × Unit))))) × (Bool × Unit))) (l_1 : (Int × (List (List Int))) → (Int) → Option ((List Int) × (Bool × Unit))) (rec111 : (Int × (List (List Int))) → Option ((List Int) × (Bool × Unit))) (x110 : (Int × (List (List Int)))) : Option ((List Int) × (Bool × Unit)) :=
  l_1 x110 (0 : Int)
def go_impl_CloseByTurns_L0 (k : Nat) (a0 : (Int × (Int × ((List Int) × Unit)))) (a1 : (Int × (Int × Unit))) (a2 : (List Int)) (a3 : Int) (r1 : ((Option ((Int × (Int × ((List Int) × Unit))) × ((Int × (Int × Unit)) × ((List Int) × ((List (List Int)) × Unit))))) × (Bool × Unit))) : (Int × (List (List Int))) → Option ((List Int) × (Bool × Unit)) :=
  iter k fun rec111 x110 => go_impl_CloseByTurns_L0_G k a0 a1 a2 a3 r1 (fun c0 y => go_impl_CloseByTurns_L1 k a0 a1 a2 a3 rec111 r1 c0 y) rec111 x110
theorem go_impl_CloseByTurns_L0_t (k : Nat) (a0 : (Int × (Int × ((List Int) × Unit)))) (a1 : (Int × (Int × Unit))) (a2 : (List Int)) (a3 : Int) (r1 : ((Option ((Int × (Int × ((List Int) × Unit))) × ((Int × (Int × Unit)) × ((List Int) × ((List (List Int)) × Unit))))) × (Bool × Unit))) (x : (Int × (List (List Int)))) :
    iter k (loopAt (go_impl_CloseByTurns_C k) (bodyOf Go.Proofs.Try.f29) [1, 1, 1, 1, 1, 0] [] (finPure (go_impl_CloseByTurns_C k) Go.Proofs.Try.f29.results.toList true (.pr (.own 3 I) (.pr (.val .bool) .un)))) (go_impl_CloseByTurns_L0_E a0 a1 a2 a3 r1 x) = go_impl_CloseByTurns_L0 k a0 a1 a2 a3 r1 x := by
  refine iter_tie (G := fun rec x => go_impl_CloseByTurns_L0_G k a0 a1 a2 a3 r1 (fun c0 y => go_impl_CloseByTurns_L1 k a0 a1 a2 a3 rec r1 c0 y) rec x) (go_impl_CloseByTurns_L0_E a0 a1 a2 a3 r1) (fun rec x => ?_) k x
  have h : loopAt (go_impl_CloseByTurns_C k) (bodyOf Go.Proofs.Try.f29) [1, 1, 1, 1, 1, 0] [] (finPure (go_impl_CloseByTurns_C k) Go.Proofs.Try.f29.results.toList true (.pr (.own 3 I) (.pr (.val .bool) .un))) rec (go_impl_CloseByTurns_L0_E a0 a1 a2 a3 r1 x) = go_impl_CloseByTurns_L0_G k a0 a1 a2 a3 r1 (fun c0 y => iter k (loopAt (go_impl_CloseByTurns_C k) (bodyOf Go.Proofs.Try.f29) [1, 1, 1, 1, 1, 0, 0, 0, 0, 0, 1, 0] [rec] (finPure (go_impl_CloseByTurns_C k) Go.Proofs.Try.f29.results.toList true (.pr (.own 3 I) (.pr (.val .bool) .un)))) (go_impl_CloseByTurns_L1_E a0 a1 a2 a3 r1 c0 y)) (fun y => rec (go_impl_CloseByTurns_L0_E a0 a1 a2 a3 r1 y)) x := by kernel_rfl
  have h0 : (fun c0 y => iter k (loopAt (go_impl_CloseByTurns_C k) (bodyOf Go.Proofs.Try.f29) [1, 1, 1, 1, 1, 0, 0, 0, 0, 0, 1, 0] [rec] (finPure (go_impl_CloseByTurns_C k) Go.Proofs.Try.f29.results.toList true (.pr (.own 3 I) (.pr (.val .bool) .un)))) (go_impl_CloseByTurns_L1_E a0 a1 a2 a3 r1 c0 y)) = (fun c0 y => go_impl_CloseByTurns_L1 k a0 a1 a2 a3 (fun y => rec (go_impl_CloseByTurns_L0_E a0 a1 a2 a3 r1 y)) r1 c0 y) := by
    funext c0 y
    exact go_impl_CloseByTurns_L1_t k a0 a1 a2 a3 rec r1 c0 y
  rw [h, h0]
def go_impl_CloseByTurns_T (k : Nat) (a0 : (Int × (Int × ((List Int) × Unit)))) (a1 : (Int × (Int × Unit))) (a2 : (List Int)) (a3 : Int) (l_0 : ((Option ((Int × (Int × ((List Int) × Unit))) × ((Int × (Int × Unit)) × ((List Int) × ((List (List Int)) × Unit))))) × (Bool × Unit)) → (Int × (List (List Int))) → Option ((List Int) × (Bool × Unit))) : Option ((List Int) × (Bool × Unit)) :=
  (go_impl_walkGraph k a0 a1 a2).bind fun r1 =>
  if (((!r1.2.1) || (decide (a3 < (0 : Int)))) || (decide ((3 : Int) < a3))) = true then
    some ([], (false, ()))
  else
    (go_slices_Clone_int k a2).bind fun r2 =>
    l_0 r1 ((0 : Int), [r2])
def go_impl_CloseByTurns (k : Nat) (a0 : (Int × (Int × ((List Int) × Unit)))) (a1 : (Int × (Int × Unit))) (a2 : (List Int)) (a3 : Int) : Option ((List Int) × (Bool × Unit)) :=
  go_impl_CloseByTurns_T k a0 a1 a2 a3 (fun r1 y => go_impl_CloseByTurns_L0 k a0 a1 a2 a3 r1 y)
theorem go_impl_CloseByTurns_t (k : Nat) (a0 : (Int × (Int × ((List Int) × Unit)))) (a1 : (Int × (Int × Unit))) (a2 : (List Int)) (a3 : Int) : runPure (go_impl_CloseByTurns_C k) (bodyOf Go.Proofs.Try.f29) Go.Proofs.Try.f29.results.toList true (.pr (.val (.pair I (.pair I (.pair (.sl I) .unit)))) (.pr (.val (.pair I (.pair I .unit))) (.pr (.val (.sl I)) (.pr (.val I) .un)))) (.pr (.own 3 I) (.pr (.val .bool) .un)) (a0, a1, a2, a3, ()) = go_impl_CloseByTurns k a0 a1 a2 a3 := by
  have h : runPure (go_impl_CloseByTurns_C k) (bodyOf Go.Proofs.Try.f29) Go.Proofs.Try.f29.results.toList true (.pr (.val (.pair I (.pair I (.pair (.sl I) .unit)))) (.pr (.val (.pair I (.pair I .unit))) (.pr (.val (.sl I)) (.pr (.val I) .un)))) (.pr (.own 3 I) (.pr (.val .bool) .un)) (a0, a1, a2, a3, ()) = go_impl_CloseByTurns_T k a0 a1 a2 a3 (fun r1 y => iter k (loopAt (go_impl_CloseByTurns_C k) (bodyOf Go.Proofs.Try.f29) [1, 1, 1, 1, 1, 0] [] (finPure (go_impl_CloseByTurns_C k) Go.Proofs.Try.f29.results.toList true (.pr (.own 3 I) (.pr (.val .bool) .un)))) (go_impl_CloseByTurns_L0_E a0 a1 a2 a3 r1 y)) := by kernel_rfl
  have h0 : (fun r1 y => iter k (loopAt (go_impl_CloseByTurns_C k) (bodyOf Go.Proofs.Try.f29) [1, 1, 1, 1, 1, 0] [] (finPure (go_impl_CloseByTurns_C k) Go.Proofs.Try.f29.results.toList true (.pr (.own 3 I) (.pr (.val .bool) .un)))) (go_impl_CloseByTurns_L0_E a0 a1 a2 a3 r1 y)) = (fun r1 y => go_impl_CloseByTurns_L0 k a0 a1 a2 a3 r1 y) := by
    funext r1 y
    exact go_impl_CloseByTurns_L0_t k a0 a1 a2 a3 r1 y
  rw [h, h0]
  rfl
def go_impl_CloseByTurns_S (k : Nat) : Spec := ⟨(.pr (.val (.pair I (.pair I (.pair (.sl I) .unit)))) (.pr (.val (.pair I (.pair I .unit))) (.pr (.val (.sl I)) (.pr (.val I) .un)))), (.pr (.own 3 I) (.pr (.val .bool) .un)), true, .inl fun x => go_impl_CloseByTurns k x.1 x.2.1 x.2.2.1 x.2.2.2.1⟩
theorem go_impl_CloseByTurns_F (k : Nat) : Fits Go.Proofs.Try.prog (go_impl_CloseByTurns_C k) 29 Go.Proofs.Try.f29 (bodyOf Go.Proofs.Try.f29) (.pr (.val (.pair I (.pair I (.pair (.sl I) .unit)))) (.pr (.val (.pair I (.pair I .unit))) (.pr (.val (.sl I)) (.pr (.val I) .un)))) (.pr (.own 3 I) (.pr (.val .bool) .un)) true :=
  ⟨th0, mixed0, by kernel_rfl, Go.Proofs.Try.func29, rfl, by kernel_rfl, rfl, rfl, rfl, rfl, rfl, rfl⟩
theorem go_impl_CloseByTurns_M (k : Nat) : Meets Go.Proofs.Try.prog 29 (go_impl_CloseByTurns_S k) :=
  meets_pure (go_impl_CloseByTurns_F k) (sigs_all (l := [(55, go_impl_walkGraph_S k), (63, go_slices_Clone_int_S k), (61, go_impl_graph_closes_S k), (67, go_impl_graph_turns_S k), (68, go_impl_tail_S k)]) rfl ⟨go_impl_walkGraph_M k, ⟨go_slices_Clone_int_M k, ⟨go_impl_graph_closes_M k, ⟨go_impl_graph_turns_M k, ⟨go_impl_tail_M k, trivial⟩⟩⟩⟩⟩) rfl fun x => go_impl_CloseByTurns_t k x.1 x.2.1 x.2.2.1 x.2.2.2.1

/-! ### laws.FnExactCloseByTurns -/
def go_laws_FnExactCloseByTurns_C (k : Nat) : Ctx := { th := TH, se := SE, sg := [(15, go_laws_szBoard_S k), (17, go_laws_toBoard_S k), (18, go_laws_toLeaper_S k), (19, go_laws_toIntS_S k), (28, go_spec_CloseByTurns_S k), (29, go_impl_CloseByTurns_S k), (22, go_laws_eqIntS_S k), (21, go_laws_eqBoard_S k), (25, go_laws_markBoard_S k), (26, go_laws_markIntS_S k), (27, go_laws_heldIntS_S k)], mu := [41, 43, 50], an := [], dr := [(7, 12), (10, 5), (13, 3), (30, 12)], pre := [], d2 := [10], m := 0, fx := [], n := 130, k := k }
def go_laws_FnExactCloseByTurns (k : Nat) (a0 : (Int × (Int × ((List Int) × Unit)))) (a1 : (Int × (Int × Unit))) (a2 : (List Int)) (a3 : Int) : Option Bool :=
  if (decide ((1048576 : Int) < (a2.length : Int))) = true then
    some true
  else
    (go_laws_szBoard k a0 (1048576 : Int)).bind fun r1 =>
    if (decide (r1 < (0 : Int))) = true then
      some true
    else
      (go_laws_toBoard k a0).bind fun r2 =>
      (go_laws_toLeaper k a1).bind fun r3 =>
      (go_laws_toIntS k a2).bind fun r4 =>
      (go_spec_CloseByTurns k (r2.1, (r2.2.1, (r2.2.2.1, ()))) r3 r4 a3).bind fun r5 =>
      (go_laws_toBoard k a0).bind fun r6 =>
      (go_laws_toIntS k a2).bind fun r7 =>
      (go_laws_toLeaper k a1).bind fun r8 =>
      (go_impl_CloseByTurns k (r6.1, (r6.2.1, (r6.2.2.1, ()))) r8 r7 a3).bind fun r9 =>
      (go_laws_eqIntS k r9.1 r5.1).bind fun r10 =>
      if ((!r10) || (r9.2.1 != r5.2.1)) = true then
        some false
      else
        (go_laws_toBoard k a0).bind fun r11 =>
        (go_laws_eqBoard k (r6.1, (r6.2.1, (r6.2.2.1, ()))) (r11.1, (r11.2.1, (r11.2.2.1, ())))).bind fun r12 =>
        if (!r12) = true then
          some false
        else
          (go_laws_toIntS k a2).bind fun r13 =>
          (go_laws_eqIntS k r7 r13).bind fun r14 =>
          if (!r14) = true then
            some false
          else
            (go_laws_markBoard k (r6.1, (r6.2.1, (r6.2.2.1, ()))) (1 : Int)).bind fun r15 =>
            (go_laws_markIntS k r7 r15.1).bind fun r16 =>
            (if (!(decide (r16.1 < (0 : Int)))) = true then go_laws_eqIntS k r9.1 r5.1 else some false).bind fun r17 =>
            if (((decide (r16.1 < (0 : Int))) || (!r17)) || (r9.2.1 != r5.2.1)) = true then
              some false
            else
              (go_laws_markIntS k r9.1 (1 : Int)).bind fun r18 =>
              (go_laws_heldIntS k r18.2.1 (1 : Int)).bind fun r19 =>
              if (decide (r19 < (0 : Int))) = true then
                some false
              else
                if (!decide (r19 = r18.1)) = true then
                  some false
                else
                  (go_laws_toBoard k a0).bind fun r20 =>
                  (go_laws_toLeaper k a1).bind fun r21 =>
                  (go_laws_toIntS k a2).bind fun r22 =>
                  (go_impl_CloseByTurns k (r20.1, (r20.2.1, (r20.2.2.1, ()))) r21 r22 a3).bind fun r23 =>
                  (go_laws_eqIntS k r23.1 r5.1).bind fun r24 =>
                  if ((!r24) || (r23.2.1 != r5.2.1)) = true then
                    some false
                  else
                    (go_laws_heldIntS k r18.2.1 (1 : Int)).bind fun r25 =>
                    if (decide (r25 < (0 : Int))) = true then
                      some false
                    else
                      if (!decide (r25 = r18.1)) = true then
                        some false
                      else
                        some true
theorem go_laws_FnExactCloseByTurns_t (k : Nat) (a0 : (Int × (Int × ((List Int) × Unit)))) (a1 : (Int × (Int × Unit))) (a2 : (List Int)) (a3 : Int) : runPure (go_laws_FnExactCloseByTurns_C k) (bodyOf Go.Proofs.Try.f5) Go.Proofs.Try.f5.results.toList false (.pr (.val (.pair I (.pair I (.pair (.sl I) .unit)))) (.pr (.val (.pair I (.pair I .unit))) (.pr (.val (.sl I)) (.pr (.val I) .un)))) (.val .bool) (a0, a1, a2, a3, ()) = go_laws_FnExactCloseByTurns k a0 a1 a2 a3 := by kernel_rfl
def go_laws_FnExactCloseByTurns_S (k : Nat) : Spec := ⟨(.pr (.val (.pair I (.pair I (.pair (.sl I) .unit)))) (.pr (.val (.pair I (.pair I .unit))) (.pr (.val (.sl I)) (.pr (.val I) .un)))), (.val .bool), false, .inl fun x => go_laws_FnExactCloseByTurns k x.1 x.2.1 x.2.2.1 x.2.2.2.1⟩
theorem go_laws_FnExactCloseByTurns_F (k : Nat) : Fits Go.Proofs.Try.prog (go_laws_FnExactCloseByTurns_C k) 5 Go.Proofs.Try.f5 (bodyOf Go.Proofs.Try.f5) (.pr (.val (.pair I (.pair I (.pair (.sl I) .unit)))) (.pr (.val (.pair I (.pair I .unit))) (.pr (.val (.sl I)) (.pr (.val I) .un)))) (.val .bool) false :=
  ⟨th0, mixed0, by kernel_rfl, Go.Proofs.Try.func5, rfl, by kernel_rfl, rfl, rfl, rfl, rfl, rfl, rfl⟩
theorem go_laws_FnExactCloseByTurns_M (k : Nat) : Meets Go.Proofs.Try.prog 5 (go_laws_FnExactCloseByTurns_S k) :=
  meets_pure (go_laws_FnExactCloseByTurns_F k) (sigs_all (l := [(15, go_laws_szBoard_S k), (17, go_laws_toBoard_S k), (18, go_laws_toLeaper_S k), (19, go_laws_toIntS_S k), (28, go_spec_CloseByTurns_S k), (29, go_impl_CloseByTurns_S k), (22, go_laws_eqIntS_S k), (21, go_laws_eqBoard_S k), (25, go_laws_markBoard_S k), (26, go_laws_markIntS_S k), (27, go_laws_heldIntS_S k)]) rfl ⟨go_laws_szBoard_M k, ⟨go_laws_toBoard_M k, ⟨go_laws_toLeaper_M k, ⟨go_laws_toIntS_M k, ⟨go_spec_CloseByTurns_M k, ⟨go_impl_CloseByTurns_M k, ⟨go_laws_eqIntS_M k, ⟨go_laws_eqBoard_M k, ⟨go_laws_markBoard_M k, ⟨go_laws_markIntS_M k, ⟨go_laws_heldIntS_M k, trivial⟩⟩⟩⟩⟩⟩⟩⟩⟩⟩⟩) rfl fun x => go_laws_FnExactCloseByTurns_t k x.1 x.2.1 x.2.2.1 x.2.2.2.1

end
end Go.Lg
