/-
  Printed by program: what the functions of the code compute (go_laws_FnExactFirstFar).
-/
import Derived.Test.YtjnpogjniihmcaaGenA
set_option linter.unusedVariables false
namespace Go.Lg
open Go.RowKit
/-! ### spec.paSmall -/
def go_spec_paSmall_C (k : Nat) : Ctx := { th := TH, se := SE, sg := [(52, go_spec_boTwo_S k), (54, go_spec_boCells_S k)], mu := [], an := [], dr := [], pre := [], d2 := [], m := 0, fx := [], n := 14, k := k }
def go_spec_paSmall (k : Nat) (a0 : (Int × (Int × ((List Int) × Unit)))) (a1 : (Int × (Int × Unit))) : Option Bool :=
  (go_spec_boTwo k a0 a1).bind fun r1 =>
  (if r1 = true then go_spec_boCells k a0 else some []).bind fun r2 =>
  some (r1 && (decide ((r2.length : Int) ≤ (16 : Int))))
theorem go_spec_paSmall_t (k : Nat) (a0 : (Int × (Int × ((List Int) × Unit)))) (a1 : (Int × (Int × Unit))) : runPure (go_spec_paSmall_C k) (bodyOf Go.Proofs.Try.f48) Go.Proofs.Try.f48.results.toList false (.pr (.val (.pair I (.pair I (.pair (.sl I) .unit)))) (.pr (.val (.pair I (.pair I .unit))) .un)) (.val .bool) (a0, a1, ()) = go_spec_paSmall k a0 a1 := by kernel_rfl
def go_spec_paSmall_S (k : Nat) : Spec := ⟨(.pr (.val (.pair I (.pair I (.pair (.sl I) .unit)))) (.pr (.val (.pair I (.pair I .unit))) .un)), (.val .bool), false, .inl fun x => go_spec_paSmall k x.1 x.2.1⟩
theorem go_spec_paSmall_F (k : Nat) : Fits Go.Proofs.Try.prog (go_spec_paSmall_C k) 48 Go.Proofs.Try.f48 (bodyOf Go.Proofs.Try.f48) (.pr (.val (.pair I (.pair I (.pair (.sl I) .unit)))) (.pr (.val (.pair I (.pair I .unit))) .un)) (.val .bool) false :=
  ⟨th0, mixed0, by kernel_rfl, Go.Proofs.Try.func48, rfl, by kernel_rfl, rfl, rfl, rfl, rfl, rfl, rfl⟩
theorem go_spec_paSmall_M (k : Nat) : Meets Go.Proofs.Try.prog 48 (go_spec_paSmall_S k) :=
  meets_pure (go_spec_paSmall_F k) (sigs_all (l := [(52, go_spec_boTwo_S k), (54, go_spec_boCells_S k)]) rfl ⟨go_spec_boTwo_M k, ⟨go_spec_boCells_M k, trivial⟩⟩) rfl fun x => go_spec_paSmall_t k x.1 x.2.1

/-! ### spec.paNear -/
def go_spec_paNear_C (k : Nat) : Ctx := { th := TH, se := SE, sg := [(82, go_spec_boLeaps_S k), (70, go_spec_l1Has_S k)], mu := [], an := [(3, [(2, false), (3, false), (4, false), (7, true), (15, false), (16, false), (17, false)]), (8, [(2, false), (3, false), (4, false), (7, false), (15, false), (16, false), (17, false), (32, false), (33, false), (34, false)])], dr := [], pre := [], d2 := [], m := 0, fx := [], n := 54, k := k }
def go_spec_paNear_L0_E (a0 : (Int × (Int × ((List Int) × Unit)))) (a1 : (Int × (Int × Unit))) (a2 : Int) (r1 : (List Int)) (x41 : (Int × (List Int))) : St :=
  ⟨[(2, .one (.val I a2), []), (3, .one (.val (.pt (.pair I (.pair I (.pair (.sl I) .unit)))) (some a0)), []), (4, .one (.val (.pt (.pair I (.pair I .unit))) (some a1)), []), (7, .one (.own 0), []), (15, .one (.val (.sl I) r1), []), (16, .one (.val I (r1.length : Int)), []), (17, .one (.val I x41.1), [])], [.arr 3 I x41.2], []⟩
def go_spec_paNear_L1_E (a0 : (Int × (Int × ((List Int) × Unit)))) (a1 : (Int × (Int × Unit))) (a2 : Int) (r1 : (List Int)) (x41 : (Int × (List Int))) (r44 : (List Int)) (x51 : (Int × (List Int))) : St :=
  ⟨[(2, .one (.val I a2), []), (3, .one (.val (.pt (.pair I (.pair I (.pair (.sl I) .unit)))) (some a0)), []), (4, .one (.val (.pt (.pair I (.pair I .unit))) (some a1)), []), (7, .one (.own 0), []), (15, .one (.val (.sl I) r1), []), (16, .one (.val I (r1.length : Int)), []), (17, .one (.val I x41.1), []), (32, .one (.val (.sl I) r44), []), (33, .one (.val I (r44.length : Int)), []), (34, .one (.val I x51.1), [])], [.arr 3 I x51.2], []⟩
def go_spec_paNear_L2_E (a0 : (Int × (Int × ((List Int) × Unit)))) (a1 : (Int × (Int × Unit))) (a2 : Int) (r1 : (List Int)) (x41 : (Int × (List Int))) (r54 : (List Int)) (x61 : (Int × (List Int))) : St :=
  ⟨[(2, .one (.val I a2), []), (3, .one (.val (.pt (.pair I (.pair I (.pair (.sl I) .unit)))) (some a0)), []), (4, .one (.val (.pt (.pair I (.pair I .unit))) (some a1)), []), (7, .one (.own 0), []), (15, .one (.val (.sl I) r1), []), (16, .one (.val I (r1.length : Int)), []), (17, .one (.val I x41.1), []), (32, .one (.val (.sl I) r54), []), (33, .one (.val I (r54.length : Int)), []), (34, .one (.val I x61.1), [])], [.arr 3 I x61.2], []⟩
def go_spec_paNear_L2_G (k : Nat) (a0 : (Int × (Int × ((List Int) × Unit)))) (a1 : (Int × (Int × Unit))) (a2 : Int) (r1 : (List Int)) (x41 : (Int × (List Int))) (r54 : (List Int)) (rec42 : (Int × (List Int)) → Option (List Int)) (rec62 : (Int × (List Int)) → Option (List Int)) (x61 : (Int × (List Int))) : Option (List Int) :=
  if (decide (x61.1 < (r54.length : Int))) = true then
    if (inb x61.1 r54.length) = true then
    (if (!decide ((r54.getD x61.1.toNat (0 : Int)) = a2)) = true then go_spec_l1Has k x61.2 (r54.getD x61.1.toNat (0 : Int)) else some false).bind fun r63 =>
    if ((!decide ((r54.getD x61.1.toNat (0 : Int)) = a2)) && (!r63)) = true then
      if (decide (x61.2.length + [(r54.getD x61.1.toNat (0 : Int))].length ≤ LIM)) = true then
      rec62 ((IntKind.i64.wrap (x61.1 + (1 : Int))), (x61.2 ++ [(r54.getD x61.1.toNat (0 : Int))]))
      else none
    else
      rec62 ((IntKind.i64.wrap (x61.1 + (1 : Int))), x61.2)
    else none
  else
    rec42 ((IntKind.i64.wrap (x41.1 + (1 : Int))), x61.2)
def go_spec_paNear_L2 (k : Nat) (a0 : (Int × (Int × ((List Int) × Unit)))) (a1 : (Int × (Int × Unit))) (a2 : Int) (rec42 : (Int × (List Int)) → Option (List Int)) (r1 : (List Int)) (x41 : (Int × (List Int))) (r54 : (List Int)) : (Int × (List Int)) → Option (List Int) :=
  iter k fun rec62 x61 => go_spec_paNear_L2_G k a0 a1 a2 r1 x41 r54 rec42 rec62 x61
theorem go_spec_paNear_L2_t (k : Nat) (a0 : (Int × (Int × ((List Int) × Unit)))) (a1 : (Int × (Int × Unit))) (a2 : Int) (s0 : St → Option (List Int)) (r1 : (List Int)) (x41 : (Int × (List Int))) (r54 : (List Int)) (x : (Int × (List Int))) :
    iter k (loopAt (go_spec_paNear_C k) (bodyOf Go.Proofs.Try.f96) [1, 1, 0, 1, 0, 0, 1, 1, 0, 0, 1, 1, 1, 0] [s0] (finPure (go_spec_paNear_C k) Go.Proofs.Try.f96.results.toList false (.val (.sl I)))) (go_spec_paNear_L2_E a0 a1 a2 r1 x41 r54 x) = go_spec_paNear_L2 k a0 a1 a2 (fun y => s0 (go_spec_paNear_L0_E a0 a1 a2 r1 y)) r1 x41 r54 x := by
  refine iter_tie (G := fun rec x => go_spec_paNear_L2_G k a0 a1 a2 r1 x41 r54 (fun y => s0 (go_spec_paNear_L0_E a0 a1 a2 r1 y)) rec x) (go_spec_paNear_L2_E a0 a1 a2 r1 x41 r54) (fun rec x => ?_) k x
  have h : loopAt (go_spec_paNear_C k) (bodyOf Go.Proofs.Try.f96) [1, 1, 0, 1, 0, 0, 1, 1, 0, 0, 1, 1, 1, 0] [s0] (finPure (go_spec_paNear_C k) Go.Proofs.Try.f96.results.toList false (.val (.sl I))) rec (go_spec_paNear_L2_E a0 a1 a2 r1 x41 r54 x) = go_spec_paNear_L2_G k a0 a1 a2 r1 x41 r54 (fun y => s0 (go_spec_paNear_L0_E a0 a1 a2 r1 y)) (fun y => rec (go_spec_paNear_L2_E a0 a1 a2 r1 x41 r54 y)) x := by kernel_rfl
  rw [h]
def go_spec_paNear_L1_G (k : Nat) (a0 : (Int × (Int × ((List Int) × Unit)))) (a1 : (Int × (Int × Unit))) (a2 : Int) (r1 : (List Int)) (x41 : (Int × (List Int))) (r44 : (List Int)) (rec42 : (Int × (List Int)) → Option (List Int)) (rec52 : (Int × (List Int)) → Option (List Int)) (x51 : (Int × (List Int))) : Option (List Int) :=
  if (decide (x51.1 < (r44.length : Int))) = true then
    if (inb x51.1 r44.length) = true then
    (if (!decide ((r44.getD x51.1.toNat (0 : Int)) = a2)) = true then go_spec_l1Has k x51.2 (r44.getD x51.1.toNat (0 : Int)) else some false).bind fun r53 =>
    if ((!decide ((r44.getD x51.1.toNat (0 : Int)) = a2)) && (!r53)) = true then
      if (decide (x51.2.length + [(r44.getD x51.1.toNat (0 : Int))].length ≤ LIM)) = true then
      rec52 ((IntKind.i64.wrap (x51.1 + (1 : Int))), (x51.2 ++ [(r44.getD x51.1.toNat (0 : Int))]))
      else none
    else
      rec52 ((IntKind.i64.wrap (x51.1 + (1 : Int))), x51.2)
    else none
  else
    rec42 ((IntKind.i64.wrap (x41.1 + (1 : Int))), x51.2)
def go_spec_paNear_L1 (k : Nat) (a0 : (Int × (Int × ((List Int) × Unit)))) (a1 : (Int × (Int × Unit))) (a2 : Int) (rec42 : (Int × (List Int)) → Option (List Int)) (r1 : (List Int)) (x41 : (Int × (List Int))) (r44 : (List Int)) : (Int × (List Int)) → Option (List Int) :=
  iter k fun rec52 x51 => go_spec_paNear_L1_G k a0 a1 a2 r1 x41 r44 rec42 rec52 x51
theorem go_spec_paNear_L1_t (k : Nat) (a0 : (Int × (Int × ((List Int) × Unit)))) (a1 : (Int × (Int × Unit))) (a2 : Int) (s0 : St → Option (List Int)) (r1 : (List Int)) (x41 : (Int × (List Int))) (r44 : (List Int)) (x : (Int × (List Int))) :
    iter k (loopAt (go_spec_paNear_C k) (bodyOf Go.Proofs.Try.f96) [1, 1, 0, 1, 0, 0, 1, 1, 0, 0, 1, 1, 1, 0] [s0] (finPure (go_spec_paNear_C k) Go.Proofs.Try.f96.results.toList false (.val (.sl I)))) (go_spec_paNear_L1_E a0 a1 a2 r1 x41 r44 x) = go_spec_paNear_L1 k a0 a1 a2 (fun y => s0 (go_spec_paNear_L0_E a0 a1 a2 r1 y)) r1 x41 r44 x := by
  refine iter_tie (G := fun rec x => go_spec_paNear_L1_G k a0 a1 a2 r1 x41 r44 (fun y => s0 (go_spec_paNear_L0_E a0 a1 a2 r1 y)) rec x) (go_spec_paNear_L1_E a0 a1 a2 r1 x41 r44) (fun rec x => ?_) k x
  have h : loopAt (go_spec_paNear_C k) (bodyOf Go.Proofs.Try.f96) [1, 1, 0, 1, 0, 0, 1, 1, 0, 0, 1, 1, 1, 0] [s0] (finPure (go_spec_paNear_C k) Go.Proofs.Try.f96.results.toList false (.val (.sl I))) rec (go_spec_paNear_L1_E a0 a1 a2 r1 x41 r44 x) = go_spec_paNear_L1_G k a0 a1 a2 r1 x41 r44 (fun y => s0 (go_spec_paNear_L0_E a0 a1 a2 r1 y)) (fun y => rec (go_spec_paNear_L1_E a0 a1 a2 r1 x41 r44 y)) x := by kernel_rfl
  rw [h]
def go_spec_paNear_L0_G (k : Nat) (a0 : (Int × (Int × ((List Int) × Unit)))) (a1 : (Int × (Int × Unit))) (a2 : Int) (r1 : (List Int)) (l_1 : (Int × (List Int)) → (List Int) → (Int × (List Int)) → Option (List Int)) (l_2 : (Int × (List Int)) → (List Int) → (Int × (List Int)) → Option (List Int)) (rec42 : (Int × (List Int)) → Option (List Int)) (x41 : (Int × (List Int))) : Option (List Int) :=
  if (decide (x41.1 < (r1.length : Int))) = true then
    if (inb x41.1 r1.length) = true then
    (go_spec_l1Has k x41.2 (r1.getD x41.1.toNat (0 : Int))).bind fun r43 =>
    if (!r43) = true then
      if (decide (x41.2.length + [(r1.getD x41.1.toNat (0 : Int))].length ≤ LIM)) = true then
      (go_spec_boLeaps k a0 a1 (r1.getD x41.1.toNat (0 : Int))).bind fun r44 =>
      l_1 x41 r44 ((0 : Int), (x41.2 ++ [(r1.getD x41.1.toNat (0 : Int))]))
      else none
    else
      (go_spec_boLeaps k a0 a1 (r1.getD x41.1.toNat (0 : Int))).bind fun r54 =>
      l_2 x41 r54 ((0 : Int), x41.2)
    else none
  else
    some x41.2
def go_spec_paNear_L0 (k : Nat) (a0 : (Int × (Int × ((List Int) × Unit)))) (a1 : (Int × (Int × Unit))) (a2 : Int) (r1 : (List Int)) : (Int × (List Int)) → Option (List Int) :=
  iter k fun rec42 x41 => go_spec_paNear_L0_G k a0 a1 a2 r1 (fun c0 c1 y => go_spec_paNear_L1 k a0 a1 a2 rec42 r1 c0 c1 y) (fun c0 c1 y => go_spec_paNear_L2 k a0 a1 a2 rec42 r1 c0 c1 y) rec42 x41
theorem go_spec_paNear_L0_t (k : Nat) (a0 : (Int × (Int × ((List Int) × Unit)))) (a1 : (Int × (Int × Unit))) (a2 : Int) (r1 : (List Int)) (x : (Int × (List Int))) :
    iter k (loopAt (go_spec_paNear_C k) (bodyOf Go.Proofs.Try.f96) [1, 1, 0, 1, 0] [] (finPure (go_spec_paNear_C k) Go.Proofs.Try.f96.results.toList false (.val (.sl I)))) (go_spec_paNear_L0_E a0 a1 a2 r1 x) = go_spec_paNear_L0 k a0 a1 a2 r1 x := by
  refine iter_tie (G := fun rec x => go_spec_paNear_L0_G k a0 a1 a2 r1 (fun c0 c1 y => go_spec_paNear_L1 k a0 a1 a2 rec r1 c0 c1 y) (fun c0 c1 y => go_spec_paNear_L2 k a0 a1 a2 rec r1 c0 c1 y) rec x) (go_spec_paNear_L0_E a0 a1 a2 r1) (fun rec x => ?_) k x
  have h : loopAt (go_spec_paNear_C k) (bodyOf Go.Proofs.Try.f96) [1, 1, 0, 1, 0] [] (finPure (go_spec_paNear_C k) Go.Proofs.Try.f96.results.toList false (.val (.sl I))) rec (go_spec_paNear_L0_E a0 a1 a2 r1 x) = go_spec_paNear_L0_G k a0 a1 a2 r1 (fun c0 c1 y => iter k (loopAt (go_spec_paNear_C k) (bodyOf Go.Proofs.Try.f96) [1, 1, 0, 1, 0, 0, 1, 1, 0, 0, 1, 1, 1, 0] [rec] (finPure (go_spec_paNear_C k) Go.Proofs.Try.f96.results.toList false (.val (.sl I)))) (go_spec_paNear_L1_E a0 a1 a2 r1 c0 c1 y)) (fun c0 c1 y => iter k (loopAt (go_spec_paNear_C k) (bodyOf Go.Proofs.Try.f96) [1, 1, 0, 1, 0, 0, 1, 1, 0, 0, 1, 1, 1, 0] [rec] (finPure (go_spec_paNear_C k) Go.Proofs.Try.f96.results.toList false (.val (.sl I)))) (go_spec_paNear_L2_E a0 a1 a2 r1 c0 c1 y)) (fun y => rec (go_spec_paNear_L0_E a0 a1 a2 r1 y)) x := by kernel_rfl
  have h0 : (fun c0 c1 y => iter k (loopAt (go_spec_paNear_C k) (bodyOf Go.Proofs.Try.f96) [1, 1, 0, 1, 0, 0, 1, 1, 0, 0, 1, 1, 1, 0] [rec] (finPure (go_spec_paNear_C k) Go.Proofs.Try.f96.results.toList false (.val (.sl I)))) (go_spec_paNear_L1_E a0 a1 a2 r1 c0 c1 y)) = (fun c0 c1 y => go_spec_paNear_L1 k a0 a1 a2 (fun y => rec (go_spec_paNear_L0_E a0 a1 a2 r1 y)) r1 c0 c1 y) := by
    funext c0 c1 y
    exact go_spec_paNear_L1_t k a0 a1 a2 rec r1 c0 c1 y
  have h1 : (fun c0 c1 y => iter k (loopAt (go_spec_paNear_C k) (bodyOf Go.Proofs.Try.f96) [1, 1, 0, 1, 0, 0, 1, 1, 0, 0, 1, 1, 1, 0] [rec] (finPure (go_spec_paNear_C k) Go.Proofs.Try.f96.results.toList false (.val (.sl I)))) (go_spec_paNear_L2_E a0 a1 a2 r1 c0 c1 y)) = (fun c0 c1 y => go_spec_paNear_L2 k a0 a1 a2 (fun y => rec (go_spec_paNear_L0_E a0 a1 a2 r1 y)) r1 c0 c1 y) := by
    funext c0 c1 y
    exact go_spec_paNear_L2_t k a0 a1 a2 rec r1 c0 c1 y
  rw [h, h0, h1]
def go_spec_paNear_T (k : Nat) (a0 : (Int × (Int × ((List Int) × Unit)))) (a1 : (Int × (Int × Unit))) (a2 : Int) (l_0 : (List Int) → (Int × (List Int)) → Option (List Int)) : Option (List Int) :=
  (go_spec_boLeaps k a0 a1 a2).bind fun r1 =>
  l_0 r1 ((0 : Int), [])
def go_spec_paNear (k : Nat) (a0 : (Int × (Int × ((List Int) × Unit)))) (a1 : (Int × (Int × Unit))) (a2 : Int) : Option (List Int) :=
  go_spec_paNear_T k a0 a1 a2 (fun r1 y => go_spec_paNear_L0 k a0 a1 a2 r1 y)
theorem go_spec_paNear_t (k : Nat) (a0 : (Int × (Int × ((List Int) × Unit)))) (a1 : (Int × (Int × Unit))) (a2 : Int) : runPure (go_spec_paNear_C k) (bodyOf Go.Proofs.Try.f96) Go.Proofs.Try.f96.results.toList false (.pr (.val (.pair I (.pair I (.pair (.sl I) .unit)))) (.pr (.val (.pair I (.pair I .unit))) (.pr (.val I) .un))) (.val (.sl I)) (a0, a1, a2, ()) = go_spec_paNear k a0 a1 a2 := by
  have h : runPure (go_spec_paNear_C k) (bodyOf Go.Proofs.Try.f96) Go.Proofs.Try.f96.results.toList false (.pr (.val (.pair I (.pair I (.pair (.sl I) .unit)))) (.pr (.val (.pair I (.pair I .unit))) (.pr (.val I) .un))) (.val (.sl I)) (a0, a1, a2, ()) = go_spec_paNear_T k a0 a1 a2 (fun r1 y => iter k (loopAt (go_spec_paNear_C k) (bodyOf Go.Proofs.Try.f96) [1, 1, 0, 1, 0] [] (finPure (go_spec_paNear_C k) Go.Proofs.Try.f96.results.toList false (.val (.sl I)))) (go_spec_paNear_L0_E a0 a1 a2 r1 y)) := by kernel_rfl
  have h0 : (fun r1 y => iter k (loopAt (go_spec_paNear_C k) (bodyOf Go.Proofs.Try.f96) [1, 1, 0, 1, 0] [] (finPure (go_spec_paNear_C k) Go.Proofs.Try.f96.results.toList false (.val (.sl I)))) (go_spec_paNear_L0_E a0 a1 a2 r1 y)) = (fun r1 y => go_spec_paNear_L0 k a0 a1 a2 r1 y) := by
    funext r1 y
    exact go_spec_paNear_L0_t k a0 a1 a2 r1 y
  rw [h, h0]
  rfl
def go_spec_paNear_S (k : Nat) : Spec := ⟨(.pr (.val (.pair I (.pair I (.pair (.sl I) .unit)))) (.pr (.val (.pair I (.pair I .unit))) (.pr (.val I) .un))), (.val (.sl I)), false, .inl fun x => go_spec_paNear k x.1 x.2.1 x.2.2.1⟩
theorem go_spec_paNear_F (k : Nat) : Fits Go.Proofs.Try.prog (go_spec_paNear_C k) 96 Go.Proofs.Try.f96 (bodyOf Go.Proofs.Try.f96) (.pr (.val (.pair I (.pair I (.pair (.sl I) .unit)))) (.pr (.val (.pair I (.pair I .unit))) (.pr (.val I) .un))) (.val (.sl I)) false :=
  ⟨th0, mixed0, by kernel_rfl, Go.Proofs.Try.func96, rfl, by kernel_rfl, rfl, rfl, rfl, rfl, rfl, rfl⟩
theorem go_spec_paNear_M (k : Nat) : Meets Go.Proofs.Try.prog 96 (go_spec_paNear_S k) :=
  meets_pure (go_spec_paNear_F k) (sigs_all (l := [(82, go_spec_boLeaps_S k), (70, go_spec_l1Has_S k)]) rfl ⟨go_spec_boLeaps_M k, ⟨go_spec_l1Has_M k, trivial⟩⟩) rfl fun x => go_spec_paNear_t k x.1 x.2.1 x.2.2.1

/-! ### spec.paFirst -/
def go_spec_paFirst_C (sf : (Int × (Int × ((List Int) × Unit))) → (Int × (Int × Unit)) → Int → Int → (List Int) → Option (Bool × ((Int × (Int × ((List Int) × Unit))) × ((Int × (Int × Unit)) × (Int × (Int × ((List Int) × Unit))))))) (k : Nat) : Ctx := { th := TH, se := SE, sg := [(81, go_spec_boHas_S k), (76, ⟨(.pr (.val (.pair I (.pair I (.pair (.sl I) .unit)))) (.pr (.val (.pair I (.pair I .unit))) (.pr (.val I) (.pr (.val I) (.pr (.own 3 I) .un))))), (.val .bool), false, .inr fun x => sf x.1 x.2.1 x.2.2.1 x.2.2.2.1 x.2.2.2.2.1⟩), (96, go_spec_paNear_S k)], mu := [], an := [(7, [(2, false), (3, false), (4, false), (5, false), (6, false), (11, false)]), (11, [(2, false), (3, false), (4, false), (5, false), (6, false), (11, false), (12, false), (44, false), (45, false), (46, false)])], dr := [], pre := [], d2 := [], m := 1, fx := [0], n := 77, k := k }
def go_spec_paFirst_L0_E (a0 : (Int × (Int × ((List Int) × Unit)))) (a1 : (Int × (Int × Unit))) (a2 : Int) (a3 : Int) (a4 : (List Int)) (x23 : (Int × (List Int))) : St :=
  ⟨[(2, .one (.val I a2), []), (3, .one (.val I a3), []), (4, .one (.own 0), []), (5, .one (.val (.pt (.pair I (.pair I (.pair (.sl I) .unit)))) (some a0)), []), (6, .one (.val (.pt (.pair I (.pair I .unit))) (some a1)), []), (11, .one (.val I x23.1), [])], [.arr 3 I x23.2], []⟩
def go_spec_paFirst_L1_E (a0 : (Int × (Int × ((List Int) × Unit)))) (a1 : (Int × (Int × Unit))) (a2 : Int) (a3 : Int) (a4 : (List Int)) (x23 : (Int × (List Int))) (r25 : (List Int)) (x30 : (Bool × Int)) : St :=
  ⟨[(2, .one (.val I a2), []), (3, .one (.val I a3), []), (4, .one (.own 0), []), (5, .one (.val (.pt (.pair I (.pair I (.pair (.sl I) .unit)))) (some a0)), []), (6, .one (.val (.pt (.pair I (.pair I .unit))) (some a1)), []), (11, .one (.val I x23.1), []), (12, .one (.val .bool x30.1), []), (44, .one (.val (.sl I) r25), []), (45, .one (.val I (r25.length : Int)), []), (46, .one (.val I x30.2), [])], [.arr 3 I x23.2], []⟩
def go_spec_paFirst_L1_G (sf : (Int × (Int × ((List Int) × Unit))) → (Int × (Int × Unit)) → Int → Int → (List Int) → Option (Bool × ((Int × (Int × ((List Int) × Unit))) × ((Int × (Int × Unit)) × (Int × (Int × ((List Int) × Unit))))))) (k : Nat) (a0 : (Int × (Int × ((List Int) × Unit)))) (a1 : (Int × (Int × Unit))) (a2 : Int) (a3 : Int) (a4 : (List Int)) (x23 : (Int × (List Int))) (r25 : (List Int)) (rec24 : (Int × (List Int)) → Option (Bool × ((Int × (Int × ((List Int) × Unit))) × ((Int × (Int × Unit)) × (Int × (Int × ((List Int) × Unit))))))) (rec31 : (Bool × Int) → Option (Bool × ((Int × (Int × ((List Int) × Unit))) × ((Int × (Int × Unit)) × (Int × (Int × ((List Int) × Unit))))))) (x30 : (Bool × Int)) : Option (Bool × ((Int × (Int × ((List Int) × Unit))) × ((Int × (Int × Unit)) × (Int × (Int × ((List Int) × Unit)))))) :=
  if (decide (x30.2 < (r25.length : Int))) = true then
    if (inb x30.2 r25.length) = true then
    if (!((!(decide (a3 < (r25.getD x30.2.toNat (0 : Int))))) && x30.1) || (inb (r25.getD x30.2.toNat (0 : Int)) x23.2.length)) = true then
    rec31 ((x30.1 && ((decide (a3 < (r25.getD x30.2.toNat (0 : Int)))) || (!decide ((x23.2.getD (r25.getD x30.2.toNat (0 : Int)).toNat (0 : Int)) = x23.1)))), (IntKind.i64.wrap (x30.2 + (1 : Int))))
    else none
    else none
  else
    if x30.1 = true then
      if (inb a3 x23.2.length) = true then
      (sf a0 a1 a2 (IntKind.i64.wrap (a3 + (1 : Int))) (x23.2.set a3.toNat x23.1)).bind fun r32 =>
      if r32.1 = true then
        some (true, (a0, (a1, (a2, (a3, (r32.2.2.2.2.2.1, ()))))))
      else
        rec24 ((IntKind.i64.wrap (x23.1 + (1 : Int))), r32.2.2.2.2.2.1)
      else none
    else
      rec24 ((IntKind.i64.wrap (x23.1 + (1 : Int))), x23.2)
def go_spec_paFirst_L1 (sf : (Int × (Int × ((List Int) × Unit))) → (Int × (Int × Unit)) → Int → Int → (List Int) → Option (Bool × ((Int × (Int × ((List Int) × Unit))) × ((Int × (Int × Unit)) × (Int × (Int × ((List Int) × Unit))))))) (k : Nat) (a0 : (Int × (Int × ((List Int) × Unit)))) (a1 : (Int × (Int × Unit))) (a2 : Int) (a3 : Int) (a4 : (List Int)) (rec24 : (Int × (List Int)) → Option (Bool × ((Int × (Int × ((List Int) × Unit))) × ((Int × (Int × Unit)) × (Int × (Int × ((List Int) × Unit))))))) (x23 : (Int × (List Int))) (r25 : (List Int)) : (Bool × Int) → Option (Bool × ((Int × (Int × ((List Int) × Unit))) × ((Int × (Int × Unit)) × (Int × (Int × ((List Int) × Unit)))))) :=
  iter k fun rec31 x30 => go_spec_paFirst_L1_G sf k a0 a1 a2 a3 a4 x23 r25 rec24 rec31 x30
theorem go_spec_paFirst_L1_t (sf : (Int × (Int × ((List Int) × Unit))) → (Int × (Int × Unit)) → Int → Int → (List Int) → Option (Bool × ((Int × (Int × ((List Int) × Unit))) × ((Int × (Int × Unit)) × (Int × (Int × ((List Int) × Unit))))))) (k : Nat) (a0 : (Int × (Int × ((List Int) × Unit)))) (a1 : (Int × (Int × Unit))) (a2 : Int) (a3 : Int) (a4 : (List Int)) (s0 : St → Option (Bool × ((Int × (Int × ((List Int) × Unit))) × ((Int × (Int × Unit)) × (Int × (Int × ((List Int) × Unit))))))) (x23 : (Int × (List Int))) (r25 : (List Int)) (x : (Bool × Int)) :
    iter k (loopAt (go_spec_paFirst_C sf k) (bodyOf Go.Proofs.Try.f76) [1, 1, 1, 0, 1, 0, 0, 1, 0, 0, 1, 0, 1, 0] [s0] (finEff (go_spec_paFirst_C sf k) Go.Proofs.Try.f76.results.toList false (.pr (.val (.pair I (.pair I (.pair (.sl I) .unit)))) (.pr (.val (.pair I (.pair I .unit))) (.pr (.val I) (.pr (.val I) (.pr (.own 3 I) .un))))) (.val .bool) (a0, a1, a2, a3, a4, ()))) (go_spec_paFirst_L1_E a0 a1 a2 a3 a4 x23 r25 x) = go_spec_paFirst_L1 sf k a0 a1 a2 a3 a4 (fun y => s0 (go_spec_paFirst_L0_E a0 a1 a2 a3 a4 y)) x23 r25 x := by
  refine iter_tie (G := fun rec x => go_spec_paFirst_L1_G sf k a0 a1 a2 a3 a4 x23 r25 (fun y => s0 (go_spec_paFirst_L0_E a0 a1 a2 a3 a4 y)) rec x) (go_spec_paFirst_L1_E a0 a1 a2 a3 a4 x23 r25) (fun rec x => ?_) k x
  have h : loopAt (go_spec_paFirst_C sf k) (bodyOf Go.Proofs.Try.f76) [1, 1, 1, 0, 1, 0, 0, 1, 0, 0, 1, 0, 1, 0] [s0] (finEff (go_spec_paFirst_C sf k) Go.Proofs.Try.f76.results.toList false (.pr (.val (.pair I (.pair I (.pair (.sl I) .unit)))) (.pr (.val (.pair I (.pair I .unit))) (.pr (.val I) (.pr (.val I) (.pr (.own 3 I) .un))))) (.val .bool) (a0, a1, a2, a3, a4, ())) rec (go_spec_paFirst_L1_E a0 a1 a2 a3 a4 x23 r25 x) = go_spec_paFirst_L1_G sf k a0 a1 a2 a3 a4 x23 r25 (fun y => s0 (go_spec_paFirst_L0_E a0 a1 a2 a3 a4 y)) (fun y => rec (go_spec_paFirst_L1_E a0 a1 a2 a3 a4 x23 r25 y)) x := by kernel_rfl
  rw [h]
def go_spec_paFirst_L0_G (sf : (Int × (Int × ((List Int) × Unit))) → (Int × (Int × Unit)) → Int → Int → (List Int) → Option (Bool × ((Int × (Int × ((List Int) × Unit))) × ((Int × (Int × Unit)) × (Int × (Int × ((List Int) × Unit))))))) (k : Nat) (a0 : (Int × (Int × ((List Int) × Unit)))) (a1 : (Int × (Int × Unit))) (a2 : Int) (a3 : Int) (a4 : (List Int)) (l_1 : (Int × (List Int)) → (List Int) → (Bool × Int) → Option (Bool × ((Int × (Int × ((List Int) × Unit))) × ((Int × (Int × Unit)) × (Int × (Int × ((List Int) × Unit))))))) (rec24 : (Int × (List Int)) → Option (Bool × ((Int × (Int × ((List Int) × Unit))) × ((Int × (Int × Unit)) × (Int × (Int × ((List Int) × Unit))))))) (x23 : (Int × (List Int))) : Option (Bool × ((Int × (Int × ((List Int) × Unit))) × ((Int × (Int × Unit)) × (Int × (Int × ((List Int) × Unit)))))) :=
  if (decide (x23.1 < a2)) = true then
    (go_spec_paNear k a0 a1 a3).bind fun r25 =>
    l_1 x23 r25 (true, (0 : Int))
  else
    some (false, (a0, (a1, (a2, (a3, (x23.2, ()))))))
def go_spec_paFirst_L0 (sf : (Int × (Int × ((List Int) × Unit))) → (Int × (Int × Unit)) → Int → Int → (List Int) → Option (Bool × ((Int × (Int × ((List Int) × Unit))) × ((Int × (Int × Unit)) × (Int × (Int × ((List Int) × Unit))))))) (k : Nat) (a0 : (Int × (Int × ((List Int) × Unit)))) (a1 : (Int × (Int × Unit))) (a2 : Int) (a3 : Int) (a4 : (List Int)) : (Int × (List Int)) → Option (Bool × ((Int × (Int × ((List Int) × Unit))) × ((Int × (Int × Unit)) × (Int × (Int × ((List Int) × Unit)))))) :=
  iter k fun rec24 x23 => go_spec_paFirst_L0_G sf k a0 a1 a2 a3 a4 (fun c0 c1 y => go_spec_paFirst_L1 sf k a0 a1 a2 a3 a4 rec24 c0 c1 y) rec24 x23
theorem go_spec_paFirst_L0_t (sf : (Int × (Int × ((List Int) × Unit))) → (Int × (Int × Unit)) → Int → Int → (List Int) → Option (Bool × ((Int × (Int × ((List Int) × Unit))) × ((Int × (Int × Unit)) × (Int × (Int × ((List Int) × Unit))))))) (k : Nat) (a0 : (Int × (Int × ((List Int) × Unit)))) (a1 : (Int × (Int × Unit))) (a2 : Int) (a3 : Int) (a4 : (List Int)) (x : (Int × (List Int))) :
    iter k (loopAt (go_spec_paFirst_C sf k) (bodyOf Go.Proofs.Try.f76) [1, 1, 1, 0, 1, 0] [] (finEff (go_spec_paFirst_C sf k) Go.Proofs.Try.f76.results.toList false (.pr (.val (.pair I (.pair I (.pair (.sl I) .unit)))) (.pr (.val (.pair I (.pair I .unit))) (.pr (.val I) (.pr (.val I) (.pr (.own 3 I) .un))))) (.val .bool) (a0, a1, a2, a3, a4, ()))) (go_spec_paFirst_L0_E a0 a1 a2 a3 a4 x) = go_spec_paFirst_L0 sf k a0 a1 a2 a3 a4 x := by
  refine iter_tie (G := fun rec x => go_spec_paFirst_L0_G sf k a0 a1 a2 a3 a4 (fun c0 c1 y => go_spec_paFirst_L1 sf k a0 a1 a2 a3 a4 rec c0 c1 y) rec x) (go_spec_paFirst_L0_E a0 a1 a2 a3 a4) (fun rec x => ?_) k x
  have h : loopAt (go_spec_paFirst_C sf k) (bodyOf Go.Proofs.Try.f76) [1, 1, 1, 0, 1, 0] [] (finEff (go_spec_paFirst_C sf k) Go.Proofs.Try.f76.results.toList false (.pr (.val (.pair I (.pair I (.pair (.sl I) .unit)))) (.pr (.val (.pair I (.pair I .unit))) (.pr (.val I) (.pr (.val I) (.pr (.own 3 I) .un))))) (.val .bool) (a0, a1, a2, a3, a4, ())) rec (go_spec_paFirst_L0_E a0 a1 a2 a3 a4 x) = go_spec_paFirst_L0_G sf k a0 a1 a2 a3 a4 (fun c0 c1 y => iter k (loopAt (go_spec_paFirst_C sf k) (bodyOf Go.Proofs.Try.f76) [1, 1, 1, 0, 1, 0, 0, 1, 0, 0, 1, 0, 1, 0] [rec] (finEff (go_spec_paFirst_C sf k) Go.Proofs.Try.f76.results.toList false (.pr (.val (.pair I (.pair I (.pair (.sl I) .unit)))) (.pr (.val (.pair I (.pair I .unit))) (.pr (.val I) (.pr (.val I) (.pr (.own 3 I) .un))))) (.val .bool) (a0, a1, a2, a3, a4, ()))) (go_spec_paFirst_L1_E a0 a1 a2 a3 a4 c0 c1 y)) (fun y => rec (go_spec_paFirst_L0_E a0 a1 a2 a3 a4 y)) x := by kernel_rfl
  have h0 : (fun c0 c1 y => iter k (loopAt (go_spec_paFirst_C sf k) (bodyOf Go.Proofs.Try.f76) [1, 1, 1, 0, 1, 0, 0, 1, 0, 0, 1, 0, 1, 0] [rec] (finEff (go_spec_paFirst_C sf k) Go.Proofs.Try.f76.results.toList false (.pr (.val (.pair I (.pair I (.pair (.sl I) .unit)))) (.pr (.val (.pair I (.pair I .unit))) (.pr (.val I) (.pr (.val I) (.pr (.own 3 I) .un))))) (.val .bool) (a0, a1, a2, a3, a4, ()))) (go_spec_paFirst_L1_E a0 a1 a2 a3 a4 c0 c1 y)) = (fun c0 c1 y => go_spec_paFirst_L1 sf k a0 a1 a2 a3 a4 (fun y => rec (go_spec_paFirst_L0_E a0 a1 a2 a3 a4 y)) c0 c1 y) := by
    funext c0 c1 y
    exact go_spec_paFirst_L1_t sf k a0 a1 a2 a3 a4 rec c0 c1 y
  rw [h, h0]
def go_spec_paFirst_T (sf : (Int × (Int × ((List Int) × Unit))) → (Int × (Int × Unit)) → Int → Int → (List Int) → Option (Bool × ((Int × (Int × ((List Int) × Unit))) × ((Int × (Int × Unit)) × (Int × (Int × ((List Int) × Unit))))))) (k : Nat) (a0 : (Int × (Int × ((List Int) × Unit)))) (a1 : (Int × (Int × Unit))) (a2 : Int) (a3 : Int) (a4 : (List Int)) (l_0 : (Int × (List Int)) → Option (Bool × ((Int × (Int × ((List Int) × Unit))) × ((Int × (Int × Unit)) × (Int × (Int × ((List Int) × Unit))))))) : Option (Bool × ((Int × (Int × ((List Int) × Unit))) × ((Int × (Int × Unit)) × (Int × (Int × ((List Int) × Unit)))))) :=
  if (decide (a3 = (IntKind.i64.wrap (a0.1 * a0.2.1)))) = true then
    some (true, (a0, (a1, (a2, (a3, (a4, ()))))))
  else
    (go_spec_boHas k a0 a3).bind fun r1 =>
    if (!r1) = true then
      if (inb a3 a4.length) = true then
      (sf a0 a1 a2 (IntKind.i64.wrap (a3 + (1 : Int))) (a4.set a3.toNat (-1 : Int))).bind fun r2 =>
      some (r2.1, (a0, (a1, (a2, (a3, (r2.2.2.2.2.2.1, ()))))))
      else none
    else
      l_0 ((0 : Int), a4)
def go_spec_paFirst_b (sf : (Int × (Int × ((List Int) × Unit))) → (Int × (Int × Unit)) → Int → Int → (List Int) → Option (Bool × ((Int × (Int × ((List Int) × Unit))) × ((Int × (Int × Unit)) × (Int × (Int × ((List Int) × Unit))))))) (k : Nat) (a0 : (Int × (Int × ((List Int) × Unit)))) (a1 : (Int × (Int × Unit))) (a2 : Int) (a3 : Int) (a4 : (List Int)) : Option (Bool × ((Int × (Int × ((List Int) × Unit))) × ((Int × (Int × Unit)) × (Int × (Int × ((List Int) × Unit)))))) :=
  go_spec_paFirst_T sf k a0 a1 a2 a3 a4 (fun y => go_spec_paFirst_L0 sf k a0 a1 a2 a3 a4 y)
theorem go_spec_paFirst_t (sf : (Int × (Int × ((List Int) × Unit))) → (Int × (Int × Unit)) → Int → Int → (List Int) → Option (Bool × ((Int × (Int × ((List Int) × Unit))) × ((Int × (Int × Unit)) × (Int × (Int × ((List Int) × Unit))))))) (k : Nat) (a0 : (Int × (Int × ((List Int) × Unit)))) (a1 : (Int × (Int × Unit))) (a2 : Int) (a3 : Int) (a4 : (List Int)) : runEff (go_spec_paFirst_C sf k) (bodyOf Go.Proofs.Try.f76) Go.Proofs.Try.f76.results.toList false (.pr (.val (.pair I (.pair I (.pair (.sl I) .unit)))) (.pr (.val (.pair I (.pair I .unit))) (.pr (.val I) (.pr (.val I) (.pr (.own 3 I) .un))))) (.val .bool) (a0, a1, a2, a3, a4, ()) = go_spec_paFirst_b sf k a0 a1 a2 a3 a4 := by
  have h : runEff (go_spec_paFirst_C sf k) (bodyOf Go.Proofs.Try.f76) Go.Proofs.Try.f76.results.toList false (.pr (.val (.pair I (.pair I (.pair (.sl I) .unit)))) (.pr (.val (.pair I (.pair I .unit))) (.pr (.val I) (.pr (.val I) (.pr (.own 3 I) .un))))) (.val .bool) (a0, a1, a2, a3, a4, ()) = go_spec_paFirst_T sf k a0 a1 a2 a3 a4 (fun y => iter k (loopAt (go_spec_paFirst_C sf k) (bodyOf Go.Proofs.Try.f76) [1, 1, 1, 0, 1, 0] [] (finEff (go_spec_paFirst_C sf k) Go.Proofs.Try.f76.results.toList false (.pr (.val (.pair I (.pair I (.pair (.sl I) .unit)))) (.pr (.val (.pair I (.pair I .unit))) (.pr (.val I) (.pr (.val I) (.pr (.own 3 I) .un))))) (.val .bool) (a0, a1, a2, a3, a4, ()))) (go_spec_paFirst_L0_E a0 a1 a2 a3 a4 y)) := by kernel_rfl
  have h0 : (fun y => iter k (loopAt (go_spec_paFirst_C sf k) (bodyOf Go.Proofs.Try.f76) [1, 1, 1, 0, 1, 0] [] (finEff (go_spec_paFirst_C sf k) Go.Proofs.Try.f76.results.toList false (.pr (.val (.pair I (.pair I (.pair (.sl I) .unit)))) (.pr (.val (.pair I (.pair I .unit))) (.pr (.val I) (.pr (.val I) (.pr (.own 3 I) .un))))) (.val .bool) (a0, a1, a2, a3, a4, ()))) (go_spec_paFirst_L0_E a0 a1 a2 a3 a4 y)) = (fun y => go_spec_paFirst_L0 sf k a0 a1 a2 a3 a4 y) := by
    funext y
    exact go_spec_paFirst_L0_t sf k a0 a1 a2 a3 a4 y
  rw [h, h0]
  rfl
theorem go_spec_paFirst_F (sf : (Int × (Int × ((List Int) × Unit))) → (Int × (Int × Unit)) → Int → Int → (List Int) → Option (Bool × ((Int × (Int × ((List Int) × Unit))) × ((Int × (Int × Unit)) × (Int × (Int × ((List Int) × Unit))))))) (k : Nat) : Fits Go.Proofs.Try.prog (go_spec_paFirst_C sf k) 76 Go.Proofs.Try.f76 (bodyOf Go.Proofs.Try.f76) (.pr (.val (.pair I (.pair I (.pair (.sl I) .unit)))) (.pr (.val (.pair I (.pair I .unit))) (.pr (.val I) (.pr (.val I) (.pr (.own 3 I) .un))))) (.val .bool) false :=
  ⟨th0, mixed0, by kernel_rfl, Go.Proofs.Try.func76, rfl, by kernel_rfl, rfl, rfl, rfl, rfl, rfl, rfl⟩
def go_spec_paFirst_r (k : Nat) : Nat → (Int × (Int × ((List Int) × Unit))) → (Int × (Int × Unit)) → Int → Int → (List Int) → Option (Bool × ((Int × (Int × ((List Int) × Unit))) × ((Int × (Int × Unit)) × (Int × (Int × ((List Int) × Unit))))))
  | 0 => fun _ _ _ _ _ => none
  | n + 1 => go_spec_paFirst_b (go_spec_paFirst_r k n) k
def go_spec_paFirst_Sr (n k : Nat) : Spec := ⟨(.pr (.val (.pair I (.pair I (.pair (.sl I) .unit)))) (.pr (.val (.pair I (.pair I .unit))) (.pr (.val I) (.pr (.val I) (.pr (.own 3 I) .un))))), (.val .bool), false, .inr fun x => go_spec_paFirst_r k n x.1 x.2.1 x.2.2.1 x.2.2.2.1 x.2.2.2.2.1⟩
theorem go_spec_paFirst_Mr : ∀ (n k : Nat), Meets Go.Proofs.Try.prog 76 (go_spec_paFirst_Sr n k)
  | 0, k => meets_noneE (go_spec_paFirst_F (fun _ _ _ _ _ => none) k)
  | n + 1, k => meets_eff (go_spec_paFirst_F (go_spec_paFirst_r k n) k) (sigs_all (l := [(81, go_spec_boHas_S k), (76, go_spec_paFirst_Sr n k), (96, go_spec_paNear_S k)]) rfl ⟨go_spec_boHas_M k, ⟨go_spec_paFirst_Mr n k, ⟨go_spec_paNear_M k, trivial⟩⟩⟩) fun x => go_spec_paFirst_t (go_spec_paFirst_r k n) k x.1 x.2.1 x.2.2.1 x.2.2.2.1 x.2.2.2.2.1
def go_spec_paFirst (k : Nat) (a0 : (Int × (Int × ((List Int) × Unit)))) (a1 : (Int × (Int × Unit))) (a2 : Int) (a3 : Int) (a4 : (List Int)) : Option (Bool × ((Int × (Int × ((List Int) × Unit))) × ((Int × (Int × Unit)) × (Int × (Int × ((List Int) × Unit)))))) := go_spec_paFirst_r k k a0 a1 a2 a3 a4
def go_spec_paFirst_S (k : Nat) : Spec := ⟨(.pr (.val (.pair I (.pair I (.pair (.sl I) .unit)))) (.pr (.val (.pair I (.pair I .unit))) (.pr (.val I) (.pr (.val I) (.pr (.own 3 I) .un))))), (.val .bool), false, .inr fun x => go_spec_paFirst k x.1 x.2.1 x.2.2.1 x.2.2.2.1 x.2.2.2.2.1⟩
theorem go_spec_paFirst_M (k : Nat) : Meets Go.Proofs.Try.prog 76 (go_spec_paFirst_S k) := go_spec_paFirst_Mr k k

/-! ### spec.paFar -/
def go_spec_paFar_C (k : Nat) : Ctx := { th := TH, se := SE, sg := [(76, go_spec_paFirst_S k)], mu := [], an := [(2, [(2, false), (3, false), (6, false)])], dr := [], pre := [], d2 := [], m := 0, fx := [], n := 25, k := k }
def go_spec_paFar_L0_E (a0 : (Int × (Int × ((List Int) × Unit)))) (a1 : (Int × (Int × Unit))) (x4 : (Int)) : St :=
  ⟨[(2, .one (.val (.pt (.pair I (.pair I (.pair (.sl I) .unit)))) (some a0)), []), (3, .one (.val (.pt (.pair I (.pair I .unit))) (some a1)), []), (6, .one (.val I x4), [])], [], []⟩
def go_spec_paFar_L0_G (k : Nat) (a0 : (Int × (Int × ((List Int) × Unit)))) (a1 : (Int × (Int × Unit))) (rec5 : (Int) → Option ((List Int) × (Int × Unit))) (x4 : (Int)) : Option ((List Int) × (Int × Unit)) :=
  if (decide (x4 ≤ (9 : Int))) = true then
    if (decide (0 ≤ (IntKind.i64.wrap (a0.1 * a0.2.1)) ∧ (IntKind.i64.wrap (a0.1 * a0.2.1)) ≤ (LIM : Int))) = true then
    (go_spec_paFirst k a0 a1 x4 (0 : Int) (List.replicate (IntKind.i64.wrap (a0.1 * a0.2.1)).toNat (0 : Int))).bind fun r6 =>
    if r6.1 = true then
      some (r6.2.2.2.2.2.1, (x4, ()))
    else
      rec5 (IntKind.i64.wrap (x4 + (1 : Int)))
    else none
  else
    some ([], ((0 : Int), ()))
def go_spec_paFar_L0 (k : Nat) (a0 : (Int × (Int × ((List Int) × Unit)))) (a1 : (Int × (Int × Unit))) : (Int) → Option ((List Int) × (Int × Unit)) :=
  iter k fun rec5 x4 => go_spec_paFar_L0_G k a0 a1 rec5 x4
theorem go_spec_paFar_L0_t (k : Nat) (a0 : (Int × (Int × ((List Int) × Unit)))) (a1 : (Int × (Int × Unit))) (x : (Int)) :
    iter k (loopAt (go_spec_paFar_C k) (bodyOf Go.Proofs.Try.f49) [1, 0, 1, 0] [] (finPure (go_spec_paFar_C k) Go.Proofs.Try.f49.results.toList true (.pr (.val (.sl I)) (.pr (.val I) .un)))) (go_spec_paFar_L0_E a0 a1 x) = go_spec_paFar_L0 k a0 a1 x := by
  refine iter_tie (G := fun rec x => go_spec_paFar_L0_G k a0 a1 rec x) (go_spec_paFar_L0_E a0 a1) (fun rec x => ?_) k x
  have h : loopAt (go_spec_paFar_C k) (bodyOf Go.Proofs.Try.f49) [1, 0, 1, 0] [] (finPure (go_spec_paFar_C k) Go.Proofs.Try.f49.results.toList true (.pr (.val (.sl I)) (.pr (.val I) .un))) rec (go_spec_paFar_L0_E a0 a1 x) = go_spec_paFar_L0_G k a0 a1 (fun y => rec (go_spec_paFar_L0_E a0 a1 y)) x := by kernel_rfl
  rw [h]
def go_spec_paFar_T (k : Nat) (a0 : (Int × (Int × ((List Int) × Unit)))) (a1 : (Int × (Int × Unit))) (l_0 : (Int) → Option ((List Int) × (Int × Unit))) : Option ((List Int) × (Int × Unit)) :=
  l_0 (1 : Int)
def go_spec_paFar (k : Nat) (a0 : (Int × (Int × ((List Int) × Unit)))) (a1 : (Int × (Int × Unit))) : Option ((List Int) × (Int × Unit)) :=
  go_spec_paFar_T k a0 a1 (fun y => go_spec_paFar_L0 k a0 a1 y)
theorem go_spec_paFar_t (k : Nat) (a0 : (Int × (Int × ((List Int) × Unit)))) (a1 : (Int × (Int × Unit))) : runPure (go_spec_paFar_C k) (bodyOf Go.Proofs.Try.f49) Go.Proofs.Try.f49.results.toList true (.pr (.val (.pair I (.pair I (.pair (.sl I) .unit)))) (.pr (.val (.pair I (.pair I .unit))) .un)) (.pr (.val (.sl I)) (.pr (.val I) .un)) (a0, a1, ()) = go_spec_paFar k a0 a1 := by
  have h : runPure (go_spec_paFar_C k) (bodyOf Go.Proofs.Try.f49) Go.Proofs.Try.f49.results.toList true (.pr (.val (.pair I (.pair I (.pair (.sl I) .unit)))) (.pr (.val (.pair I (.pair I .unit))) .un)) (.pr (.val (.sl I)) (.pr (.val I) .un)) (a0, a1, ()) = go_spec_paFar_T k a0 a1 (fun y => iter k (loopAt (go_spec_paFar_C k) (bodyOf Go.Proofs.Try.f49) [1, 0, 1, 0] [] (finPure (go_spec_paFar_C k) Go.Proofs.Try.f49.results.toList true (.pr (.val (.sl I)) (.pr (.val I) .un)))) (go_spec_paFar_L0_E a0 a1 y)) := by kernel_rfl
  have h0 : (fun y => iter k (loopAt (go_spec_paFar_C k) (bodyOf Go.Proofs.Try.f49) [1, 0, 1, 0] [] (finPure (go_spec_paFar_C k) Go.Proofs.Try.f49.results.toList true (.pr (.val (.sl I)) (.pr (.val I) .un)))) (go_spec_paFar_L0_E a0 a1 y)) = (fun y => go_spec_paFar_L0 k a0 a1 y) := by
    funext y
    exact go_spec_paFar_L0_t k a0 a1 y
  rw [h, h0]
  rfl
def go_spec_paFar_S (k : Nat) : Spec := ⟨(.pr (.val (.pair I (.pair I (.pair (.sl I) .unit)))) (.pr (.val (.pair I (.pair I .unit))) .un)), (.pr (.val (.sl I)) (.pr (.val I) .un)), true, .inl fun x => go_spec_paFar k x.1 x.2.1⟩
theorem go_spec_paFar_F (k : Nat) : Fits Go.Proofs.Try.prog (go_spec_paFar_C k) 49 Go.Proofs.Try.f49 (bodyOf Go.Proofs.Try.f49) (.pr (.val (.pair I (.pair I (.pair (.sl I) .unit)))) (.pr (.val (.pair I (.pair I .unit))) .un)) (.pr (.val (.sl I)) (.pr (.val I) .un)) true :=
  ⟨th0, mixed0, by kernel_rfl, Go.Proofs.Try.func49, rfl, by kernel_rfl, rfl, rfl, rfl, rfl, rfl, rfl⟩
theorem go_spec_paFar_M (k : Nat) : Meets Go.Proofs.Try.prog 49 (go_spec_paFar_S k) :=
  meets_pure (go_spec_paFar_F k) (sigs_all (l := [(76, go_spec_paFirst_S k)]) rfl ⟨go_spec_paFirst_M k, trivial⟩) rfl fun x => go_spec_paFar_t k x.1 x.2.1

/-! ### spec.FirstFar -/
def go_spec_FirstFar_C (k : Nat) : Ctx := { th := TH, se := SE, sg := [(48, go_spec_paSmall_S k), (49, go_spec_paFar_S k)], mu := [], an := [], dr := [], pre := [], d2 := [], m := 0, fx := [], n := 21, k := k }
def go_spec_FirstFar (k : Nat) (a0 : (Int × (Int × ((List Int) × Unit)))) (a1 : (Int × (Int × Unit))) : Option ((List Int) × (Bool × Unit)) :=
  (go_spec_paSmall k a0 a1).bind fun r1 =>
  if (!r1) = true then
    some ([], (false, ()))
  else
    (go_spec_paFar k a0 a1).bind fun r2 =>
    if (decide (r2.2.1 = (0 : Int))) = true then
      some ([], (false, ()))
    else
      some (r2.1, (true, ()))
theorem go_spec_FirstFar_t (k : Nat) (a0 : (Int × (Int × ((List Int) × Unit)))) (a1 : (Int × (Int × Unit))) : runPure (go_spec_FirstFar_C k) (bodyOf Go.Proofs.Try.f16) Go.Proofs.Try.f16.results.toList true (.pr (.val (.pair I (.pair I (.pair (.sl I) .unit)))) (.pr (.val (.pair I (.pair I .unit))) .un)) (.pr (.val (.sl I)) (.pr (.val .bool) .un)) (a0, a1, ()) = go_spec_FirstFar k a0 a1 := by kernel_rfl
def go_spec_FirstFar_S (k : Nat) : Spec := ⟨(.pr (.val (.pair I (.pair I (.pair (.sl I) .unit)))) (.pr (.val (.pair I (.pair I .unit))) .un)), (.pr (.val (.sl I)) (.pr (.val .bool) .un)), true, .inl fun x => go_spec_FirstFar k x.1 x.2.1⟩
theorem go_spec_FirstFar_F (k : Nat) : Fits Go.Proofs.Try.prog (go_spec_FirstFar_C k) 16 Go.Proofs.Try.f16 (bodyOf Go.Proofs.Try.f16) (.pr (.val (.pair I (.pair I (.pair (.sl I) .unit)))) (.pr (.val (.pair I (.pair I .unit))) .un)) (.pr (.val (.sl I)) (.pr (.val .bool) .un)) true :=
  ⟨th0, mixed0, by kernel_rfl, Go.Proofs.Try.func16, rfl, by kernel_rfl, rfl, rfl, rfl, rfl, rfl, rfl⟩
theorem go_spec_FirstFar_M (k : Nat) : Meets Go.Proofs.Try.prog 16 (go_spec_FirstFar_S k) :=
  meets_pure (go_spec_FirstFar_F k) (sigs_all (l := [(48, go_spec_paSmall_S k), (49, go_spec_paFar_S k)]) rfl ⟨go_spec_paSmall_M k, ⟨go_spec_paFar_M k, trivial⟩⟩) rfl fun x => go_spec_FirstFar_t k x.1 x.2.1

/-! ### impl.tourGraph -/
def go_impl_tourGraph_C (k : Nat) : Ctx := { th := TH, se := SE, sg := [(83, go_impl_graphOf_S k)], mu := [], an := [], dr := [], pre := [], d2 := [], m := 0, fx := [], n := 28, k := k }
def go_impl_tourGraph (k : Nat) (a0 : (Int × (Int × ((List Int) × Unit)))) (a1 : (Int × (Int × Unit))) (a2 : Int) : Option ((Option ((Int × (Int × ((List Int) × Unit))) × ((Int × (Int × Unit)) × ((List Int) × ((List (List Int)) × Unit))))) × (Bool × Unit)) :=
  (go_impl_graphOf k a0 a1).bind fun r1 =>
  if (!(!(!r1.2.1)) || r1.1.isSome) = true then
  if ((!r1.2.1) || (decide (a2 < ((r1.1.getD (((0 : Int), ((0 : Int), ([], ()))), (((0 : Int), ((0 : Int), ())), ([], ([], ()))))).2.2.1.length : Int)))) = true then
    some (none, (false, ()))
  else
    some (r1.1, (true, ()))
  else none
theorem go_impl_tourGraph_t (k : Nat) (a0 : (Int × (Int × ((List Int) × Unit)))) (a1 : (Int × (Int × Unit))) (a2 : Int) : runPure (go_impl_tourGraph_C k) (bodyOf Go.Proofs.Try.f66) Go.Proofs.Try.f66.results.toList true (.pr (.val (.pair I (.pair I (.pair (.sl I) .unit)))) (.pr (.val (.pair I (.pair I .unit))) (.pr (.val I) .un))) (.pr (.val (.pt (.pair (.pair I (.pair I (.pair (.sl I) .unit))) (.pair (.pair I (.pair I .unit)) (.pair (.sl I) (.pair (.sl (.sl I)) .unit)))))) (.pr (.val .bool) .un)) (a0, a1, a2, ()) = go_impl_tourGraph k a0 a1 a2 := by kernel_rfl
def go_impl_tourGraph_S (k : Nat) : Spec := ⟨(.pr (.val (.pair I (.pair I (.pair (.sl I) .unit)))) (.pr (.val (.pair I (.pair I .unit))) (.pr (.val I) .un))), (.pr (.val (.pt (.pair (.pair I (.pair I (.pair (.sl I) .unit))) (.pair (.pair I (.pair I .unit)) (.pair (.sl I) (.pair (.sl (.sl I)) .unit)))))) (.pr (.val .bool) .un)), true, .inl fun x => go_impl_tourGraph k x.1 x.2.1 x.2.2.1⟩
theorem go_impl_tourGraph_F (k : Nat) : Fits Go.Proofs.Try.prog (go_impl_tourGraph_C k) 66 Go.Proofs.Try.f66 (bodyOf Go.Proofs.Try.f66) (.pr (.val (.pair I (.pair I (.pair (.sl I) .unit)))) (.pr (.val (.pair I (.pair I .unit))) (.pr (.val I) .un))) (.pr (.val (.pt (.pair (.pair I (.pair I (.pair (.sl I) .unit))) (.pair (.pair I (.pair I .unit)) (.pair (.sl I) (.pair (.sl (.sl I)) .unit)))))) (.pr (.val .bool) .un)) true :=
  ⟨th0, mixed0, by kernel_rfl, Go.Proofs.Try.func66, rfl, by kernel_rfl, rfl, rfl, rfl, rfl, rfl, rfl⟩
theorem go_impl_tourGraph_M (k : Nat) : Meets Go.Proofs.Try.prog 66 (go_impl_tourGraph_S k) :=
  meets_pure (go_impl_tourGraph_F k) (sigs_all (l := [(83, go_impl_graphOf_S k)]) rfl ⟨go_impl_graphOf_M k, trivial⟩) rfl fun x => go_impl_tourGraph_t k x.1 x.2.1 x.2.2.1

/-! ### (*impl.graph).unlike -/
def go_impl_graph_unlike_C (k : Nat) : Ctx := { th := TH, se := SE, sg := [(85, go_impl_graph_far_S k)], mu := [13], an := [(3, [(0, false), (3, false), (17, false), (18, false), (19, false)]), (6, [(0, false), (3, false), (5, false), (17, false), (18, false), (19, false), (25, false), (26, false), (27, false)])], dr := [], pre := [], d2 := [], m := 0, fx := [], n := 51, k := k }
def go_impl_graph_unlike_L0_E (a0 : (Option ((Int × (Int × ((List Int) × Unit))) × ((Int × (Int × Unit)) × ((List Int) × ((List (List Int)) × Unit)))))) (x19 : (Int × (List (List Int)))) : St :=
  ⟨[(0, .one (.val (.pt (.pair (.pair I (.pair I (.pair (.sl I) .unit))) (.pair (.pair I (.pair I .unit)) (.pair (.sl I) (.pair (.sl (.sl I)) .unit))))) a0), []), (3, .one (.xr 0 .top), []), (17, .one (.val (.sl I) (a0.getD (((0 : Int), ((0 : Int), ([], ()))), (((0 : Int), ((0 : Int), ())), ([], ([], ()))))).2.2.1), []), (18, .one (.val I ((a0.getD (((0 : Int), ((0 : Int), ([], ()))), (((0 : Int), ((0 : Int), ())), ([], ([], ()))))).2.2.1.length : Int)), []), (19, .one (.val I x19.1), [])], [.rows 22 3 I x19.2], []⟩
def go_impl_graph_unlike_L1_E (a0 : (Option ((Int × (Int × ((List Int) × Unit))) × ((Int × (Int × Unit)) × ((List Int) × ((List (List Int)) × Unit)))))) (x19 : (Int × (List (List Int)))) (r21 : (List Int)) (x26 : (Int × (List (List Int)))) : St :=
  ⟨[(0, .one (.val (.pt (.pair (.pair I (.pair I (.pair (.sl I) .unit))) (.pair (.pair I (.pair I .unit)) (.pair (.sl I) (.pair (.sl (.sl I)) .unit))))) a0), []), (3, .one (.xr 0 .top), []), (5, .one (.val I ((a0.getD (((0 : Int), ((0 : Int), ([], ()))), (((0 : Int), ((0 : Int), ())), ([], ([], ()))))).2.2.1.getD x19.1.toNat (0 : Int))), []), (17, .one (.val (.sl I) (a0.getD (((0 : Int), ((0 : Int), ([], ()))), (((0 : Int), ((0 : Int), ())), ([], ([], ()))))).2.2.1), []), (18, .one (.val I ((a0.getD (((0 : Int), ((0 : Int), ([], ()))), (((0 : Int), ((0 : Int), ())), ([], ([], ()))))).2.2.1.length : Int)), []), (19, .one (.val I x19.1), []), (25, .one (.val (.sl I) r21), []), (26, .one (.val I (r21.length : Int)), []), (27, .one (.val I x26.1), [])], [.rows 22 3 I x26.2], []⟩
def go_impl_graph_unlike_L1_G (k : Nat) (a0 : (Option ((Int × (Int × ((List Int) × Unit))) × ((Int × (Int × Unit)) × ((List Int) × ((List (List Int)) × Unit)))))) (x19 : (Int × (List (List Int)))) (r21 : (List Int)) (rec20 : (Int × (List (List Int))) → Option (List (List Int))) (rec27 : (Int × (List (List Int))) → Option (List (List Int))) (x26 : (Int × (List (List Int)))) : Option (List (List Int)) :=
  if (decide (x26.1 < (r21.length : Int))) = true then
    if (inb x26.1 r21.length) = true then
    if ((decide ((r21.getD x26.1.toNat (0 : Int)) = (1 : Int))) || (decide ((r21.getD x26.1.toNat (0 : Int)) = (2 : Int)))) = true then
      if (inb ((a0.getD (((0 : Int), ((0 : Int), ([], ()))), (((0 : Int), ((0 : Int), ())), ([], ([], ()))))).2.2.1.getD x19.1.toNat (0 : Int)) x26.2.length) = true then
      if (decide ((x26.2.getD ((a0.getD (((0 : Int), ((0 : Int), ([], ()))), (((0 : Int), ((0 : Int), ())), ([], ([], ()))))).2.2.1.getD x19.1.toNat (0 : Int)).toNat []).length + [x26.1].length ≤ LIM)) = true then
      if (inb ((a0.getD (((0 : Int), ((0 : Int), ([], ()))), (((0 : Int), ((0 : Int), ())), ([], ([], ()))))).2.2.1.getD x19.1.toNat (0 : Int)) x26.2.length) = true then
      if (decide (((a0.getD (((0 : Int), ((0 : Int), ([], ()))), (((0 : Int), ((0 : Int), ())), ([], ([], ()))))).2.2.1.getD x19.1.toNat (0 : Int)) = ((a0.getD (((0 : Int), ((0 : Int), ([], ()))), (((0 : Int), ((0 : Int), ())), ([], ([], ()))))).2.2.1.getD x19.1.toNat (0 : Int)))) = true then
      rec27 ((IntKind.i64.wrap (x26.1 + (1 : Int))), (x26.2.set ((a0.getD (((0 : Int), ((0 : Int), ([], ()))), (((0 : Int), ((0 : Int), ())), ([], ([], ()))))).2.2.1.getD x19.1.toNat (0 : Int)).toNat ((x26.2.getD ((a0.getD (((0 : Int), ((0 : Int), ([], ()))), (((0 : Int), ((0 : Int), ())), ([], ([], ()))))).2.2.1.getD x19.1.toNat (0 : Int)).toNat []) ++ [x26.1])))
      else none
      else none
      else none
      else none
    else
      rec27 ((IntKind.i64.wrap (x26.1 + (1 : Int))), x26.2)
    else none
  else
    rec20 ((IntKind.i64.wrap (x19.1 + (1 : Int))), x26.2)
def go_impl_graph_unlike_L1 (k : Nat) (a0 : (Option ((Int × (Int × ((List Int) × Unit))) × ((Int × (Int × Unit)) × ((List Int) × ((List (List Int)) × Unit)))))) (rec20 : (Int × (List (List Int))) → Option (List (List Int))) (x19 : (Int × (List (List Int)))) (r21 : (List Int)) : (Int × (List (List Int))) → Option (List (List Int)) :=
  iter k fun rec27 x26 => go_impl_graph_unlike_L1_G k a0 x19 r21 rec20 rec27 x26
theorem go_impl_graph_unlike_L1_t (k : Nat) (a0 : (Option ((Int × (Int × ((List Int) × Unit))) × ((Int × (Int × Unit)) × ((List Int) × ((List (List Int)) × Unit)))))) (s0 : St → Option (List (List Int))) (x19 : (Int × (List (List Int)))) (r21 : (List Int)) (x : (Int × (List (List Int)))) :
    iter k (loopAt (go_impl_graph_unlike_C k) (bodyOf Go.Proofs.Try.f77) [1, 1, 0, 1, 0, 0, 1, 1, 0, 0, 1, 1, 0] [s0] (finPure (go_impl_graph_unlike_C k) Go.Proofs.Try.f77.results.toList false (.val (.sl (.sl I))))) (go_impl_graph_unlike_L1_E a0 x19 r21 x) = go_impl_graph_unlike_L1 k a0 (fun y => s0 (go_impl_graph_unlike_L0_E a0 y)) x19 r21 x := by
  refine iter_tie (G := fun rec x => go_impl_graph_unlike_L1_G k a0 x19 r21 (fun y => s0 (go_impl_graph_unlike_L0_E a0 y)) rec x) (go_impl_graph_unlike_L1_E a0 x19 r21) (fun rec x => ?_) k x
  have h : loopAt (go_impl_graph_unlike_C k) (bodyOf Go.Proofs.Try.f77) [1, 1, 0, 1, 0, 0, 1, 1, 0, 0, 1, 1, 0] [s0] (finPure (go_impl_graph_unlike_C k) Go.Proofs.Try.f77.results.toList false (.val (.sl (.sl I)))) rec (go_impl_graph_unlike_L1_E a0 x19 r21 x) = go_impl_graph_unlike_L1_G k a0 x19 r21 (fun y => s0 (go_impl_graph_unlike_L0_E a0 y)) (fun y => rec (go_impl_graph_unlike_L1_E a0 x19 r21 y)) x := by kernel_rfl
  rw [h]
def go_impl_graph_unlike_L0_G (k : Nat) (a0 : (Option ((Int × (Int × ((List Int) × Unit))) × ((Int × (Int × Unit)) × ((List Int) × ((List (List Int)) × Unit)))))) (l_1 : (Int × (List (List Int))) → (List Int) → (Int × (List (List Int))) → Option (List (List Int))) (rec20 : (Int × (List (List Int))) → Option (List (List Int))) (x19 : (Int × (List (List Int)))) : Option (List (List Int)) :=
  if (decide (x19.1 < ((a0.getD (((0 : Int), ((0 : Int), ([], ()))), (((0 : Int), ((0 : Int), ())), ([], ([], ()))))).2.2.1.length : Int))) = true then
    if (inb x19.1 (a0.getD (((0 : Int), ((0 : Int), ([], ()))), (((0 : Int), ((0 : Int), ())), ([], ([], ()))))).2.2.1.length) = true then
    (go_impl_graph_far k a0 ((a0.getD (((0 : Int), ((0 : Int), ([], ()))), (((0 : Int), ((0 : Int), ())), ([], ([], ()))))).2.2.1.getD x19.1.toNat (0 : Int))).bind fun r21 =>
    l_1 x19 r21 ((0 : Int), x19.2)
    else none
  else
    some x19.2
def go_impl_graph_unlike_L0 (k : Nat) (a0 : (Option ((Int × (Int × ((List Int) × Unit))) × ((Int × (Int × Unit)) × ((List Int) × ((List (List Int)) × Unit)))))) : (Int × (List (List Int))) → Option (List (List Int)) :=
  iter k fun rec20 x19 => go_impl_graph_unlike_L0_G k a0 (fun c0 c1 y => go_impl_graph_unlike_L1 k a0 rec20 c0 c1 y) rec20 x19
theorem go_impl_graph_unlike_L0_t (k : Nat) (a0 : (Option ((Int × (Int × ((List Int) × Unit))) × ((Int × (Int × Unit)) × ((List Int) × ((List (List Int)) × Unit)))))) (x : (Int × (List (List Int)))) :
    iter k (loopAt (go_impl_graph_unlike_C k) (bodyOf Go.Proofs.Try.f77) [1, 1, 0, 1, 0] [] (finPure (go_impl_graph_unlike_C k) Go.Proofs.Try.f77.results.toList false (.val (.sl (.sl I))))) (go_impl_graph_unlike_L0_E a0 x) = go_impl_graph_unlike_L0 k a0 x := by
  refine iter_tie (G := fun rec x => go_impl_graph_unlike_L0_G k a0 (fun c0 c1 y => go_impl_graph_unlike_L1 k a0 rec c0 c1 y) rec x) (go_impl_graph_unlike_L0_E a0) (fun rec x => ?_) k x
  have h : loopAt (go_impl_graph_unlike_C k) (bodyOf Go.Proofs.Try.f77) [1, 1, 0, 1, 0] [] (finPure (go_impl_graph_unlike_C k) Go.Proofs.Try.f77.results.toList false (.val (.sl (.sl I)))) rec (go_impl_graph_unlike_L0_E a0 x) = go_impl_graph_unlike_L0_G k a0 (fun c0 c1 y => iter k (loopAt (go_impl_graph_unlike_C k) (bodyOf Go.Proofs.Try.f77) [1, 1, 0, 1, 0, 0, 1, 1, 0, 0, 1, 1, 0] [rec] (finPure (go_impl_graph_unlike_C k) Go.Proofs.Try.f77.results.toList false (.val (.sl (.sl I))))) (go_impl_graph_unlike_L1_E a0 c0 c1 y)) (fun y => rec (go_impl_graph_unlike_L0_E a0 y)) x := by kernel_rfl
  have h0 : (fun c0 c1 y => iter k (loopAt (go_impl_graph_unlike_C k) (bodyOf Go.Proofs.Try.f77) [1, 1, 0, 1, 0, 0, 1, 1, 0, 0, 1, 1, 0] [rec] (finPure (go_impl_graph_unlike_C k) Go.Proofs.Try.f77.results.toList false (.val (.sl (.sl I))))) (go_impl_graph_unlike_L1_E a0 c0 c1 y)) = (fun c0 c1 y => go_impl_graph_unlike_L1 k a0 (fun y => rec (go_impl_graph_unlike_L0_E a0 y)) c0 c1 y) := by
    funext c0 c1 y
    exact go_impl_graph_unlike_L1_t k a0 rec c0 c1 y
  rw [h, h0]
def go_impl_graph_unlike_T (k : Nat) (a0 : (Option ((Int × (Int × ((List Int) × Unit))) × ((Int × (Int × Unit)) × ((List Int) × ((List (List Int)) × Unit)))))) (l_0 : (Int × (List (List Int))) → Option (List (List Int))) : Option (List (List Int)) :=
  if a0.isSome = true then
  if (decide (0 ≤ ((a0.getD (((0 : Int), ((0 : Int), ([], ()))), (((0 : Int), ((0 : Int), ())), ([], ([], ()))))).2.2.2.1.length : Int) ∧ ((a0.getD (((0 : Int), ((0 : Int), ([], ()))), (((0 : Int), ((0 : Int), ())), ([], ([], ()))))).2.2.2.1.length : Int) ≤ (LIM : Int))) = true then
  if a0.isSome = true then
  l_0 ((0 : Int), (List.replicate ((a0.getD (((0 : Int), ((0 : Int), ([], ()))), (((0 : Int), ((0 : Int), ())), ([], ([], ()))))).2.2.2.1.length : Int).toNat []))
  else none
  else none
  else none
def go_impl_graph_unlike (k : Nat) (a0 : (Option ((Int × (Int × ((List Int) × Unit))) × ((Int × (Int × Unit)) × ((List Int) × ((List (List Int)) × Unit)))))) : Option (List (List Int)) :=
  go_impl_graph_unlike_T k a0 (fun y => go_impl_graph_unlike_L0 k a0 y)
theorem go_impl_graph_unlike_t (k : Nat) (a0 : (Option ((Int × (Int × ((List Int) × Unit))) × ((Int × (Int × Unit)) × ((List Int) × ((List (List Int)) × Unit)))))) : runPure (go_impl_graph_unlike_C k) (bodyOf Go.Proofs.Try.f77) Go.Proofs.Try.f77.results.toList false (.pr (.val (.pt (.pair (.pair I (.pair I (.pair (.sl I) .unit))) (.pair (.pair I (.pair I .unit)) (.pair (.sl I) (.pair (.sl (.sl I)) .unit)))))) .un) (.val (.sl (.sl I))) (a0, ()) = go_impl_graph_unlike k a0 := by
  have h : runPure (go_impl_graph_unlike_C k) (bodyOf Go.Proofs.Try.f77) Go.Proofs.Try.f77.results.toList false (.pr (.val (.pt (.pair (.pair I (.pair I (.pair (.sl I) .unit))) (.pair (.pair I (.pair I .unit)) (.pair (.sl I) (.pair (.sl (.sl I)) .unit)))))) .un) (.val (.sl (.sl I))) (a0, ()) = go_impl_graph_unlike_T k a0 (fun y => iter k (loopAt (go_impl_graph_unlike_C k) (bodyOf Go.Proofs.Try.f77) [1, 1, 0, 1, 0] [] (finPure (go_impl_graph_unlike_C k) Go.Proofs.Try.f77.results.toList false (.val (.sl (.sl I))))) (go_impl_graph_unlike_L0_E a0 y)) := by kernel_rfl
  have h0 : (fun y => iter k (loopAt (go_impl_graph_unlike_C k) (bodyOf Go.Proofs.Try.f77) [1, 1, 0, 1, 0] [] (finPure (go_impl_graph_unlike_C k) Go.Proofs.Try.f77.results.toList false (.val (.sl (.sl I))))) (go_impl_graph_unlike_L0_E a0 y)) = (fun y => go_impl_graph_unlike_L0 k a0 y) := by
    funext y
    exact go_impl_graph_unlike_L0_t k a0 y
  rw [h, h0]
  rfl
def go_impl_graph_unlike_S (k : Nat) : Spec := ⟨(.pr (.val (.pt (.pair (.pair I (.pair I (.pair (.sl I) .unit))) (.pair (.pair I (.pair I .unit)) (.pair (.sl I) (.pair (.sl (.sl I)) .unit)))))) .un), (.val (.sl (.sl I))), false, .inl fun x => go_impl_graph_unlike k x.1⟩
theorem go_impl_graph_unlike_F (k : Nat) : Fits Go.Proofs.Try.prog (go_impl_graph_unlike_C k) 77 Go.Proofs.Try.f77 (bodyOf Go.Proofs.Try.f77) (.pr (.val (.pt (.pair (.pair I (.pair I (.pair (.sl I) .unit))) (.pair (.pair I (.pair I .unit)) (.pair (.sl I) (.pair (.sl (.sl I)) .unit)))))) .un) (.val (.sl (.sl I))) false :=
  ⟨th0, mixed0, by kernel_rfl, Go.Proofs.Try.func77, rfl, by kernel_rfl, rfl, rfl, rfl, rfl, rfl, rfl⟩
theorem go_impl_graph_unlike_M (k : Nat) : Meets Go.Proofs.Try.prog 77 (go_impl_graph_unlike_S k) :=
  meets_pure (go_impl_graph_unlike_F k) (sigs_all (l := [(85, go_impl_graph_far_S k)]) rfl ⟨go_impl_graph_far_M k, trivial⟩) rfl fun x => go_impl_graph_unlike_t k x.1

/-! ### (*impl.graph).paint -/
def go_impl_graph_paint_C (sf : (Option ((Int × (Int × ((List Int) × Unit))) × ((Int × (Int × Unit)) × ((List Int) × ((List (List Int)) × Unit))))) → (List (List Int)) → (List Int) → Int → Int → Option (Bool × ((Option ((Int × (Int × ((List Int) × Unit))) × ((Int × (Int × Unit)) × ((List Int) × ((List (List Int)) × Unit))))) × ((List (List Int)) × ((List Int) × (Int × (Int × Unit))))))) (k : Nat) : Ctx := { th := TH, se := SE, sg := [(78, ⟨(.pr (.val (.pt (.pair (.pair I (.pair I (.pair (.sl I) .unit))) (.pair (.pair I (.pair I .unit)) (.pair (.sl I) (.pair (.sl (.sl I)) .unit)))))) (.pr (.val (.sl (.sl I))) (.pr (.own 3 I) (.pr (.val I) (.pr (.val I) .un))))), (.val .bool), false, .inr fun x => sf x.1 x.2.1 x.2.2.1 x.2.2.2.1 x.2.2.2.2.1⟩)], mu := [], an := [(6, [(0, false), (1, false), (2, false), (3, false), (4, false), (11, false), (12, false), (38, false), (39, false), (40, false)]), (11, [(0, false), (1, false), (2, false), (3, false), (4, false), (11, false), (12, false), (15, false)]), (15, [(0, false), (1, false), (2, false), (3, false), (4, false), (11, false), (12, false), (15, false), (16, false), (65, false), (66, false), (67, false)])], dr := [], pre := [], d2 := [], m := 1, fx := [0], n := 102, k := k }
def go_impl_graph_paint_L0_E (a0 : (Option ((Int × (Int × ((List Int) × Unit))) × ((Int × (Int × Unit)) × ((List Int) × ((List (List Int)) × Unit)))))) (a1 : (List (List Int))) (a2 : (List Int)) (a3 : Int) (a4 : Int) (x5 : (Int × Int)) : St :=
  ⟨[(0, .one (.val (.pt (.pair (.pair I (.pair I (.pair (.sl I) .unit))) (.pair (.pair I (.pair I .unit)) (.pair (.sl I) (.pair (.sl (.sl I)) .unit))))) a0), []), (1, .one (.val (.sl (.sl I)) a1), []), (2, .one (.own 0), []), (3, .one (.val I a3), []), (4, .one (.val I a4), []), (11, .one (.val I ((a0.getD (((0 : Int), ((0 : Int), ([], ()))), (((0 : Int), ((0 : Int), ())), ([], ([], ()))))).2.2.1.getD a3.toNat (0 : Int))), []), (12, .one (.val I x5.1), []), (38, .one (.val (.sl I) (((a0.getD (((0 : Int), ((0 : Int), ([], ()))), (((0 : Int), ((0 : Int), ())), ([], ([], ()))))).2.2.1.take a3.toNat).drop (0 : Int).toNat)), []), (39, .one (.val I ((((a0.getD (((0 : Int), ((0 : Int), ([], ()))), (((0 : Int), ((0 : Int), ())), ([], ([], ()))))).2.2.1.take a3.toNat).drop (0 : Int).toNat).length : Int)), []), (40, .one (.val I x5.2), [])], [.arr 3 I a2], []⟩
def go_impl_graph_paint_L1_E (a0 : (Option ((Int × (Int × ((List Int) × Unit))) × ((Int × (Int × Unit)) × ((List Int) × ((List (List Int)) × Unit)))))) (a1 : (List (List Int))) (a2 : (List Int)) (a3 : Int) (a4 : Int) (x5 : (Int × Int)) (x24 : (Int × (List Int))) : St :=
  ⟨[(0, .one (.val (.pt (.pair (.pair I (.pair I (.pair (.sl I) .unit))) (.pair (.pair I (.pair I .unit)) (.pair (.sl I) (.pair (.sl (.sl I)) .unit))))) a0), []), (1, .one (.val (.sl (.sl I)) a1), []), (2, .one (.own 0), []), (3, .one (.val I a3), []), (4, .one (.val I a4), []), (11, .one (.val I ((a0.getD (((0 : Int), ((0 : Int), ([], ()))), (((0 : Int), ((0 : Int), ())), ([], ([], ()))))).2.2.1.getD a3.toNat (0 : Int))), []), (12, .one (.val I x5.1), []), (15, .one (.val I x24.1), [])], [.arr 3 I x24.2], []⟩
def go_impl_graph_paint_L2_E (a0 : (Option ((Int × (Int × ((List Int) × Unit))) × ((Int × (Int × Unit)) × ((List Int) × ((List (List Int)) × Unit)))))) (a1 : (List (List Int))) (a2 : (List Int)) (a3 : Int) (a4 : Int) (x5 : (Int × Int)) (x24 : (Int × (List Int))) (x30 : (Bool × Int)) : St :=
  ⟨[(0, .one (.val (.pt (.pair (.pair I (.pair I (.pair (.sl I) .unit))) (.pair (.pair I (.pair I .unit)) (.pair (.sl I) (.pair (.sl (.sl I)) .unit))))) a0), []), (1, .one (.val (.sl (.sl I)) a1), []), (2, .one (.own 0), []), (3, .one (.val I a3), []), (4, .one (.val I a4), []), (11, .one (.val I ((a0.getD (((0 : Int), ((0 : Int), ([], ()))), (((0 : Int), ((0 : Int), ())), ([], ([], ()))))).2.2.1.getD a3.toNat (0 : Int))), []), (12, .one (.val I x5.1), []), (15, .one (.val I x24.1), []), (16, .one (.val .bool x30.1), []), (65, .one (.val (.sl I) (a1.getD ((a0.getD (((0 : Int), ((0 : Int), ([], ()))), (((0 : Int), ((0 : Int), ())), ([], ([], ()))))).2.2.1.getD a3.toNat (0 : Int)).toNat [])), []), (66, .one (.val I ((a1.getD ((a0.getD (((0 : Int), ((0 : Int), ([], ()))), (((0 : Int), ((0 : Int), ())), ([], ([], ()))))).2.2.1.getD a3.toNat (0 : Int)).toNat []).length : Int)), []), (67, .one (.val I x30.2), [])], [.arr 3 I x24.2], []⟩
def go_impl_graph_paint_L2_G (sf : (Option ((Int × (Int × ((List Int) × Unit))) × ((Int × (Int × Unit)) × ((List Int) × ((List (List Int)) × Unit))))) → (List (List Int)) → (List Int) → Int → Int → Option (Bool × ((Option ((Int × (Int × ((List Int) × Unit))) × ((Int × (Int × Unit)) × ((List Int) × ((List (List Int)) × Unit))))) × ((List (List Int)) × ((List Int) × (Int × (Int × Unit))))))) (k : Nat) (a0 : (Option ((Int × (Int × ((List Int) × Unit))) × ((Int × (Int × Unit)) × ((List Int) × ((List (List Int)) × Unit)))))) (a1 : (List (List Int))) (a2 : (List Int)) (a3 : Int) (a4 : Int) (x5 : (Int × Int)) (x24 : (Int × (List Int))) (rec25 : (Int × (List Int)) → Option (Bool × ((Option ((Int × (Int × ((List Int) × Unit))) × ((Int × (Int × Unit)) × ((List Int) × ((List (List Int)) × Unit))))) × ((List (List Int)) × ((List Int) × (Int × (Int × Unit))))))) (rec31 : (Bool × Int) → Option (Bool × ((Option ((Int × (Int × ((List Int) × Unit))) × ((Int × (Int × Unit)) × ((List Int) × ((List (List Int)) × Unit))))) × ((List (List Int)) × ((List Int) × (Int × (Int × Unit))))))) (x30 : (Bool × Int)) : Option (Bool × ((Option ((Int × (Int × ((List Int) × Unit))) × ((Int × (Int × Unit)) × ((List Int) × ((List (List Int)) × Unit))))) × ((List (List Int)) × ((List Int) × (Int × (Int × Unit)))))) :=
  if (decide (x30.2 < ((a1.getD ((a0.getD (((0 : Int), ((0 : Int), ([], ()))), (((0 : Int), ((0 : Int), ())), ([], ([], ()))))).2.2.1.getD a3.toNat (0 : Int)).toNat []).length : Int))) = true then
    if (inb x30.2 (a1.getD ((a0.getD (((0 : Int), ((0 : Int), ([], ()))), (((0 : Int), ((0 : Int), ())), ([], ([], ()))))).2.2.1.getD a3.toNat (0 : Int)).toNat []).length) = true then
    if (!((!(decide (((a0.getD (((0 : Int), ((0 : Int), ([], ()))), (((0 : Int), ((0 : Int), ())), ([], ([], ()))))).2.2.1.getD a3.toNat (0 : Int)) < ((a1.getD ((a0.getD (((0 : Int), ((0 : Int), ([], ()))), (((0 : Int), ((0 : Int), ())), ([], ([], ()))))).2.2.1.getD a3.toNat (0 : Int)).toNat []).getD x30.2.toNat (0 : Int))))) && x30.1) || (inb ((a1.getD ((a0.getD (((0 : Int), ((0 : Int), ([], ()))), (((0 : Int), ((0 : Int), ())), ([], ([], ()))))).2.2.1.getD a3.toNat (0 : Int)).toNat []).getD x30.2.toNat (0 : Int)) x24.2.length)) = true then
    rec31 ((x30.1 && ((decide (((a0.getD (((0 : Int), ((0 : Int), ([], ()))), (((0 : Int), ((0 : Int), ())), ([], ([], ()))))).2.2.1.getD a3.toNat (0 : Int)) < ((a1.getD ((a0.getD (((0 : Int), ((0 : Int), ([], ()))), (((0 : Int), ((0 : Int), ())), ([], ([], ()))))).2.2.1.getD a3.toNat (0 : Int)).toNat []).getD x30.2.toNat (0 : Int)))) || (!decide ((x24.2.getD ((a1.getD ((a0.getD (((0 : Int), ((0 : Int), ([], ()))), (((0 : Int), ((0 : Int), ())), ([], ([], ()))))).2.2.1.getD a3.toNat (0 : Int)).toNat []).getD x30.2.toNat (0 : Int)).toNat (0 : Int)) = x24.1)))), (IntKind.i64.wrap (x30.2 + (1 : Int))))
    else none
    else none
  else
    if (!x30.1) = true then
      rec25 ((IntKind.i64.wrap (x24.1 + (1 : Int))), x24.2)
    else
      if (inb ((a0.getD (((0 : Int), ((0 : Int), ([], ()))), (((0 : Int), ((0 : Int), ())), ([], ([], ()))))).2.2.1.getD a3.toNat (0 : Int)) x24.2.length) = true then
      (sf a0 a1 (x24.2.set ((a0.getD (((0 : Int), ((0 : Int), ([], ()))), (((0 : Int), ((0 : Int), ())), ([], ([], ()))))).2.2.1.getD a3.toNat (0 : Int)).toNat x24.1) (IntKind.i64.wrap (a3 + (1 : Int))) a4).bind fun r32 =>
      if r32.1 = true then
        some (true, (a0, (a1, (r32.2.2.2.1, (a3, (a4, ()))))))
      else
        if (inb ((a0.getD (((0 : Int), ((0 : Int), ([], ()))), (((0 : Int), ((0 : Int), ())), ([], ([], ()))))).2.2.1.getD a3.toNat (0 : Int)) r32.2.2.2.1.length) = true then
        rec25 ((IntKind.i64.wrap (x24.1 + (1 : Int))), (r32.2.2.2.1.set ((a0.getD (((0 : Int), ((0 : Int), ([], ()))), (((0 : Int), ((0 : Int), ())), ([], ([], ()))))).2.2.1.getD a3.toNat (0 : Int)).toNat (-1 : Int)))
        else none
      else none
def go_impl_graph_paint_L2 (sf : (Option ((Int × (Int × ((List Int) × Unit))) × ((Int × (Int × Unit)) × ((List Int) × ((List (List Int)) × Unit))))) → (List (List Int)) → (List Int) → Int → Int → Option (Bool × ((Option ((Int × (Int × ((List Int) × Unit))) × ((Int × (Int × Unit)) × ((List Int) × ((List (List Int)) × Unit))))) × ((List (List Int)) × ((List Int) × (Int × (Int × Unit))))))) (k : Nat) (a0 : (Option ((Int × (Int × ((List Int) × Unit))) × ((Int × (Int × Unit)) × ((List Int) × ((List (List Int)) × Unit)))))) (a1 : (List (List Int))) (a2 : (List Int)) (a3 : Int) (a4 : Int) (rec25 : (Int × (List Int)) → Option (Bool × ((Option ((Int × (Int × ((List Int) × Unit))) × ((Int × (Int × Unit)) × ((List Int) × ((List (List Int)) × Unit))))) × ((List (List Int)) × ((List Int) × (Int × (Int × Unit))))))) (x5 : (Int × Int)) (x24 : (Int × (List Int))) : (Bool × Int) → Option (Bool × ((Option ((Int × (Int × ((List Int) × Unit))) × ((Int × (Int × Unit)) × ((List Int) × ((List (List Int)) × Unit))))) × ((List (List Int)) × ((List Int) × (Int × (Int × Unit)))))) :=
  iter k fun rec31 x30 => go_impl_graph_paint_L2_G sf k a0 a1 a2 a3 a4 x5 x24 rec25 rec31 x30
theorem go_impl_graph_paint_L2_t (sf : (Option ((Int × (Int × ((List Int) × Unit))) × ((Int × (Int × Unit)) × ((List Int) × ((List (List Int)) × Unit))))) → (List (List Int)) → (List Int) → Int → Int → Option (Bool × ((Option ((Int × (Int × ((List Int) × Unit))) × ((Int × (Int × Unit)) × ((List Int) × ((List (List Int)) × Unit))))) × ((List (List Int)) × ((List Int) × (Int × (Int × Unit))))))) (k : Nat) (a0 : (Option ((Int × (Int × ((List Int) × Unit))) × ((Int × (Int × Unit)) × ((List Int) × ((List (List Int)) × Unit)))))) (a1 : (List (List Int))) (a2 : (List Int)) (a3 : Int) (a4 : Int) (s0 : St → Option (Bool × ((Option ((Int × (Int × ((List Int) × Unit))) × ((Int × (Int × Unit)) × ((List Int) × ((List (List Int)) × Unit))))) × ((List (List Int)) × ((List Int) × (Int × (Int × Unit))))))) (x5 : (Int × Int)) (x24 : (Int × (List Int))) (x : (Bool × Int)) :
    iter k (loopAt (go_impl_graph_paint_C sf k) (bodyOf Go.Proofs.Try.f78) [1, 1, 1, 1, 1, 0, 1, 0, 0, 1, 0, 0, 1, 0, 1, 0] [s0] (finEff (go_impl_graph_paint_C sf k) Go.Proofs.Try.f78.results.toList false (.pr (.val (.pt (.pair (.pair I (.pair I (.pair (.sl I) .unit))) (.pair (.pair I (.pair I .unit)) (.pair (.sl I) (.pair (.sl (.sl I)) .unit)))))) (.pr (.val (.sl (.sl I))) (.pr (.own 3 I) (.pr (.val I) (.pr (.val I) .un))))) (.val .bool) (a0, a1, a2, a3, a4, ()))) (go_impl_graph_paint_L2_E a0 a1 a2 a3 a4 x5 x24 x) = go_impl_graph_paint_L2 sf k a0 a1 a2 a3 a4 (fun y => s0 (go_impl_graph_paint_L1_E a0 a1 a2 a3 a4 x5 y)) x5 x24 x := by
  refine iter_tie (G := fun rec x => go_impl_graph_paint_L2_G sf k a0 a1 a2 a3 a4 x5 x24 (fun y => s0 (go_impl_graph_paint_L1_E a0 a1 a2 a3 a4 x5 y)) rec x) (go_impl_graph_paint_L2_E a0 a1 a2 a3 a4 x5 x24) (fun rec x => ?_) k x
  have h : loopAt (go_impl_graph_paint_C sf k) (bodyOf Go.Proofs.Try.f78) [1, 1, 1, 1, 1, 0, 1, 0, 0, 1, 0, 0, 1, 0, 1, 0] [s0] (finEff (go_impl_graph_paint_C sf k) Go.Proofs.Try.f78.results.toList false (.pr (.val (.pt (.pair (.pair I (.pair I (.pair (.sl I) .unit))) (.pair (.pair I (.pair I .unit)) (.pair (.sl I) (.pair (.sl (.sl I)) .unit)))))) (.pr (.val (.sl (.sl I))) (.pr (.own 3 I) (.pr (.val I) (.pr (.val I) .un))))) (.val .bool) (a0, a1, a2, a3, a4, ())) rec (go_impl_graph_paint_L2_E a0 a1 a2 a3 a4 x5 x24 x) = go_impl_graph_paint_L2_G sf k a0 a1 a2 a3 a4 x5 x24 (fun y => s0 (go_impl_graph_paint_L1_E a0 a1 a2 a3 a4 x5 y)) (fun y => rec (go_impl_graph_paint_L2_E a0 a1 a2 a3 a4 x5 x24 y)) x := by kernel_rfl
  rw [h]
def go_impl_graph_paint_L1_G (sf : (Option ((Int × (Int × ((List Int) × Unit))) × ((Int × (Int × Unit)) × ((List Int) × ((List (List Int)) × Unit))))) → (List (List Int)) → (List Int) → Int → Int → Option (Bool × ((Option ((Int × (Int × ((List Int) × Unit))) × ((Int × (Int × Unit)) × ((List Int) × ((List (List Int)) × Unit))))) × ((List (List Int)) × ((List Int) × (Int × (Int × Unit))))))) (k : Nat) (a0 : (Option ((Int × (Int × ((List Int) × Unit))) × ((Int × (Int × Unit)) × ((List Int) × ((List (List Int)) × Unit)))))) (a1 : (List (List Int))) (a2 : (List Int)) (a3 : Int) (a4 : Int) (x5 : (Int × Int)) (l_2 : (Int × (List Int)) → (Bool × Int) → Option (Bool × ((Option ((Int × (Int × ((List Int) × Unit))) × ((Int × (Int × Unit)) × ((List Int) × ((List (List Int)) × Unit))))) × ((List (List Int)) × ((List Int) × (Int × (Int × Unit))))))) (rec25 : (Int × (List Int)) → Option (Bool × ((Option ((Int × (Int × ((List Int) × Unit))) × ((Int × (Int × Unit)) × ((List Int) × ((List (List Int)) × Unit))))) × ((List (List Int)) × ((List Int) × (Int × (Int × Unit))))))) (x24 : (Int × (List Int))) : Option (Bool × ((Option ((Int × (Int × ((List Int) × Unit))) × ((Int × (Int × Unit)) × ((List Int) × ((List (List Int)) × Unit))))) × ((List (List Int)) × ((List Int) × (Int × (Int × Unit)))))) :=
  if ((decide (x24.1 < a4)) && (decide (x24.1 ≤ (IntKind.i64.wrap (x5.1 + (1 : Int)))))) = true then
    if (inb ((a0.getD (((0 : Int), ((0 : Int), ([], ()))), (((0 : Int), ((0 : Int), ())), ([], ([], ()))))).2.2.1.getD a3.toNat (0 : Int)) a1.length) = true then
    l_2 x24 (true, (0 : Int))
    else none
  else
    some (false, (a0, (a1, (x24.2, (a3, (a4, ()))))))
def go_impl_graph_paint_L1 (sf : (Option ((Int × (Int × ((List Int) × Unit))) × ((Int × (Int × Unit)) × ((List Int) × ((List (List Int)) × Unit))))) → (List (List Int)) → (List Int) → Int → Int → Option (Bool × ((Option ((Int × (Int × ((List Int) × Unit))) × ((Int × (Int × Unit)) × ((List Int) × ((List (List Int)) × Unit))))) × ((List (List Int)) × ((List Int) × (Int × (Int × Unit))))))) (k : Nat) (a0 : (Option ((Int × (Int × ((List Int) × Unit))) × ((Int × (Int × Unit)) × ((List Int) × ((List (List Int)) × Unit)))))) (a1 : (List (List Int))) (a2 : (List Int)) (a3 : Int) (a4 : Int) (x5 : (Int × Int)) : (Int × (List Int)) → Option (Bool × ((Option ((Int × (Int × ((List Int) × Unit))) × ((Int × (Int × Unit)) × ((List Int) × ((List (List Int)) × Unit))))) × ((List (List Int)) × ((List Int) × (Int × (Int × Unit)))))) :=
  iter k fun rec25 x24 => go_impl_graph_paint_L1_G sf k a0 a1 a2 a3 a4 x5 (fun c0 y => go_impl_graph_paint_L2 sf k a0 a1 a2 a3 a4 rec25 x5 c0 y) rec25 x24
theorem go_impl_graph_paint_L1_t (sf : (Option ((Int × (Int × ((List Int) × Unit))) × ((Int × (Int × Unit)) × ((List Int) × ((List (List Int)) × Unit))))) → (List (List Int)) → (List Int) → Int → Int → Option (Bool × ((Option ((Int × (Int × ((List Int) × Unit))) × ((Int × (Int × Unit)) × ((List Int) × ((List (List Int)) × Unit))))) × ((List (List Int)) × ((List Int) × (Int × (Int × Unit))))))) (k : Nat) (a0 : (Option ((Int × (Int × ((List Int) × Unit))) × ((Int × (Int × Unit)) × ((List Int) × ((List (List Int)) × Unit)))))) (a1 : (List (List Int))) (a2 : (List Int)) (a3 : Int) (a4 : Int) (x5 : (Int × Int)) (x : (Int × (List Int))) :
    iter k (loopAt (go_impl_graph_paint_C sf k) (bodyOf Go.Proofs.Try.f78) [1, 1, 1, 1, 1, 0, 1, 0] [] (finEff (go_impl_graph_paint_C sf k) Go.Proofs.Try.f78.results.toList false (.pr (.val (.pt (.pair (.pair I (.pair I (.pair (.sl I) .unit))) (.pair (.pair I (.pair I .unit)) (.pair (.sl I) (.pair (.sl (.sl I)) .unit)))))) (.pr (.val (.sl (.sl I))) (.pr (.own 3 I) (.pr (.val I) (.pr (.val I) .un))))) (.val .bool) (a0, a1, a2, a3, a4, ()))) (go_impl_graph_paint_L1_E a0 a1 a2 a3 a4 x5 x) = go_impl_graph_paint_L1 sf k a0 a1 a2 a3 a4 x5 x := by
  refine iter_tie (G := fun rec x => go_impl_graph_paint_L1_G sf k a0 a1 a2 a3 a4 x5 (fun c0 y => go_impl_graph_paint_L2 sf k a0 a1 a2 a3 a4 rec x5 c0 y) rec x) (go_impl_graph_paint_L1_E a0 a1 a2 a3 a4 x5) (fun rec x => ?_) k x
  have h : loopAt (go_impl_graph_paint_C sf k) (bodyOf Go.Proofs.Try.f78) [1, 1, 1, 1, 1, 0, 1, 0] [] (finEff (go_impl_graph_paint_C sf k) Go.Proofs.Try.f78.results.toList false (.pr (.val (.pt (.pair (.pair I (.pair I (.pair (.sl I) .unit))) (.pair (.pair I (.pair I .unit)) (.pair (.sl I) (.pair (.sl (.sl I)) .unit)))))) (.pr (.val (.sl (.sl I))) (.pr (.own 3 I) (.pr (.val I) (.pr (.val I) .un))))) (.val .bool) (a0, a1, a2, a3, a4, ())) rec (go_impl_graph_paint_L1_E a0 a1 a2 a3 a4 x5 x) = go_impl_graph_paint_L1_G sf k a0 a1 a2 a3 a4 x5 (fun c0 y => iter k (loopAt (go_impl_graph_paint_C sf k) (bodyOf Go.Proofs.Try.f78) [1, 1, 1, 1, 1, 0, 1, 0, 0, 1, 0, 0, 1, 0, 1, 0] [rec] (finEff (go_impl_graph_paint_C sf k) Go.Proofs.Try.f78.results.toList false (.pr (.val (.pt (.pair (.pair I (.pair I (.pair (.sl I) .unit))) (.pair (.pair I (.pair I .unit)) (.pair (.sl I) (.pair (.sl (.sl I)) .unit)))))) (.pr (.val (.sl (.sl I))) (.pr (.own 3 I) (.pr (.val I) (.pr (.val I) .un))))) (.val .bool) (a0, a1, a2, a3, a4, ()))) (go_impl_graph_paint_L2_E a0 a1 a2 a3 a4 x5 c0 y)) (fun y => rec (go_impl_graph_paint_L1_E a0 a1 a2 a3 a4 x5 y)) x := by kernel_rfl
  have h0 : (fun c0 y => iter k (loopAt (go_impl_graph_paint_C sf k) (bodyOf Go.Proofs.Try.f78) [1, 1, 1, 1, 1, 0, 1, 0, 0, 1, 0, 0, 1, 0, 1, 0] [rec] (finEff (go_impl_graph_paint_C sf k) Go.Proofs.Try.f78.results.toList false (.pr (.val (.pt (.pair (.pair I (.pair I (.pair (.sl I) .unit))) (.pair (.pair I (.pair I .unit)) (.pair (.sl I) (.pair (.sl (.sl I)) .unit)))))) (.pr (.val (.sl (.sl I))) (.pr (.own 3 I) (.pr (.val I) (.pr (.val I) .un))))) (.val .bool) (a0, a1, a2, a3, a4, ()))) (go_impl_graph_paint_L2_E a0 a1 a2 a3 a4 x5 c0 y)) = (fun c0 y => go_impl_graph_paint_L2 sf k a0 a1 a2 a3 a4 (fun y => rec (go_impl_graph_paint_L1_E a0 a1 a2 a3 a4 x5 y)) x5 c0 y) := by
    funext c0 y
    exact go_impl_graph_paint_L2_t sf k a0 a1 a2 a3 a4 rec x5 c0 y
  rw [h, h0]
def go_impl_graph_paint_L0_G (sf : (Option ((Int × (Int × ((List Int) × Unit))) × ((Int × (Int × Unit)) × ((List Int) × ((List (List Int)) × Unit))))) → (List (List Int)) → (List Int) → Int → Int → Option (Bool × ((Option ((Int × (Int × ((List Int) × Unit))) × ((Int × (Int × Unit)) × ((List Int) × ((List (List Int)) × Unit))))) × ((List (List Int)) × ((List Int) × (Int × (Int × Unit))))))) (k : Nat) (a0 : (Option ((Int × (Int × ((List Int) × Unit))) × ((Int × (Int × Unit)) × ((List Int) × ((List (List Int)) × Unit)))))) (a1 : (List (List Int))) (a2 : (List Int)) (a3 : Int) (a4 : Int) (l_1 : (Int × Int) → (Int × (List Int)) → Option (Bool × ((Option ((Int × (Int × ((List Int) × Unit))) × ((Int × (Int × Unit)) × ((List Int) × ((List (List Int)) × Unit))))) × ((List (List Int)) × ((List Int) × (Int × (Int × Unit))))))) (rec6 : (Int × Int) → Option (Bool × ((Option ((Int × (Int × ((List Int) × Unit))) × ((Int × (Int × Unit)) × ((List Int) × ((List (List Int)) × Unit))))) × ((List (List Int)) × ((List Int) × (Int × (Int × Unit))))))) (x5 : (Int × Int)) : Option (Bool × ((Option ((Int × (Int × ((List Int) × Unit))) × ((Int × (Int × Unit)) × ((List Int) × ((List (List Int)) × Unit))))) × ((List (List Int)) × ((List Int) × (Int × (Int × Unit)))))) :=
  if (decide (x5.2 < ((((a0.getD (((0 : Int), ((0 : Int), ([], ()))), (((0 : Int), ((0 : Int), ())), ([], ([], ()))))).2.2.1.take a3.toNat).drop (0 : Int).toNat).length : Int))) = true then
    if (inb x5.2 (((a0.getD (((0 : Int), ((0 : Int), ([], ()))), (((0 : Int), ((0 : Int), ())), ([], ([], ()))))).2.2.1.take a3.toNat).drop (0 : Int).toNat).length) = true then
    if (inb ((((a0.getD (((0 : Int), ((0 : Int), ([], ()))), (((0 : Int), ((0 : Int), ())), ([], ([], ()))))).2.2.1.take a3.toNat).drop (0 : Int).toNat).getD x5.2.toNat (0 : Int)) a2.length) = true then
    rec6 ((max x5.1 (a2.getD ((((a0.getD (((0 : Int), ((0 : Int), ([], ()))), (((0 : Int), ((0 : Int), ())), ([], ([], ()))))).2.2.1.take a3.toNat).drop (0 : Int).toNat).getD x5.2.toNat (0 : Int)).toNat (0 : Int))), (IntKind.i64.wrap (x5.2 + (1 : Int))))
    else none
    else none
  else
    l_1 x5 ((0 : Int), a2)
def go_impl_graph_paint_L0 (sf : (Option ((Int × (Int × ((List Int) × Unit))) × ((Int × (Int × Unit)) × ((List Int) × ((List (List Int)) × Unit))))) → (List (List Int)) → (List Int) → Int → Int → Option (Bool × ((Option ((Int × (Int × ((List Int) × Unit))) × ((Int × (Int × Unit)) × ((List Int) × ((List (List Int)) × Unit))))) × ((List (List Int)) × ((List Int) × (Int × (Int × Unit))))))) (k : Nat) (a0 : (Option ((Int × (Int × ((List Int) × Unit))) × ((Int × (Int × Unit)) × ((List Int) × ((List (List Int)) × Unit)))))) (a1 : (List (List Int))) (a2 : (List Int)) (a3 : Int) (a4 : Int) : (Int × Int) → Option (Bool × ((Option ((Int × (Int × ((List Int) × Unit))) × ((Int × (Int × Unit)) × ((List Int) × ((List (List Int)) × Unit))))) × ((List (List Int)) × ((List Int) × (Int × (Int × Unit)))))) :=
  iter k fun rec6 x5 => go_impl_graph_paint_L0_G sf k a0 a1 a2 a3 a4 (fun c0 y => go_impl_graph_paint_L1 sf k a0 a1 a2 a3 a4 c0 y) rec6 x5
theorem go_impl_graph_paint_L0_t (sf : (Option ((Int × (Int × ((List Int) × Unit))) × ((Int × (Int × Unit)) × ((List Int) × ((List (List Int)) × Unit))))) → (List (List Int)) → (List Int) → Int → Int → Option (Bool × ((Option ((Int × (Int × ((List Int) × Unit))) × ((Int × (Int × Unit)) × ((List Int) × ((List (List Int)) × Unit))))) × ((List (List Int)) × ((List Int) × (Int × (Int × Unit))))))) (k : Nat) (a0 : (Option ((Int × (Int × ((List Int) × Unit))) × ((Int × (Int × Unit)) × ((List Int) × ((List (List Int)) × Unit)))))) (a1 : (List (List Int))) (a2 : (List Int)) (a3 : Int) (a4 : Int) (x : (Int × Int)) :
    iter k (loopAt (go_impl_graph_paint_C sf k) (bodyOf Go.Proofs.Try.f78) [1, 1, 1, 1, 0, 1, 0] [] (finEff (go_impl_graph_paint_C sf k) Go.Proofs.Try.f78.results.toList false (.pr (.val (.pt (.pair (.pair I (.pair I (.pair (.sl I) .unit))) (.pair (.pair I (.pair I .unit)) (.pair (.sl I) (.pair (.sl (.sl I)) .unit)))))) (.pr (.val (.sl (.sl I))) (.pr (.own 3 I) (.pr (.val I) (.pr (.val I) .un))))) (.val .bool) (a0, a1, a2, a3, a4, ()))) (go_impl_graph_paint_L0_E a0 a1 a2 a3 a4 x) = go_impl_graph_paint_L0 sf k a0 a1 a2 a3 a4 x := by
  refine iter_tie (G := fun rec x => go_impl_graph_paint_L0_G sf k a0 a1 a2 a3 a4 (fun c0 y => go_impl_graph_paint_L1 sf k a0 a1 a2 a3 a4 c0 y) rec x) (go_impl_graph_paint_L0_E a0 a1 a2 a3 a4) (fun rec x => ?_) k x
  have h : loopAt (go_impl_graph_paint_C sf k) (bodyOf Go.Proofs.Try.f78) [1, 1, 1, 1, 0, 1, 0] [] (finEff (go_impl_graph_paint_C sf k) Go.Proofs.Try.f78.results.toList false (.pr (.val (.pt (.pair (.pair I (.pair I (.pair (.sl I) .unit))) (.pair (.pair I (.pair I .unit)) (.pair (.sl I) (.pair (.sl (.sl I)) .unit)))))) (.pr (.val (.sl (.sl I))) (.pr (.own 3 I) (.pr (.val I) (.pr (.val I) .un))))) (.val .bool) (a0, a1, a2, a3, a4, ())) rec (go_impl_graph_paint_L0_E a0 a1 a2 a3 a4 x) = go_impl_graph_paint_L0_G sf k a0 a1 a2 a3 a4 (fun c0 y => iter k (loopAt (go_impl_graph_paint_C sf k) (bodyOf Go.Proofs.Try.f78) [1, 1, 1, 1, 1, 0, 1, 0] [] (finEff (go_impl_graph_paint_C sf k) Go.Proofs.Try.f78.results.toList false (.pr (.val (.pt (.pair (.pair I (.pair I (.pair (.sl I) .unit))) (.pair (.pair I (.pair I .unit)) (.pair (.sl I) (.pair (.sl (.sl I)) .unit)))))) (.pr (.val (.sl (.sl I))) (.pr (.own 3 I) (.pr (.val I) (.pr (.val I) .un))))) (.val .bool) (a0, a1, a2, a3, a4, ()))) (go_impl_graph_paint_L1_E a0 a1 a2 a3 a4 c0 y)) (fun y => rec (go_impl_graph_paint_L0_E a0 a1 a2 a3 a4 y)) x := by kernel_rfl
  have h0 : (fun c0 y => iter k (loopAt (go_impl_graph_paint_C sf k) (bodyOf Go.Proofs.Try.f78) [1, 1, 1, 1, 1, 0, 1, 0] [] (finEff (go_impl_graph_paint_C sf k) Go.Proofs.Try.f78.results.toList false (.pr (.val (.pt (.pair (.pair I (.pair I (.pair (.sl I) .unit))) (.pair (.pair I (.pair I .unit)) (.pair (.sl I) (.pair (.sl (.sl I)) .unit)))))) (.pr (.val (.sl (.sl I))) (.pr (.own 3 I) (.pr (.val I) (.pr (.val I) .un))))) (.val .bool) (a0, a1, a2, a3, a4, ()))) (go_impl_graph_paint_L1_E a0 a1 a2 a3 a4 c0 y)) = (fun c0 y => go_impl_graph_paint_L1 sf k a0 a1 a2 a3 a4 c0 y) := by
    funext c0 y
    exact go_impl_graph_paint_L1_t sf k a0 a1 a2 a3 a4 c0 y
  rw [h, h0]
def go_impl_graph_paint_T (sf : (Option ((Int × (Int × ((List Int) × Unit))) × ((Int × (Int × Unit)) × ((List Int) × ((List (List Int)) × Unit))))) → (List (List Int)) → (List Int) → Int → Int → Option (Bool × ((Option ((Int × (Int × ((List Int) × Unit))) × ((Int × (Int × Unit)) × ((List Int) × ((List (List Int)) × Unit))))) × ((List (List Int)) × ((List Int) × (Int × (Int × Unit))))))) (k : Nat) (a0 : (Option ((Int × (Int × ((List Int) × Unit))) × ((Int × (Int × Unit)) × ((List Int) × ((List (List Int)) × Unit)))))) (a1 : (List (List Int))) (a2 : (List Int)) (a3 : Int) (a4 : Int) (l_0 : (Int × Int) → Option (Bool × ((Option ((Int × (Int × ((List Int) × Unit))) × ((Int × (Int × Unit)) × ((List Int) × ((List (List Int)) × Unit))))) × ((List (List Int)) × ((List Int) × (Int × (Int × Unit))))))) : Option (Bool × ((Option ((Int × (Int × ((List Int) × Unit))) × ((Int × (Int × Unit)) × ((List Int) × ((List (List Int)) × Unit))))) × ((List (List Int)) × ((List Int) × (Int × (Int × Unit)))))) :=
  if a0.isSome = true then
  if (decide (a3 = ((a0.getD (((0 : Int), ((0 : Int), ([], ()))), (((0 : Int), ((0 : Int), ())), ([], ([], ()))))).2.2.1.length : Int))) = true then
    some (true, (a0, (a1, (a2, (a3, (a4, ()))))))
  else
    if a0.isSome = true then
    if (inb a3 (a0.getD (((0 : Int), ((0 : Int), ([], ()))), (((0 : Int), ((0 : Int), ())), ([], ([], ()))))).2.2.1.length) = true then
    if a0.isSome = true then
    if (decide (0 ≤ (0 : Int) ∧ (0 : Int) ≤ a3 ∧ a3 ≤ ((a0.getD (((0 : Int), ((0 : Int), ([], ()))), (((0 : Int), ((0 : Int), ())), ([], ([], ()))))).2.2.1.length : Int))) = true then
    l_0 ((-1 : Int), (0 : Int))
    else none
    else none
    else none
    else none
  else none
def go_impl_graph_paint_b (sf : (Option ((Int × (Int × ((List Int) × Unit))) × ((Int × (Int × Unit)) × ((List Int) × ((List (List Int)) × Unit))))) → (List (List Int)) → (List Int) → Int → Int → Option (Bool × ((Option ((Int × (Int × ((List Int) × Unit))) × ((Int × (Int × Unit)) × ((List Int) × ((List (List Int)) × Unit))))) × ((List (List Int)) × ((List Int) × (Int × (Int × Unit))))))) (k : Nat) (a0 : (Option ((Int × (Int × ((List Int) × Unit))) × ((Int × (Int × Unit)) × ((List Int) × ((List (List Int)) × Unit)))))) (a1 : (List (List Int))) (a2 : (List Int)) (a3 : Int) (a4 : Int) : Option (Bool × ((Option ((Int × (Int × ((List Int) × Unit))) × ((Int × (Int × Unit)) × ((List Int) × ((List (List Int)) × Unit))))) × ((List (List Int)) × ((List Int) × (Int × (Int × Unit)))))) :=
  go_impl_graph_paint_T sf k a0 a1 a2 a3 a4 (fun y => go_impl_graph_paint_L0 sf k a0 a1 a2 a3 a4 y)
theorem go_impl_graph_paint_t (sf : (Option ((Int × (Int × ((List Int) × Unit))) × ((Int × (Int × Unit)) × ((List Int) × ((List (List Int)) × Unit))))) → (List (List Int)) → (List Int) → Int → Int → Option (Bool × ((Option ((Int × (Int × ((List Int) × Unit))) × ((Int × (Int × Unit)) × ((List Int) × ((List (List Int)) × Unit))))) × ((List (List Int)) × ((List Int) × (Int × (Int × Unit))))))) (k : Nat) (a0 : (Option ((Int × (Int × ((List Int) × Unit))) × ((Int × (Int × Unit)) × ((List Int) × ((List (List Int)) × Unit)))))) (a1 : (List (List Int))) (a2 : (List Int)) (a3 : Int) (a4 : Int) : runEff (go_impl_graph_paint_C sf k) (bodyOf Go.Proofs.Try.f78) Go.Proofs.Try.f78.results.toList false (.pr (.val (.pt (.pair (.pair I (.pair I (.pair (.sl I) .unit))) (.pair (.pair I (.pair I .unit)) (.pair (.sl I) (.pair (.sl (.sl I)) .unit)))))) (.pr (.val (.sl (.sl I))) (.pr (.own 3 I) (.pr (.val I) (.pr (.val I) .un))))) (.val .bool) (a0, a1, a2, a3, a4, ()) = go_impl_graph_paint_b sf k a0 a1 a2 a3 a4 := by
  have h : runEff (go_impl_graph_paint_C sf k) (bodyOf Go.Proofs.Try.f78) Go.Proofs.Try.f78.results.toList false (.pr (.val (.pt (.pair (.pair I (.pair I (.pair (.sl I) .unit))) (.pair (.pair I (.pair I .unit)) (.pair (.sl I) (.pair (.sl (.sl I)) .unit)))))) (.pr (.val (.sl (.sl I))) (.pr (.own 3 I) (.pr (.val I) (.pr (.val I) .un))))) (.val .bool) (a0, a1, a2, a3, a4, ()) = go_impl_graph_paint_T sf k a0 a1 a2 a3 a4 (fun y => iter k (loopAt (go_impl_graph_paint_C sf k) (bodyOf Go.Proofs.Try.f78) [1, 1, 1, 1, 0, 1, 0] [] (finEff (go_impl_graph_paint_C sf k) Go.Proofs.Try.f78.results.toList false (.pr (.val (.pt (.pair (.pair I (.pair I (.pair (.sl I) .unit))) (.pair (.pair I (.pair I .unit)) (.pair (.sl I) (.pair (.sl (.sl I)) .unit)))))) (.pr (.val (.sl (.sl I))) (.pr (.own 3 I) (.pr (.val I) (.pr (.val I) .un))))) (.val .bool) (a0, a1, a2, a3, a4, ()))) (go_impl_graph_paint_L0_E a0 a1 a2 a3 a4 y)) := by kernel_rfl
  have h0 : (fun y => iter k (loopAt (go_impl_graph_paint_C sf k) (bodyOf Go.Proofs.Try.f78) [1, 1, 1, 1, 0, 1, 0] [] (finEff (go_impl_graph_paint_C sf k) Go.Proofs.Try.f78.results.toList false (.pr (.val (.pt (.pair (.pair I (.pair I (.pair (.sl I) .unit))) (.pair (.pair I (.pair I .unit)) (.pair (.sl I) (.pair (.sl (.sl I)) .unit)))))) (.pr (.val (.sl (.sl I))) (.pr (.own 3 I) (.pr (.val I) (.pr (.val I) .un))))) (.val .bool) (a0, a1, a2, a3, a4, ()))) (go_impl_graph_paint_L0_E a0 a1 a2 a3 a4 y)) = (fun y => go_impl_graph_paint_L0 sf k a0 a1 a2 a3 a4 y) := by
    funext y
    exact go_impl_graph_paint_L0_t sf k a0 a1 a2 a3 a4 y
  rw [h, h0]
  rfl
theorem go_impl_graph_paint_F (sf : (Option ((Int × (Int × ((List Int) × Unit))) × ((Int × (Int × Unit)) × ((List Int) × ((List (List Int)) × Unit))))) → (List (List Int)) → (List Int) → Int → Int → Option (Bool × ((Option ((Int × (Int × ((List Int) × Unit))) × ((Int × (Int × Unit)) × ((List Int) × ((List (List Int)) × Unit))))) × ((List (List Int)) × ((List Int) × (Int × (Int × Unit))))))) (k : Nat) : Fits Go.Proofs.Try.prog (go_impl_graph_paint_C sf k) 78 Go.Proofs.Try.f78 (bodyOf Go.Proofs.Try.f78) (.pr (.val (.pt (.pair (.pair I (.pair I (.pair (.sl I) .unit))) (.pair (.pair I (.pair I .unit)) (.pair (.sl I) (.pair (.sl (.sl I)) .unit)))))) (.pr (.val (.sl (.sl I))) (.pr (.own 3 I) (.pr (.val I) (.pr (.val I) .un))))) (.val .bool) false :=
  ⟨th0, mixed0, by kernel_rfl, Go.Proofs.Try.func78, rfl, by kernel_rfl, rfl, rfl, rfl, rfl, rfl, rfl⟩
def go_impl_graph_paint_r (k : Nat) : Nat → (Option ((Int × (Int × ((List Int) × Unit))) × ((Int × (Int × Unit)) × ((List Int) × ((List (List Int)) × Unit))))) → (List (List Int)) → (List Int) → Int → Int → Option (Bool × ((Option ((Int × (Int × ((List Int) × Unit))) × ((Int × (Int × Unit)) × ((List Int) × ((List (List Int)) × Unit))))) × ((List (List Int)) × ((List Int) × (Int × (Int × Unit))))))
  | 0 => fun _ _ _ _ _ => none
  | n + 1 => go_impl_graph_paint_b (go_impl_graph_paint_r k n) k
def go_impl_graph_paint_Sr (n k : Nat) : Spec := ⟨(.pr (.val (.pt (.pair (.pair I (.pair I (.pair (.sl I) .unit))) (.pair (.pair I (.pair I .unit)) (.pair (.sl I) (.pair (.sl (.sl I)) .unit)))))) (.pr (.val (.sl (.sl I))) (.pr (.own 3 I) (.pr (.val I) (.pr (.val I) .un))))), (.val .bool), false, .inr fun x => go_impl_graph_paint_r k n x.1 x.2.1 x.2.2.1 x.2.2.2.1 x.2.2.2.2.1⟩
theorem go_impl_graph_paint_Mr : ∀ (n k : Nat), Meets Go.Proofs.Try.prog 78 (go_impl_graph_paint_Sr n k)
  | 0, k => meets_noneE (go_impl_graph_paint_F (fun _ _ _ _ _ => none) k)
  | n + 1, k => meets_eff (go_impl_graph_paint_F (go_impl_graph_paint_r k n) k) (sigs_all (l := [(78, go_impl_graph_paint_Sr n k)]) rfl ⟨go_impl_graph_paint_Mr n k, trivial⟩) fun x => go_impl_graph_paint_t (go_impl_graph_paint_r k n) k x.1 x.2.1 x.2.2.1 x.2.2.2.1 x.2.2.2.2.1
def go_impl_graph_paint (k : Nat) (a0 : (Option ((Int × (Int × ((List Int) × Unit))) × ((Int × (Int × Unit)) × ((List Int) × ((List (List Int)) × Unit)))))) (a1 : (List (List Int))) (a2 : (List Int)) (a3 : Int) (a4 : Int) : Option (Bool × ((Option ((Int × (Int × ((List Int) × Unit))) × ((Int × (Int × Unit)) × ((List Int) × ((List (List Int)) × Unit))))) × ((List (List Int)) × ((List Int) × (Int × (Int × Unit)))))) := go_impl_graph_paint_r k k a0 a1 a2 a3 a4
def go_impl_graph_paint_S (k : Nat) : Spec := ⟨(.pr (.val (.pt (.pair (.pair I (.pair I (.pair (.sl I) .unit))) (.pair (.pair I (.pair I .unit)) (.pair (.sl I) (.pair (.sl (.sl I)) .unit)))))) (.pr (.val (.sl (.sl I))) (.pr (.own 3 I) (.pr (.val I) (.pr (.val I) .un))))), (.val .bool), false, .inr fun x => go_impl_graph_paint k x.1 x.2.1 x.2.2.1 x.2.2.2.1 x.2.2.2.2.1⟩
theorem go_impl_graph_paint_M (k : Nat) : Meets Go.Proofs.Try.prog 78 (go_impl_graph_paint_S k) := go_impl_graph_paint_Mr k k

/-! ### impl.farPainting -/
def go_impl_farPainting_C (k : Nat) : Ctx := { th := TH, se := SE, sg := [(66, go_impl_tourGraph_S k), (77, go_impl_graph_unlike_S k), (78, go_impl_graph_paint_S k)], mu := [], an := [(6, [(7, false), (9, false), (10, false)]), (10, [(7, false), (9, false), (10, false), (11, false), (34, false), (35, false)])], dr := [], pre := [], d2 := [], m := 0, fx := [], n := 49, k := k }
def go_impl_farPainting_L0_E (a0 : (Int × (Int × ((List Int) × Unit)))) (a1 : (Int × (Int × Unit))) (r1 : ((Option ((Int × (Int × ((List Int) × Unit))) × ((Int × (Int × Unit)) × ((List Int) × ((List (List Int)) × Unit))))) × (Bool × Unit))) (r2 : (List (List Int))) (x12 : (Int)) : St :=
  ⟨[(7, .one (.val (.pt (.pair (.pair I (.pair I (.pair (.sl I) .unit))) (.pair (.pair I (.pair I .unit)) (.pair (.sl I) (.pair (.sl (.sl I)) .unit))))) r1.1), []), (9, .one (.val (.sl (.sl I)) r2), []), (10, .one (.val I x12), [])], [], []⟩
def go_impl_farPainting_L1_E (a0 : (Int × (Int × ((List Int) × Unit)))) (a1 : (Int × (Int × Unit))) (r1 : ((Option ((Int × (Int × ((List Int) × Unit))) × ((Int × (Int × Unit)) × ((List Int) × ((List (List Int)) × Unit))))) × (Bool × Unit))) (r2 : (List (List Int))) (x12 : (Int)) (x18 : (Int × (List Int))) : St :=
  ⟨[(7, .one (.val (.pt (.pair (.pair I (.pair I (.pair (.sl I) .unit))) (.pair (.pair I (.pair I .unit)) (.pair (.sl I) (.pair (.sl (.sl I)) .unit))))) r1.1), []), (9, .one (.val (.sl (.sl I)) r2), []), (10, .one (.val I x12), []), (11, .one (.own 0), []), (34, .one (.val I ((List.replicate ((r1.1.getD (((0 : Int), ((0 : Int), ([], ()))), (((0 : Int), ((0 : Int), ())), ([], ([], ()))))).2.2.2.1.length : Int).toNat (0 : Int)).length : Int)), []), (35, .one (.val I x18.1), [])], [.arr 3 I x18.2], []⟩
def go_impl_farPainting_L1_G (k : Nat) (a0 : (Int × (Int × ((List Int) × Unit)))) (a1 : (Int × (Int × Unit))) (r1 : ((Option ((Int × (Int × ((List Int) × Unit))) × ((Int × (Int × Unit)) × ((List Int) × ((List (List Int)) × Unit))))) × (Bool × Unit))) (r2 : (List (List Int))) (x12 : (Int)) (rec13 : (Int) → Option ((List Int) × (Int × (Bool × Unit)))) (rec19 : (Int × (List Int)) → Option ((List Int) × (Int × (Bool × Unit)))) (x18 : (Int × (List Int))) : Option ((List Int) × (Int × (Bool × Unit))) :=
  if (decide (x18.1 < ((List.replicate ((r1.1.getD (((0 : Int), ((0 : Int), ([], ()))), (((0 : Int), ((0 : Int), ())), ([], ([], ()))))).2.2.2.1.length : Int).toNat (0 : Int)).length : Int))) = true then
    if (inb x18.1 x18.2.length) = true then
    rec19 ((IntKind.i64.wrap (x18.1 + (1 : Int))), (x18.2.set x18.1.toNat (-1 : Int)))
    else none
  else
    (go_impl_graph_paint k r1.1 r2 x18.2 (0 : Int) x12).bind fun r20 =>
    if r20.1 = true then
      some (r20.2.2.2.1, (x12, (true, ())))
    else
      rec13 (IntKind.i64.wrap (x12 + (1 : Int)))
def go_impl_farPainting_L1 (k : Nat) (a0 : (Int × (Int × ((List Int) × Unit)))) (a1 : (Int × (Int × Unit))) (rec13 : (Int) → Option ((List Int) × (Int × (Bool × Unit)))) (r1 : ((Option ((Int × (Int × ((List Int) × Unit))) × ((Int × (Int × Unit)) × ((List Int) × ((List (List Int)) × Unit))))) × (Bool × Unit))) (r2 : (List (List Int))) (x12 : (Int)) : (Int × (List Int)) → Option ((List Int) × (Int × (Bool × Unit))) :=
  iter k fun rec19 x18 => go_impl_farPainting_L1_G k a0 a1 r1 r2 x12 rec13 rec19 x18
theorem go_impl_farPainting_L1_t (k : Nat) (a0 : (Int × (Int × ((List Int) × Unit)))) (a1 : (Int × (Int × Unit))) (s0 : St → Option ((List Int) × (Int × (Bool × Unit)))) (r1 : ((Option ((Int × (Int × ((List Int) × Unit))) × ((Int × (Int × Unit)) × ((List Int) × ((List (List Int)) × Unit))))) × (Bool × Unit))) (r2 : (List (List Int))) (x12 : (Int)) (x : (Int × (List Int))) :
    iter k (loopAt (go_impl_farPainting_C k) (bodyOf Go.Proofs.Try.f51) [1, 1, 1, 1, 0, 1, 0, 0, 1, 0, 0, 1, 0, 1, 0] [s0] (finPure (go_impl_farPainting_C k) Go.Proofs.Try.f51.results.toList true (.pr (.own 3 I) (.pr (.val I) (.pr (.val .bool) .un))))) (go_impl_farPainting_L1_E a0 a1 r1 r2 x12 x) = go_impl_farPainting_L1 k a0 a1 (fun y => s0 (go_impl_farPainting_L0_E a0 a1 r1 r2 y)) r1 r2 x12 x := by
  refine iter_tie (G := fun rec x => go_impl_farPainting_L1_G k a0 a1 r1 r2 x12 (fun y => s0 (go_impl_farPainting_L0_E a0 a1 r1 r2 y)) rec x) (go_impl_farPainting_L1_E a0 a1 r1 r2 x12) (fun rec x => ?_) k x
  have h : loopAt (go_impl_farPainting_C k) (bodyOf Go.Proofs.Try.f51) [1, 1, 1, 1, 0, 1, 0, 0, 1, 0, 0, 1, 0, 1, 0] [s0] (finPure (go_impl_farPainting_C k) Go.Proofs.Try.f51.results.toList true (.pr (.own 3 I) (.pr (.val I) (.pr (.val .bool) .un)))) rec (go_impl_farPainting_L1_E a0 a1 r1 r2 x12 x) = go_impl_farPainting_L1_G k a0 a1 r1 r2 x12 (fun y => s0 (go_impl_farPainting_L0_E a0 a1 r1 r2 y)) (fun y => rec (go_impl_farPainting_L1_E a0 a1 r1 r2 x12 y)) x := by kernel_rfl
  rw [h]
def go_impl_farPainting_L0_G (k : Nat) (a0 : (Int × (Int × ((List Int) × Unit)))) (a1 : (Int × (Int × Unit))) (r1 : ((Option ((Int × (Int × ((List Int) × Unit))) × ((Int × (Int × Unit)) × ((List Int) × ((List (List Int)) × Unit))))) × (Bool × Unit))) (r2 : (List (List Int))) (l_1 : (Int) → (Int × (List Int)) → Option ((List Int) × (Int × (Bool × Unit)))) (rec13 : (Int) → Option ((List Int) × (Int × (Bool × Unit)))) (x12 : (Int)) : Option ((List Int) × (Int × (Bool × Unit))) :=
  if (decide (x12 ≤ (9 : Int))) = true then
    if r1.1.isSome = true then
    if (decide (0 ≤ ((r1.1.getD (((0 : Int), ((0 : Int), ([], ()))), (((0 : Int), ((0 : Int), ())), ([], ([], ()))))).2.2.2.1.length : Int) ∧ ((r1.1.getD (((0 : Int), ((0 : Int), ([], ()))), (((0 : Int), ((0 : Int), ())), ([], ([], ()))))).2.2.2.1.length : Int) ≤ (LIM : Int))) = true then
    l_1 x12 ((0 : Int), (List.replicate ((r1.1.getD (((0 : Int), ((0 : Int), ([], ()))), (((0 : Int), ((0 : Int), ())), ([], ([], ()))))).2.2.2.1.length : Int).toNat (0 : Int)))
    else none
    else none
  else
    some ([], ((0 : Int), (false, ())))
def go_impl_farPainting_L0 (k : Nat) (a0 : (Int × (Int × ((List Int) × Unit)))) (a1 : (Int × (Int × Unit))) (r1 : ((Option ((Int × (Int × ((List Int) × Unit))) × ((Int × (Int × Unit)) × ((List Int) × ((List (List Int)) × Unit))))) × (Bool × Unit))) (r2 : (List (List Int))) : (Int) → Option ((List Int) × (Int × (Bool × Unit))) :=
  iter k fun rec13 x12 => go_impl_farPainting_L0_G k a0 a1 r1 r2 (fun c0 y => go_impl_farPainting_L1 k a0 a1 rec13 r1 r2 c0 y) rec13 x12
theorem go_impl_farPainting_L0_t (k : Nat) (a0 : (Int × (Int × ((List Int) × Unit)))) (a1 : (Int × (Int × Unit))) (r1 : ((Option ((Int × (Int × ((List Int) × Unit))) × ((Int × (Int × Unit)) × ((List Int) × ((List (List Int)) × Unit))))) × (Bool × Unit))) (r2 : (List (List Int))) (x : (Int)) :
    iter k (loopAt (go_impl_farPainting_C k) (bodyOf Go.Proofs.Try.f51) [1, 1, 1, 1, 0, 1, 0] [] (finPure (go_impl_farPainting_C k) Go.Proofs.Try.f51.results.toList true (.pr (.own 3 I) (.pr (.val I) (.pr (.val .bool) .un))))) (go_impl_farPainting_L0_E a0 a1 r1 r2 x) = go_impl_farPainting_L0 k a0 a1 r1 r2 x := by
  refine iter_tie (G := fun rec x => go_impl_farPainting_L0_G k a0 a1 r1 r2 (fun c0 y => go_impl_farPainting_L1 k a0 a1 rec r1 r2 c0 y) rec x) (go_impl_farPainting_L0_E a0 a1 r1 r2) (fun rec x => ?_) k x
  have h : loopAt (go_impl_farPainting_C k) (bodyOf Go.Proofs.Try.f51) [1, 1, 1, 1, 0, 1, 0] [] (finPure (go_impl_farPainting_C k) Go.Proofs.Try.f51.results.toList true (.pr (.own 3 I) (.pr (.val I) (.pr (.val .bool) .un)))) rec (go_impl_farPainting_L0_E a0 a1 r1 r2 x) = go_impl_farPainting_L0_G k a0 a1 r1 r2 (fun c0 y => iter k (loopAt (go_impl_farPainting_C k) (bodyOf Go.Proofs.Try.f51) [1, 1, 1, 1, 0, 1, 0, 0, 1, 0, 0, 1, 0, 1, 0] [rec] (finPure (go_impl_farPainting_C k) Go.Proofs.Try.f51.results.toList true (.pr (.own 3 I) (.pr (.val I) (.pr (.val .bool) .un))))) (go_impl_farPainting_L1_E a0 a1 r1 r2 c0 y)) (fun y => rec (go_impl_farPainting_L0_E a0 a1 r1 r2 y)) x := by kernel_rfl
  have h0 : (fun c0 y => iter k (loopAt (go_impl_farPainting_C k) (bodyOf Go.Proofs.Try.f51) [1, 1, 1, 1, 0, 1, 0, 0, 1, 0, 0, 1, 0, 1, 0] [rec] (finPure (go_impl_farPainting_C k) Go.Proofs.Try.f51.results.toList true (.pr (.own 3 I) (.pr (.val I) (.pr (.val .bool) .un))))) (go_impl_farPainting_L1_E a0 a1 r1 r2 c0 y)) = (fun c0 y => go_impl_farPainting_L1 k a0 a1 (fun y => rec (go_impl_farPainting_L0_E a0 a1 r1 r2 y)) r1 r2 c0 y) := by
    funext c0 y
    exact go_impl_farPainting_L1_t k a0 a1 rec r1 r2 c0 y
  rw [h, h0]
def go_impl_farPainting_T (k : Nat) (a0 : (Int × (Int × ((List Int) × Unit)))) (a1 : (Int × (Int × Unit))) (l_0 : ((Option ((Int × (Int × ((List Int) × Unit))) × ((Int × (Int × Unit)) × ((List Int) × ((List (List Int)) × Unit))))) × (Bool × Unit)) → (List (List Int)) → (Int) → Option ((List Int) × (Int × (Bool × Unit)))) : Option ((List Int) × (Int × (Bool × Unit))) :=
  (go_impl_tourGraph k a0 a1 (16 : Int)).bind fun r1 =>
  if (!r1.2.1) = true then
    some ([], ((0 : Int), (false, ())))
  else
    (go_impl_graph_unlike k r1.1).bind fun r2 =>
    l_0 r1 r2 (1 : Int)
def go_impl_farPainting (k : Nat) (a0 : (Int × (Int × ((List Int) × Unit)))) (a1 : (Int × (Int × Unit))) : Option ((List Int) × (Int × (Bool × Unit))) :=
  go_impl_farPainting_T k a0 a1 (fun r1 r2 y => go_impl_farPainting_L0 k a0 a1 r1 r2 y)
theorem go_impl_farPainting_t (k : Nat) (a0 : (Int × (Int × ((List Int) × Unit)))) (a1 : (Int × (Int × Unit))) : runPure (go_impl_farPainting_C k) (bodyOf Go.Proofs.Try.f51) Go.Proofs.Try.f51.results.toList true (.pr (.val (.pair I (.pair I (.pair (.sl I) .unit)))) (.pr (.val (.pair I (.pair I .unit))) .un)) (.pr (.own 3 I) (.pr (.val I) (.pr (.val .bool) .un))) (a0, a1, ()) = go_impl_farPainting k a0 a1 := by
  have h : runPure (go_impl_farPainting_C k) (bodyOf Go.Proofs.Try.f51) Go.Proofs.Try.f51.results.toList true (.pr (.val (.pair I (.pair I (.pair (.sl I) .unit)))) (.pr (.val (.pair I (.pair I .unit))) .un)) (.pr (.own 3 I) (.pr (.val I) (.pr (.val .bool) .un))) (a0, a1, ()) = go_impl_farPainting_T k a0 a1 (fun r1 r2 y => iter k (loopAt (go_impl_farPainting_C k) (bodyOf Go.Proofs.Try.f51) [1, 1, 1, 1, 0, 1, 0] [] (finPure (go_impl_farPainting_C k) Go.Proofs.Try.f51.results.toList true (.pr (.own 3 I) (.pr (.val I) (.pr (.val .bool) .un))))) (go_impl_farPainting_L0_E a0 a1 r1 r2 y)) := by kernel_rfl
  have h0 : (fun r1 r2 y => iter k (loopAt (go_impl_farPainting_C k) (bodyOf Go.Proofs.Try.f51) [1, 1, 1, 1, 0, 1, 0] [] (finPure (go_impl_farPainting_C k) Go.Proofs.Try.f51.results.toList true (.pr (.own 3 I) (.pr (.val I) (.pr (.val .bool) .un))))) (go_impl_farPainting_L0_E a0 a1 r1 r2 y)) = (fun r1 r2 y => go_impl_farPainting_L0 k a0 a1 r1 r2 y) := by
    funext r1 r2 y
    exact go_impl_farPainting_L0_t k a0 a1 r1 r2 y
  rw [h, h0]
  rfl
def go_impl_farPainting_S (k : Nat) : Spec := ⟨(.pr (.val (.pair I (.pair I (.pair (.sl I) .unit)))) (.pr (.val (.pair I (.pair I .unit))) .un)), (.pr (.own 3 I) (.pr (.val I) (.pr (.val .bool) .un))), true, .inl fun x => go_impl_farPainting k x.1 x.2.1⟩
theorem go_impl_farPainting_F (k : Nat) : Fits Go.Proofs.Try.prog (go_impl_farPainting_C k) 51 Go.Proofs.Try.f51 (bodyOf Go.Proofs.Try.f51) (.pr (.val (.pair I (.pair I (.pair (.sl I) .unit)))) (.pr (.val (.pair I (.pair I .unit))) .un)) (.pr (.own 3 I) (.pr (.val I) (.pr (.val .bool) .un))) true :=
  ⟨th0, mixed0, by kernel_rfl, Go.Proofs.Try.func51, rfl, by kernel_rfl, rfl, rfl, rfl, rfl, rfl, rfl⟩
theorem go_impl_farPainting_M (k : Nat) : Meets Go.Proofs.Try.prog 51 (go_impl_farPainting_S k) :=
  meets_pure (go_impl_farPainting_F k) (sigs_all (l := [(66, go_impl_tourGraph_S k), (77, go_impl_graph_unlike_S k), (78, go_impl_graph_paint_S k)]) rfl ⟨go_impl_tourGraph_M k, ⟨go_impl_graph_unlike_M k, ⟨go_impl_graph_paint_M k, trivial⟩⟩⟩) rfl fun x => go_impl_farPainting_t k x.1 x.2.1

/-! ### impl.FirstFar -/
def go_impl_FirstFar_C (k : Nat) : Ctx := { th := TH, se := SE, sg := [(51, go_impl_farPainting_S k)], mu := [12], an := [], dr := [], pre := [], d2 := [], m := 0, fx := [], n := 18, k := k }
def go_impl_FirstFar (k : Nat) (a0 : (Int × (Int × ((List Int) × Unit)))) (a1 : (Int × (Int × Unit))) : Option ((List Int) × (Bool × Unit)) :=
  (go_impl_farPainting k a0 a1).bind fun r1 =>
  some (r1.1, (r1.2.2.1, ()))
theorem go_impl_FirstFar_t (k : Nat) (a0 : (Int × (Int × ((List Int) × Unit)))) (a1 : (Int × (Int × Unit))) : runPure (go_impl_FirstFar_C k) (bodyOf Go.Proofs.Try.f19) Go.Proofs.Try.f19.results.toList true (.pr (.val (.pair I (.pair I (.pair (.sl I) .unit)))) (.pr (.val (.pair I (.pair I .unit))) .un)) (.pr (.own 3 I) (.pr (.val .bool) .un)) (a0, a1, ()) = go_impl_FirstFar k a0 a1 := by kernel_rfl
def go_impl_FirstFar_S (k : Nat) : Spec := ⟨(.pr (.val (.pair I (.pair I (.pair (.sl I) .unit)))) (.pr (.val (.pair I (.pair I .unit))) .un)), (.pr (.own 3 I) (.pr (.val .bool) .un)), true, .inl fun x => go_impl_FirstFar k x.1 x.2.1⟩
theorem go_impl_FirstFar_F (k : Nat) : Fits Go.Proofs.Try.prog (go_impl_FirstFar_C k) 19 Go.Proofs.Try.f19 (bodyOf Go.Proofs.Try.f19) (.pr (.val (.pair I (.pair I (.pair (.sl I) .unit)))) (.pr (.val (.pair I (.pair I .unit))) .un)) (.pr (.own 3 I) (.pr (.val .bool) .un)) true :=
  ⟨th0, mixed0, by kernel_rfl, Go.Proofs.Try.func19, rfl, by kernel_rfl, rfl, rfl, rfl, rfl, rfl, rfl⟩
theorem go_impl_FirstFar_M (k : Nat) : Meets Go.Proofs.Try.prog 19 (go_impl_FirstFar_S k) :=
  meets_pure (go_impl_FirstFar_F k) (sigs_all (l := [(51, go_impl_farPainting_S k)]) rfl ⟨go_impl_farPainting_M k, trivial⟩) rfl fun x => go_impl_FirstFar_t k x.1 x.2.1

/-! ### laws.FnExactFirstFar -/
def go_laws_FnExactFirstFar_C (k : Nat) : Ctx := { th := TH, se := SE, sg := [(15, go_laws_szBoard_S k), (17, go_laws_toBoard_S k), (18, go_laws_toLeaper_S k), (16, go_spec_FirstFar_S k), (19, go_impl_FirstFar_S k), (20, go_laws_eqIntS_S k), (21, go_laws_eqBoard_S k), (22, go_laws_markBoard_S k), (23, go_laws_markIntS_S k), (24, go_laws_heldIntS_S k)], mu := [30, 35], an := [], dr := [(5, 9), (7, 3), (10, 3), (24, 9)], pre := [], d2 := [7], m := 0, fx := [], n := 104, k := k }
def go_laws_FnExactFirstFar (k : Nat) (a0 : (Int × (Int × ((List Int) × Unit)))) (a1 : (Int × (Int × Unit))) : Option Bool :=
  (go_laws_szBoard k a0 (1048576 : Int)).bind fun r1 =>
  if (decide (r1 < (0 : Int))) = true then
    some true
  else
    (go_laws_toBoard k a0).bind fun r2 =>
    (go_laws_toLeaper k a1).bind fun r3 =>
    (go_spec_FirstFar k (r2.1, (r2.2.1, (r2.2.2.1, ()))) r3).bind fun r4 =>
    (go_laws_toBoard k a0).bind fun r5 =>
    (go_laws_toLeaper k a1).bind fun r6 =>
    (go_impl_FirstFar k (r5.1, (r5.2.1, (r5.2.2.1, ()))) r6).bind fun r7 =>
    (go_laws_eqIntS k r7.1 r4.1).bind fun r8 =>
    if ((!r8) || (r7.2.1 != r4.2.1)) = true then
      some false
    else
      (go_laws_toBoard k a0).bind fun r9 =>
      (go_laws_eqBoard k (r5.1, (r5.2.1, (r5.2.2.1, ()))) (r9.1, (r9.2.1, (r9.2.2.1, ())))).bind fun r10 =>
      if (!r10) = true then
        some false
      else
        (go_laws_markBoard k (r5.1, (r5.2.1, (r5.2.2.1, ()))) (1 : Int)).bind fun r11 =>
        (if (!(decide (r11.1 < (0 : Int)))) = true then go_laws_eqIntS k r7.1 r4.1 else some false).bind fun r12 =>
        if (((decide (r11.1 < (0 : Int))) || (!r12)) || (r7.2.1 != r4.2.1)) = true then
          some false
        else
          (go_laws_markIntS k r7.1 (1 : Int)).bind fun r13 =>
          (go_laws_heldIntS k r13.2.1 (1 : Int)).bind fun r14 =>
          if (decide (r14 < (0 : Int))) = true then
            some false
          else
            if (!decide (r14 = r13.1)) = true then
              some false
            else
              (go_laws_toBoard k a0).bind fun r15 =>
              (go_laws_toLeaper k a1).bind fun r16 =>
              (go_impl_FirstFar k (r15.1, (r15.2.1, (r15.2.2.1, ()))) r16).bind fun r17 =>
              (go_laws_eqIntS k r17.1 r4.1).bind fun r18 =>
              if ((!r18) || (r17.2.1 != r4.2.1)) = true then
                some false
              else
                (go_laws_heldIntS k r13.2.1 (1 : Int)).bind fun r19 =>
                if (decide (r19 < (0 : Int))) = true then
                  some false
                else
                  if (!decide (r19 = r13.1)) = true then
                    some false
                  else
                    some true
theorem go_laws_FnExactFirstFar_t (k : Nat) (a0 : (Int × (Int × ((List Int) × Unit)))) (a1 : (Int × (Int × Unit))) : runPure (go_laws_FnExactFirstFar_C k) (bodyOf Go.Proofs.Try.f3) Go.Proofs.Try.f3.results.toList false (.pr (.val (.pair I (.pair I (.pair (.sl I) .unit)))) (.pr (.val (.pair I (.pair I .unit))) .un)) (.val .bool) (a0, a1, ()) = go_laws_FnExactFirstFar k a0 a1 := by kernel_rfl
def go_laws_FnExactFirstFar_S (k : Nat) : Spec := ⟨(.pr (.val (.pair I (.pair I (.pair (.sl I) .unit)))) (.pr (.val (.pair I (.pair I .unit))) .un)), (.val .bool), false, .inl fun x => go_laws_FnExactFirstFar k x.1 x.2.1⟩
theorem go_laws_FnExactFirstFar_F (k : Nat) : Fits Go.Proofs.Try.prog (go_laws_FnExactFirstFar_C k) 3 Go.Proofs.Try.f3 (bodyOf Go.Proofs.Try.f3) (.pr (.val (.pair I (.pair I (.pair (.sl I) .unit)))) (.pr (.val (.pair I (.pair I .unit))) .un)) (.val .bool) false :=
  ⟨th0, mixed0, by kernel_rfl, Go.Proofs.Try.func3, rfl, by kernel_rfl, rfl, rfl, rfl, rfl, rfl, rfl⟩
theorem go_laws_FnExactFirstFar_M (k : Nat) : Meets Go.Proofs.Try.prog 3 (go_laws_FnExactFirstFar_S k) :=
  meets_pure (go_laws_FnExactFirstFar_F k) (sigs_all (l := [(15, go_laws_szBoard_S k), (17, go_laws_toBoard_S k), (18, go_laws_toLeaper_S k), (16, go_spec_FirstFar_S k), (19, go_impl_FirstFar_S k), (20, go_laws_eqIntS_S k), (21, go_laws_eqBoard_S k), (22, go_laws_markBoard_S k), (23, go_laws_markIntS_S k), (24, go_laws_heldIntS_S k)]) rfl ⟨go_laws_szBoard_M k, ⟨go_laws_toBoard_M k, ⟨go_laws_toLeaper_M k, ⟨go_spec_FirstFar_M k, ⟨go_impl_FirstFar_M k, ⟨go_laws_eqIntS_M k, ⟨go_laws_eqBoard_M k, ⟨go_laws_markBoard_M k, ⟨go_laws_markIntS_M k, ⟨go_laws_heldIntS_M k, trivial⟩⟩⟩⟩⟩⟩⟩⟩⟩⟩) rfl fun x => go_laws_FnExactFirstFar_t k x.1 x.2.1

end Go.Lg
