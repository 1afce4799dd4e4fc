/-
  Printed by program: what the functions of the code compute (go_laws_FnExactMiddlesOf).
-/
import Derived.Test.YtjnpogjniihmcaaGenB
set_option linter.unusedVariables false
namespace Go.Lg
open Go.RowKit
/-! ### spec.faParts -/
def go_spec_faParts_C (k : Nat) : Ctx := { th := TH, se := SE, sg := [(54, go_spec_boCells_S k), (56, go_spec_faFrom_S k)], mu := [], an := [(4, [(2, false), (3, false), (5, false), (6, true), (19, false), (20, false), (21, false)]), (9, [(2, false), (3, false), (5, false), (6, false), (9, true), (19, false), (20, false), (21, false), (32, false), (33, false), (34, false)])], dr := [], pre := [], d2 := [], m := 0, fx := [], n := 55, k := k }
def go_spec_faParts_L0_E (a0 : (Int × (Int × ((List Int) × Unit)))) (a1 : (Int × (Int × Unit))) (r1 : (List Int)) (x41 : (Int × (List Bool) × (List (List Int)))) : St :=
  ⟨[(2, .one (.val (.pt (.pair I (.pair I (.pair (.sl I) .unit)))) (some a0)), []), (3, .one (.val (.pt (.pair I (.pair I .unit))) (some a1)), []), (5, .one (.own 0), []), (6, .one (.own 1), []), (19, .one (.val (.sl I) r1), []), (20, .one (.val I (r1.length : Int)), []), (21, .one (.val I x41.1), [])], [.arr 4 .bool x41.2.1, .arr 22 (.sl I) x41.2.2], []⟩
def go_spec_faParts_L1_E (a0 : (Int × (Int × ((List Int) × Unit)))) (a1 : (Int × (Int × Unit))) (r1 : (List Int)) (x41 : (Int × (List Bool) × (List (List Int)))) (r43 : (List Int)) (x50 : (Int × (List Bool) × (List Int))) : St :=
  ⟨[(2, .one (.val (.pt (.pair I (.pair I (.pair (.sl I) .unit)))) (some a0)), []), (3, .one (.val (.pt (.pair I (.pair I .unit))) (some a1)), []), (5, .one (.own 0), []), (6, .one (.own 1), []), (9, .one (.own 2), []), (19, .one (.val (.sl I) r1), []), (20, .one (.val I (r1.length : Int)), []), (21, .one (.val I x41.1), []), (32, .one (.val (.sl I) r43), []), (33, .one (.val I (r43.length : Int)), []), (34, .one (.val I x50.1), [])], [.arr 4 .bool x50.2.1, .arr 22 (.sl I) x41.2.2, .arr 3 I x50.2.2], []⟩
def go_spec_faParts_L1_G (k : Nat) (a0 : (Int × (Int × ((List Int) × Unit)))) (a1 : (Int × (Int × Unit))) (r1 : (List Int)) (x41 : (Int × (List Bool) × (List (List Int)))) (r43 : (List Int)) (rec42 : (Int × (List Bool) × (List (List Int))) → Option (List (List Int))) (rec51 : (Int × (List Bool) × (List Int)) → Option (List (List Int))) (x50 : (Int × (List Bool) × (List Int))) : Option (List (List Int)) :=
  if (decide (x50.1 < (r43.length : Int))) = true then
    if (inb x50.1 r43.length) = true then
    if (decide ((0 : Int) ≤ (r43.getD x50.1.toNat (0 : Int)))) = true then
      if (decide (x50.2.2.length + [x50.1].length ≤ LIM)) = true then
      if (inb x50.1 x50.2.1.length) = true then
      rec51 ((IntKind.i64.wrap (x50.1 + (1 : Int))), (x50.2.1.set x50.1.toNat true), (x50.2.2 ++ [x50.1]))
      else none
      else none
    else
      rec51 ((IntKind.i64.wrap (x50.1 + (1 : Int))), x50.2.1, x50.2.2)
    else none
  else
    if (decide (x41.2.2.length + [x50.2.2].length ≤ LIM)) = true then
    rec42 ((IntKind.i64.wrap (x41.1 + (1 : Int))), x50.2.1, (x41.2.2 ++ [x50.2.2]))
    else none
def go_spec_faParts_L1 (k : Nat) (a0 : (Int × (Int × ((List Int) × Unit)))) (a1 : (Int × (Int × Unit))) (rec42 : (Int × (List Bool) × (List (List Int))) → Option (List (List Int))) (r1 : (List Int)) (x41 : (Int × (List Bool) × (List (List Int)))) (r43 : (List Int)) : (Int × (List Bool) × (List Int)) → Option (List (List Int)) :=
  iter k fun rec51 x50 => go_spec_faParts_L1_G k a0 a1 r1 x41 r43 rec42 rec51 x50
theorem go_spec_faParts_L1_t (k : Nat) (a0 : (Int × (Int × ((List Int) × Unit)))) (a1 : (Int × (Int × Unit))) (s0 : St → Option (List (List Int))) (r1 : (List Int)) (x41 : (Int × (List Bool) × (List (List Int)))) (r43 : (List Int)) (x : (Int × (List Bool) × (List Int))) :
    iter k (loopAt (go_spec_faParts_C k) (bodyOf Go.Proofs.Try.f53) [1, 1, 1, 0, 1, 0, 0, 1, 1, 0, 0, 1, 1, 1, 0, 1, 0] [s0] (finPure (go_spec_faParts_C k) Go.Proofs.Try.f53.results.toList false (.val (.sl (.sl I))))) (go_spec_faParts_L1_E a0 a1 r1 x41 r43 x) = go_spec_faParts_L1 k a0 a1 (fun y => s0 (go_spec_faParts_L0_E a0 a1 r1 y)) r1 x41 r43 x := by
  refine iter_tie (G := fun rec x => go_spec_faParts_L1_G k a0 a1 r1 x41 r43 (fun y => s0 (go_spec_faParts_L0_E a0 a1 r1 y)) rec x) (go_spec_faParts_L1_E a0 a1 r1 x41 r43) (fun rec x => ?_) k x
  have h : loopAt (go_spec_faParts_C k) (bodyOf Go.Proofs.Try.f53) [1, 1, 1, 0, 1, 0, 0, 1, 1, 0, 0, 1, 1, 1, 0, 1, 0] [s0] (finPure (go_spec_faParts_C k) Go.Proofs.Try.f53.results.toList false (.val (.sl (.sl I)))) rec (go_spec_faParts_L1_E a0 a1 r1 x41 r43 x) = go_spec_faParts_L1_G k a0 a1 r1 x41 r43 (fun y => s0 (go_spec_faParts_L0_E a0 a1 r1 y)) (fun y => rec (go_spec_faParts_L1_E a0 a1 r1 x41 r43 y)) x := by kernel_rfl
  rw [h]
def go_spec_faParts_L0_G (k : Nat) (a0 : (Int × (Int × ((List Int) × Unit)))) (a1 : (Int × (Int × Unit))) (r1 : (List Int)) (l_1 : (Int × (List Bool) × (List (List Int))) → (List Int) → (Int × (List Bool) × (List Int)) → Option (List (List Int))) (rec42 : (Int × (List Bool) × (List (List Int))) → Option (List (List Int))) (x41 : (Int × (List Bool) × (List (List Int)))) : Option (List (List Int)) :=
  if (decide (x41.1 < (r1.length : Int))) = true then
    if (inb x41.1 r1.length) = true then
    if (inb (r1.getD x41.1.toNat (0 : Int)) x41.2.1.length) = true then
    if (x41.2.1.getD (r1.getD x41.1.toNat (0 : Int)).toNat false) = true then
      rec42 ((IntKind.i64.wrap (x41.1 + (1 : Int))), x41.2.1, x41.2.2)
    else
      (go_spec_faFrom k a0 a1 (r1.getD x41.1.toNat (0 : Int))).bind fun r43 =>
      l_1 x41 r43 ((0 : Int), x41.2.1, [])
    else none
    else none
  else
    some x41.2.2
def go_spec_faParts_L0 (k : Nat) (a0 : (Int × (Int × ((List Int) × Unit)))) (a1 : (Int × (Int × Unit))) (r1 : (List Int)) : (Int × (List Bool) × (List (List Int))) → Option (List (List Int)) :=
  iter k fun rec42 x41 => go_spec_faParts_L0_G k a0 a1 r1 (fun c0 c1 y => go_spec_faParts_L1 k a0 a1 rec42 r1 c0 c1 y) rec42 x41
theorem go_spec_faParts_L0_t (k : Nat) (a0 : (Int × (Int × ((List Int) × Unit)))) (a1 : (Int × (Int × Unit))) (r1 : (List Int)) (x : (Int × (List Bool) × (List (List Int)))) :
    iter k (loopAt (go_spec_faParts_C k) (bodyOf Go.Proofs.Try.f53) [1, 1, 1, 0, 1, 0] [] (finPure (go_spec_faParts_C k) Go.Proofs.Try.f53.results.toList false (.val (.sl (.sl I))))) (go_spec_faParts_L0_E a0 a1 r1 x) = go_spec_faParts_L0 k a0 a1 r1 x := by
  refine iter_tie (G := fun rec x => go_spec_faParts_L0_G k a0 a1 r1 (fun c0 c1 y => go_spec_faParts_L1 k a0 a1 rec r1 c0 c1 y) rec x) (go_spec_faParts_L0_E a0 a1 r1) (fun rec x => ?_) k x
  have h : loopAt (go_spec_faParts_C k) (bodyOf Go.Proofs.Try.f53) [1, 1, 1, 0, 1, 0] [] (finPure (go_spec_faParts_C k) Go.Proofs.Try.f53.results.toList false (.val (.sl (.sl I)))) rec (go_spec_faParts_L0_E a0 a1 r1 x) = go_spec_faParts_L0_G k a0 a1 r1 (fun c0 c1 y => iter k (loopAt (go_spec_faParts_C k) (bodyOf Go.Proofs.Try.f53) [1, 1, 1, 0, 1, 0, 0, 1, 1, 0, 0, 1, 1, 1, 0, 1, 0] [rec] (finPure (go_spec_faParts_C k) Go.Proofs.Try.f53.results.toList false (.val (.sl (.sl I))))) (go_spec_faParts_L1_E a0 a1 r1 c0 c1 y)) (fun y => rec (go_spec_faParts_L0_E a0 a1 r1 y)) x := by kernel_rfl
  have h0 : (fun c0 c1 y => iter k (loopAt (go_spec_faParts_C k) (bodyOf Go.Proofs.Try.f53) [1, 1, 1, 0, 1, 0, 0, 1, 1, 0, 0, 1, 1, 1, 0, 1, 0] [rec] (finPure (go_spec_faParts_C k) Go.Proofs.Try.f53.results.toList false (.val (.sl (.sl I))))) (go_spec_faParts_L1_E a0 a1 r1 c0 c1 y)) = (fun c0 c1 y => go_spec_faParts_L1 k a0 a1 (fun y => rec (go_spec_faParts_L0_E a0 a1 r1 y)) r1 c0 c1 y) := by
    funext c0 c1 y
    exact go_spec_faParts_L1_t k a0 a1 rec r1 c0 c1 y
  rw [h, h0]
def go_spec_faParts_T (k : Nat) (a0 : (Int × (Int × ((List Int) × Unit)))) (a1 : (Int × (Int × Unit))) (l_0 : (List Int) → (Int × (List Bool) × (List (List Int))) → Option (List (List Int))) : Option (List (List Int)) :=
  if (decide (0 ≤ (IntKind.i64.wrap (a0.1 * a0.2.1)) ∧ (IntKind.i64.wrap (a0.1 * a0.2.1)) ≤ (LIM : Int))) = true then
  (go_spec_boCells k a0).bind fun r1 =>
  l_0 r1 ((0 : Int), (List.replicate (IntKind.i64.wrap (a0.1 * a0.2.1)).toNat false), [])
  else none
def go_spec_faParts (k : Nat) (a0 : (Int × (Int × ((List Int) × Unit)))) (a1 : (Int × (Int × Unit))) : Option (List (List Int)) :=
  go_spec_faParts_T k a0 a1 (fun r1 y => go_spec_faParts_L0 k a0 a1 r1 y)
theorem go_spec_faParts_t (k : Nat) (a0 : (Int × (Int × ((List Int) × Unit)))) (a1 : (Int × (Int × Unit))) : runPure (go_spec_faParts_C k) (bodyOf Go.Proofs.Try.f53) Go.Proofs.Try.f53.results.toList false (.pr (.val (.pair I (.pair I (.pair (.sl I) .unit)))) (.pr (.val (.pair I (.pair I .unit))) .un)) (.val (.sl (.sl I))) (a0, a1, ()) = go_spec_faParts k a0 a1 := by
  have h : runPure (go_spec_faParts_C k) (bodyOf Go.Proofs.Try.f53) Go.Proofs.Try.f53.results.toList false (.pr (.val (.pair I (.pair I (.pair (.sl I) .unit)))) (.pr (.val (.pair I (.pair I .unit))) .un)) (.val (.sl (.sl I))) (a0, a1, ()) = go_spec_faParts_T k a0 a1 (fun r1 y => iter k (loopAt (go_spec_faParts_C k) (bodyOf Go.Proofs.Try.f53) [1, 1, 1, 0, 1, 0] [] (finPure (go_spec_faParts_C k) Go.Proofs.Try.f53.results.toList false (.val (.sl (.sl I))))) (go_spec_faParts_L0_E a0 a1 r1 y)) := by kernel_rfl
  have h0 : (fun r1 y => iter k (loopAt (go_spec_faParts_C k) (bodyOf Go.Proofs.Try.f53) [1, 1, 1, 0, 1, 0] [] (finPure (go_spec_faParts_C k) Go.Proofs.Try.f53.results.toList false (.val (.sl (.sl I))))) (go_spec_faParts_L0_E a0 a1 r1 y)) = (fun r1 y => go_spec_faParts_L0 k a0 a1 r1 y) := by
    funext r1 y
    exact go_spec_faParts_L0_t k a0 a1 r1 y
  rw [h, h0]
  rfl
def go_spec_faParts_S (k : Nat) : Spec := ⟨(.pr (.val (.pair I (.pair I (.pair (.sl I) .unit)))) (.pr (.val (.pair I (.pair I .unit))) .un)), (.val (.sl (.sl I))), false, .inl fun x => go_spec_faParts k x.1 x.2.1⟩
theorem go_spec_faParts_F (k : Nat) : Fits Go.Proofs.Try.prog (go_spec_faParts_C k) 53 Go.Proofs.Try.f53 (bodyOf Go.Proofs.Try.f53) (.pr (.val (.pair I (.pair I (.pair (.sl I) .unit)))) (.pr (.val (.pair I (.pair I .unit))) .un)) (.val (.sl (.sl I))) false :=
  ⟨th0, mixed0, by kernel_rfl, Go.Proofs.Try.func53, rfl, by kernel_rfl, rfl, rfl, rfl, rfl, rfl, rfl⟩
theorem go_spec_faParts_M (k : Nat) : Meets Go.Proofs.Try.prog 53 (go_spec_faParts_S k) :=
  meets_pure (go_spec_faParts_F k) (sigs_all (l := [(54, go_spec_boCells_S k), (56, go_spec_faFrom_S k)]) rfl ⟨go_spec_boCells_M k, ⟨go_spec_faFrom_M k, trivial⟩⟩) rfl fun x => go_spec_faParts_t k x.1 x.2.1

/-! ### spec.faMost -/
def go_spec_faMost_C (k : Nat) : Ctx := { th := TH, se := SE, sg := [], mu := [], an := [(3, [(0, false), (4, false), (7, false), (8, false), (9, false)])], dr := [(8, 6)], pre := [], d2 := [], m := 0, fx := [], n := 35, k := k }
def go_spec_faMost_L0_E (a0 : (List Int)) (x5 : (Int × Int)) : St :=
  ⟨[(0, .one (.val (.sl I) a0), []), (4, .one (.val I x5.1), []), (7, .one (.val (.sl I) a0), []), (8, .one (.val I (a0.length : Int)), []), (9, .one (.val I x5.2), [])], [], []⟩
def go_spec_faMost_L0_G (k : Nat) (a0 : (List Int)) (rec6 : (Int × Int) → Option (Int × (Int × Unit))) (x5 : (Int × Int)) : Option (Int × (Int × Unit)) :=
  if (decide (x5.2 < (a0.length : Int))) = true then
    if (inb x5.2 a0.length) = true then
    if (!((!(decide (x5.1 < (0 : Int)))) && (decide ((0 : Int) ≤ (a0.getD x5.2.toNat (0 : Int))))) || (inb x5.1 a0.length)) = true then
    if ((decide ((0 : Int) ≤ (a0.getD x5.2.toNat (0 : Int)))) && ((decide (x5.1 < (0 : Int))) || (decide ((a0.getD x5.1.toNat (0 : Int)) < (a0.getD x5.2.toNat (0 : Int)))))) = true then
      rec6 (x5.2, (IntKind.i64.wrap (x5.2 + (1 : Int))))
    else
      rec6 (x5.1, (IntKind.i64.wrap (x5.2 + (1 : Int))))
    else none
    else none
  else
    if (inb x5.1 a0.length) = true then
    some (x5.1, ((a0.getD x5.1.toNat (0 : Int)), ()))
    else none
def go_spec_faMost_L0 (k : Nat) (a0 : (List Int)) : (Int × Int) → Option (Int × (Int × Unit)) :=
  iter k fun rec6 x5 => go_spec_faMost_L0_G k a0 rec6 x5
theorem go_spec_faMost_L0_t (k : Nat) (a0 : (List Int)) (x : (Int × Int)) :
    iter k (loopAt (go_spec_faMost_C k) (bodyOf Go.Proofs.Try.f55) [1, 1, 0, 1, 0] [] (finPure (go_spec_faMost_C k) Go.Proofs.Try.f55.results.toList true (.pr (.val I) (.pr (.val I) .un)))) (go_spec_faMost_L0_E a0 x) = go_spec_faMost_L0 k a0 x := by
  refine iter_tie (G := fun rec x => go_spec_faMost_L0_G k a0 rec x) (go_spec_faMost_L0_E a0) (fun rec x => ?_) k x
  have h : loopAt (go_spec_faMost_C k) (bodyOf Go.Proofs.Try.f55) [1, 1, 0, 1, 0] [] (finPure (go_spec_faMost_C k) Go.Proofs.Try.f55.results.toList true (.pr (.val I) (.pr (.val I) .un))) rec (go_spec_faMost_L0_E a0 x) = go_spec_faMost_L0_G k a0 (fun y => rec (go_spec_faMost_L0_E a0 y)) x := by kernel_rfl
  rw [h]
def go_spec_faMost_T (k : Nat) (a0 : (List Int)) (l_0 : (Int × Int) → Option (Int × (Int × Unit))) : Option (Int × (Int × Unit)) :=
  l_0 ((-1 : Int), (0 : Int))
def go_spec_faMost (k : Nat) (a0 : (List Int)) : Option (Int × (Int × Unit)) :=
  go_spec_faMost_T k a0 (fun y => go_spec_faMost_L0 k a0 y)
theorem go_spec_faMost_t (k : Nat) (a0 : (List Int)) : runPure (go_spec_faMost_C k) (bodyOf Go.Proofs.Try.f55) Go.Proofs.Try.f55.results.toList true (.pr (.val (.sl I)) .un) (.pr (.val I) (.pr (.val I) .un)) (a0, ()) = go_spec_faMost k a0 := by
  have h : runPure (go_spec_faMost_C k) (bodyOf Go.Proofs.Try.f55) Go.Proofs.Try.f55.results.toList true (.pr (.val (.sl I)) .un) (.pr (.val I) (.pr (.val I) .un)) (a0, ()) = go_spec_faMost_T k a0 (fun y => iter k (loopAt (go_spec_faMost_C k) (bodyOf Go.Proofs.Try.f55) [1, 1, 0, 1, 0] [] (finPure (go_spec_faMost_C k) Go.Proofs.Try.f55.results.toList true (.pr (.val I) (.pr (.val I) .un)))) (go_spec_faMost_L0_E a0 y)) := by kernel_rfl
  have h0 : (fun y => iter k (loopAt (go_spec_faMost_C k) (bodyOf Go.Proofs.Try.f55) [1, 1, 0, 1, 0] [] (finPure (go_spec_faMost_C k) Go.Proofs.Try.f55.results.toList true (.pr (.val I) (.pr (.val I) .un)))) (go_spec_faMost_L0_E a0 y)) = (fun y => go_spec_faMost_L0 k a0 y) := by
    funext y
    exact go_spec_faMost_L0_t k a0 y
  rw [h, h0]
  rfl
def go_spec_faMost_S (k : Nat) : Spec := ⟨(.pr (.val (.sl I)) .un), (.pr (.val I) (.pr (.val I) .un)), true, .inl fun x => go_spec_faMost k x.1⟩
theorem go_spec_faMost_F (k : Nat) : Fits Go.Proofs.Try.prog (go_spec_faMost_C k) 55 Go.Proofs.Try.f55 (bodyOf Go.Proofs.Try.f55) (.pr (.val (.sl I)) .un) (.pr (.val I) (.pr (.val I) .un)) true :=
  ⟨th0, mixed0, by kernel_rfl, Go.Proofs.Try.func55, rfl, by kernel_rfl, rfl, rfl, rfl, rfl, rfl, rfl⟩
theorem go_spec_faMost_M (k : Nat) : Meets Go.Proofs.Try.prog 55 (go_spec_faMost_S k) :=
  meets_pure (go_spec_faMost_F k) (sigs_all (l := []) rfl trivial) rfl fun x => go_spec_faMost_t k x.1

/-! ### spec.MiddlesOf -/
def go_spec_MiddlesOf_C (k : Nat) : Ctx := { th := TH, se := SE, sg := [(52, go_spec_boTwo_S k), (53, go_spec_faParts_S k), (54, go_spec_boCells_S k), (56, go_spec_faFrom_S k), (55, go_spec_faMost_S k)], mu := [], an := [(6, [(2, false), (3, false), (6, true), (7, false), (24, false), (25, false), (26, false)])], dr := [], pre := [], d2 := [], m := 0, fx := [], n := 55, k := k }
def go_spec_MiddlesOf_L0_E (a0 : (Int × (Int × ((List Int) × Unit)))) (a1 : (Int × (Int × Unit))) (r3 : (List Int)) (x20 : (Int × Int × (List Int))) : St :=
  ⟨[(2, .one (.val (.pt (.pair I (.pair I (.pair (.sl I) .unit)))) (some a0)), []), (3, .one (.val (.pt (.pair I (.pair I .unit))) (some a1)), []), (6, .one (.own 0), []), (7, .one (.val I x20.1), []), (24, .one (.val (.sl I) r3), []), (25, .one (.val I (r3.length : Int)), []), (26, .one (.val I x20.2.1), [])], [.arr 3 I x20.2.2], []⟩
def go_spec_MiddlesOf_L0_G (k : Nat) (a0 : (Int × (Int × ((List Int) × Unit)))) (a1 : (Int × (Int × Unit))) (r3 : (List Int)) (rec21 : (Int × Int × (List Int)) → Option ((List Int) × (Bool × Unit))) (x20 : (Int × Int × (List Int))) : Option ((List Int) × (Bool × Unit)) :=
  if (decide (x20.2.1 < (r3.length : Int))) = true then
    if (inb x20.2.1 r3.length) = true then
    (go_spec_faFrom k a0 a1 (r3.getD x20.2.1.toNat (0 : Int))).bind fun r22 =>
    (go_spec_faMost k r22).bind fun r23 =>
    if ((decide (x20.1 < (0 : Int))) || (decide (r23.2.1 < x20.1))) = true then
      if (decide (r23.2.1 = r23.2.1)) = true then
        if (decide ([(r3.getD x20.2.1.toNat (0 : Int))].length ≤ LIM)) = true then
        rec21 (r23.2.1, (IntKind.i64.wrap (x20.2.1 + (1 : Int))), [(r3.getD x20.2.1.toNat (0 : Int))])
        else none
      else
        rec21 (r23.2.1, (IntKind.i64.wrap (x20.2.1 + (1 : Int))), [])
    else
      if (decide (r23.2.1 = x20.1)) = true then
        if (decide (x20.2.2.length + [(r3.getD x20.2.1.toNat (0 : Int))].length ≤ LIM)) = true then
        rec21 (x20.1, (IntKind.i64.wrap (x20.2.1 + (1 : Int))), (x20.2.2 ++ [(r3.getD x20.2.1.toNat (0 : Int))]))
        else none
      else
        rec21 (x20.1, (IntKind.i64.wrap (x20.2.1 + (1 : Int))), x20.2.2)
    else none
  else
    some (x20.2.2, (true, ()))
def go_spec_MiddlesOf_L0 (k : Nat) (a0 : (Int × (Int × ((List Int) × Unit)))) (a1 : (Int × (Int × Unit))) (r3 : (List Int)) : (Int × Int × (List Int)) → Option ((List Int) × (Bool × Unit)) :=
  iter k fun rec21 x20 => go_spec_MiddlesOf_L0_G k a0 a1 r3 rec21 x20
theorem go_spec_MiddlesOf_L0_t (k : Nat) (a0 : (Int × (Int × ((List Int) × Unit)))) (a1 : (Int × (Int × Unit))) (r3 : (List Int)) (x : (Int × Int × (List Int))) :
    iter k (loopAt (go_spec_MiddlesOf_C k) (bodyOf Go.Proofs.Try.f25) [1, 1, 1, 1, 0, 1, 0] [] (finPure (go_spec_MiddlesOf_C k) Go.Proofs.Try.f25.results.toList true (.pr (.val (.sl I)) (.pr (.val .bool) .un)))) (go_spec_MiddlesOf_L0_E a0 a1 r3 x) = go_spec_MiddlesOf_L0 k a0 a1 r3 x := by
  refine iter_tie (G := fun rec x => go_spec_MiddlesOf_L0_G k a0 a1 r3 rec x) (go_spec_MiddlesOf_L0_E a0 a1 r3) (fun rec x => ?_) k x
  have h : loopAt (go_spec_MiddlesOf_C k) (bodyOf Go.Proofs.Try.f25) [1, 1, 1, 1, 0, 1, 0] [] (finPure (go_spec_MiddlesOf_C k) Go.Proofs.Try.f25.results.toList true (.pr (.val (.sl I)) (.pr (.val .bool) .un))) rec (go_spec_MiddlesOf_L0_E a0 a1 r3 x) = go_spec_MiddlesOf_L0_G k a0 a1 r3 (fun y => rec (go_spec_MiddlesOf_L0_E a0 a1 r3 y)) x := by kernel_rfl
  rw [h]
def go_spec_MiddlesOf_T (k : Nat) (a0 : (Int × (Int × ((List Int) × Unit)))) (a1 : (Int × (Int × Unit))) (l_0 : (List Int) → (Int × Int × (List Int)) → Option ((List Int) × (Bool × Unit))) : Option ((List Int) × (Bool × Unit)) :=
  (go_spec_boTwo k a0 a1).bind fun r1 =>
  (if (!(!r1)) = true then go_spec_faParts k a0 a1 else some []).bind fun r2 =>
  if ((!r1) || (!decide ((r2.length : Int) = (1 : Int)))) = true then
    some ([], (false, ()))
  else
    (go_spec_boCells k a0).bind fun r3 =>
    l_0 r3 ((-1 : Int), (0 : Int), [])
def go_spec_MiddlesOf (k : Nat) (a0 : (Int × (Int × ((List Int) × Unit)))) (a1 : (Int × (Int × Unit))) : Option ((List Int) × (Bool × Unit)) :=
  go_spec_MiddlesOf_T k a0 a1 (fun r3 y => go_spec_MiddlesOf_L0 k a0 a1 r3 y)
theorem go_spec_MiddlesOf_t (k : Nat) (a0 : (Int × (Int × ((List Int) × Unit)))) (a1 : (Int × (Int × Unit))) : runPure (go_spec_MiddlesOf_C k) (bodyOf Go.Proofs.Try.f25) Go.Proofs.Try.f25.results.toList true (.pr (.val (.pair I (.pair I (.pair (.sl I) .unit)))) (.pr (.val (.pair I (.pair I .unit))) .un)) (.pr (.val (.sl I)) (.pr (.val .bool) .un)) (a0, a1, ()) = go_spec_MiddlesOf k a0 a1 := by
  have h : runPure (go_spec_MiddlesOf_C k) (bodyOf Go.Proofs.Try.f25) Go.Proofs.Try.f25.results.toList true (.pr (.val (.pair I (.pair I (.pair (.sl I) .unit)))) (.pr (.val (.pair I (.pair I .unit))) .un)) (.pr (.val (.sl I)) (.pr (.val .bool) .un)) (a0, a1, ()) = go_spec_MiddlesOf_T k a0 a1 (fun r3 y => iter k (loopAt (go_spec_MiddlesOf_C k) (bodyOf Go.Proofs.Try.f25) [1, 1, 1, 1, 0, 1, 0] [] (finPure (go_spec_MiddlesOf_C k) Go.Proofs.Try.f25.results.toList true (.pr (.val (.sl I)) (.pr (.val .bool) .un)))) (go_spec_MiddlesOf_L0_E a0 a1 r3 y)) := by kernel_rfl
  have h0 : (fun r3 y => iter k (loopAt (go_spec_MiddlesOf_C k) (bodyOf Go.Proofs.Try.f25) [1, 1, 1, 1, 0, 1, 0] [] (finPure (go_spec_MiddlesOf_C k) Go.Proofs.Try.f25.results.toList true (.pr (.val (.sl I)) (.pr (.val .bool) .un)))) (go_spec_MiddlesOf_L0_E a0 a1 r3 y)) = (fun r3 y => go_spec_MiddlesOf_L0 k a0 a1 r3 y) := by
    funext r3 y
    exact go_spec_MiddlesOf_L0_t k a0 a1 r3 y
  rw [h, h0]
  rfl
def go_spec_MiddlesOf_S (k : Nat) : Spec := ⟨(.pr (.val (.pair I (.pair I (.pair (.sl I) .unit)))) (.pr (.val (.pair I (.pair I .unit))) .un)), (.pr (.val (.sl I)) (.pr (.val .bool) .un)), true, .inl fun x => go_spec_MiddlesOf k x.1 x.2.1⟩
theorem go_spec_MiddlesOf_F (k : Nat) : Fits Go.Proofs.Try.prog (go_spec_MiddlesOf_C k) 25 Go.Proofs.Try.f25 (bodyOf Go.Proofs.Try.f25) (.pr (.val (.pair I (.pair I (.pair (.sl I) .unit)))) (.pr (.val (.pair I (.pair I .unit))) .un)) (.pr (.val (.sl I)) (.pr (.val .bool) .un)) true :=
  ⟨th0, mixed0, by kernel_rfl, Go.Proofs.Try.func25, rfl, by kernel_rfl, rfl, rfl, rfl, rfl, rfl, rfl⟩
theorem go_spec_MiddlesOf_M (k : Nat) : Meets Go.Proofs.Try.prog 25 (go_spec_MiddlesOf_S k) :=
  meets_pure (go_spec_MiddlesOf_F k) (sigs_all (l := [(52, go_spec_boTwo_S k), (53, go_spec_faParts_S k), (54, go_spec_boCells_S k), (56, go_spec_faFrom_S k), (55, go_spec_faMost_S k)]) rfl ⟨go_spec_boTwo_M k, ⟨go_spec_faParts_M k, ⟨go_spec_boCells_M k, ⟨go_spec_faFrom_M k, ⟨go_spec_faMost_M k, trivial⟩⟩⟩⟩⟩) rfl fun x => go_spec_MiddlesOf_t k x.1 x.2.1

/-! ### slices.Max[[]int,int] -/
def go_slices_Max_int_C (k : Nat) : Ctx := { th := TH, se := SE, sg := [], mu := [], an := [(5, [(0, false), (3, false), (4, false)])], dr := [], pre := [], d2 := [], m := 0, fx := [], n := 25, k := k }
def go_slices_Max_int_L0_E (a0 : (List Int)) (x5 : (Int × Int)) : St :=
  ⟨[(0, .one (.val (.sl I) a0), []), (3, .one (.val I x5.1), []), (4, .one (.val I x5.2), [])], [], []⟩
def go_slices_Max_int_L0_G (k : Nat) (a0 : (List Int)) (rec6 : (Int × Int) → Option Int) (x5 : (Int × Int)) : Option Int :=
  if (decide (x5.2 < (a0.length : Int))) = true then
    if (inb x5.2 a0.length) = true then
    rec6 ((max x5.1 (a0.getD x5.2.toNat (0 : Int))), (IntKind.i64.wrap (x5.2 + (1 : Int))))
    else none
  else
    some x5.1
def go_slices_Max_int_L0 (k : Nat) (a0 : (List Int)) : (Int × Int) → Option Int :=
  iter k fun rec6 x5 => go_slices_Max_int_L0_G k a0 rec6 x5
theorem go_slices_Max_int_L0_t (k : Nat) (a0 : (List Int)) (x : (Int × Int)) :
    iter k (loopAt (go_slices_Max_int_C k) (bodyOf Go.Proofs.Try.f84) [1, 1, 1, 0, 1, 0] [] (finPure (go_slices_Max_int_C k) Go.Proofs.Try.f84.results.toList false (.val I))) (go_slices_Max_int_L0_E a0 x) = go_slices_Max_int_L0 k a0 x := by
  refine iter_tie (G := fun rec x => go_slices_Max_int_L0_G k a0 rec x) (go_slices_Max_int_L0_E a0) (fun rec x => ?_) k x
  have h : loopAt (go_slices_Max_int_C k) (bodyOf Go.Proofs.Try.f84) [1, 1, 1, 0, 1, 0] [] (finPure (go_slices_Max_int_C k) Go.Proofs.Try.f84.results.toList false (.val I)) rec (go_slices_Max_int_L0_E a0 x) = go_slices_Max_int_L0_G k a0 (fun y => rec (go_slices_Max_int_L0_E a0 y)) x := by kernel_rfl
  rw [h]
def go_slices_Max_int_T (k : Nat) (a0 : (List Int)) (l_0 : (Int × Int) → Option Int) : Option Int :=
  if (decide ((a0.length : Int) < (1 : Int))) = true then
    none
  else
    if (inb (0 : Int) a0.length) = true then
    l_0 ((a0.getD (0 : Int).toNat (0 : Int)), (1 : Int))
    else none
def go_slices_Max_int (k : Nat) (a0 : (List Int)) : Option Int :=
  go_slices_Max_int_T k a0 (fun y => go_slices_Max_int_L0 k a0 y)
theorem go_slices_Max_int_t (k : Nat) (a0 : (List Int)) : runPure (go_slices_Max_int_C k) (bodyOf Go.Proofs.Try.f84) Go.Proofs.Try.f84.results.toList false (.pr (.val (.sl I)) .un) (.val I) (a0, ()) = go_slices_Max_int k a0 := by
  have h : runPure (go_slices_Max_int_C k) (bodyOf Go.Proofs.Try.f84) Go.Proofs.Try.f84.results.toList false (.pr (.val (.sl I)) .un) (.val I) (a0, ()) = go_slices_Max_int_T k a0 (fun y => iter k (loopAt (go_slices_Max_int_C k) (bodyOf Go.Proofs.Try.f84) [1, 1, 1, 0, 1, 0] [] (finPure (go_slices_Max_int_C k) Go.Proofs.Try.f84.results.toList false (.val I))) (go_slices_Max_int_L0_E a0 y)) := by kernel_rfl
  have h0 : (fun y => iter k (loopAt (go_slices_Max_int_C k) (bodyOf Go.Proofs.Try.f84) [1, 1, 1, 0, 1, 0] [] (finPure (go_slices_Max_int_C k) Go.Proofs.Try.f84.results.toList false (.val I))) (go_slices_Max_int_L0_E a0 y)) = (fun y => go_slices_Max_int_L0 k a0 y) := by
    funext y
    exact go_slices_Max_int_L0_t k a0 y
  rw [h, h0]
  rfl
def go_slices_Max_int_S (k : Nat) : Spec := ⟨(.pr (.val (.sl I)) .un), (.val I), false, .inl fun x => go_slices_Max_int k x.1⟩
theorem go_slices_Max_int_F (k : Nat) : Fits Go.Proofs.Try.prog (go_slices_Max_int_C k) 84 Go.Proofs.Try.f84 (bodyOf Go.Proofs.Try.f84) (.pr (.val (.sl I)) .un) (.val I) false :=
  ⟨th0, mixed0, by kernel_rfl, Go.Proofs.Try.func84, rfl, by kernel_rfl, rfl, rfl, rfl, rfl, rfl, rfl⟩
theorem go_slices_Max_int_M (k : Nat) : Meets Go.Proofs.Try.prog 84 (go_slices_Max_int_S k) :=
  meets_pure (go_slices_Max_int_F k) (sigs_all (l := []) rfl trivial) rfl fun x => go_slices_Max_int_t k x.1

/-! ### impl.greatest -/
def go_impl_greatest_C (k : Nat) : Ctx := { th := TH, se := SE, sg := [(83, go_impl_graphOf_S k), (73, go_impl_graph_parts_S k), (85, go_impl_graph_far_S k), (84, go_slices_Max_int_S k)], mu := [], an := [(6, [(7, false), (9, true), (29, false), (30, false), (31, false)])], dr := [], pre := [], d2 := [], m := 0, fx := [], n := 45, k := k }
def go_impl_greatest_L0_E (a0 : (Int × (Int × ((List Int) × Unit)))) (a1 : (Int × (Int × Unit))) (r1 : ((Option ((Int × (Int × ((List Int) × Unit))) × ((Int × (Int × Unit)) × ((List Int) × ((List (List Int)) × Unit))))) × (Bool × Unit))) (x15 : (Int × (List Int))) : St :=
  ⟨[(7, .one (.val (.pt (.pair (.pair I (.pair I (.pair (.sl I) .unit))) (.pair (.pair I (.pair I .unit)) (.pair (.sl I) (.pair (.sl (.sl I)) .unit))))) r1.1), []), (9, .one (.own 0), []), (29, .one (.val (.sl I) (r1.1.getD (((0 : Int), ((0 : Int), ([], ()))), (((0 : Int), ((0 : Int), ())), ([], ([], ()))))).2.2.1), []), (30, .one (.val I ((r1.1.getD (((0 : Int), ((0 : Int), ([], ()))), (((0 : Int), ((0 : Int), ())), ([], ([], ()))))).2.2.1.length : Int)), []), (31, .one (.val I x15.1), [])], [.arr 3 I x15.2], []⟩
def go_impl_greatest_L0_G (k : Nat) (a0 : (Int × (Int × ((List Int) × Unit)))) (a1 : (Int × (Int × Unit))) (r1 : ((Option ((Int × (Int × ((List Int) × Unit))) × ((Int × (Int × Unit)) × ((List Int) × ((List (List Int)) × Unit))))) × (Bool × Unit))) (rec16 : (Int × (List Int)) → Option ((Option ((Int × (Int × ((List Int) × Unit))) × ((Int × (Int × Unit)) × ((List Int) × ((List (List Int)) × Unit))))) × ((List Int) × (Bool × Unit)))) (x15 : (Int × (List Int))) : Option ((Option ((Int × (Int × ((List Int) × Unit))) × ((Int × (Int × Unit)) × ((List Int) × ((List (List Int)) × Unit))))) × ((List Int) × (Bool × Unit))) :=
  if (decide (x15.1 < ((r1.1.getD (((0 : Int), ((0 : Int), ([], ()))), (((0 : Int), ((0 : Int), ())), ([], ([], ()))))).2.2.1.length : Int))) = true then
    if (inb x15.1 (r1.1.getD (((0 : Int), ((0 : Int), ([], ()))), (((0 : Int), ((0 : Int), ())), ([], ([], ()))))).2.2.1.length) = true then
    (go_impl_graph_far k r1.1 ((r1.1.getD (((0 : Int), ((0 : Int), ([], ()))), (((0 : Int), ((0 : Int), ())), ([], ([], ()))))).2.2.1.getD x15.1.toNat (0 : Int))).bind fun r17 =>
    (go_slices_Max_int k r17).bind fun r18 =>
    if (decide (x15.2.length + [r18].length ≤ LIM)) = true then
    rec16 ((IntKind.i64.wrap (x15.1 + (1 : Int))), (x15.2 ++ [r18]))
    else none
    else none
  else
    some (r1.1, (x15.2, (true, ())))
def go_impl_greatest_L0 (k : Nat) (a0 : (Int × (Int × ((List Int) × Unit)))) (a1 : (Int × (Int × Unit))) (r1 : ((Option ((Int × (Int × ((List Int) × Unit))) × ((Int × (Int × Unit)) × ((List Int) × ((List (List Int)) × Unit))))) × (Bool × Unit))) : (Int × (List Int)) → Option ((Option ((Int × (Int × ((List Int) × Unit))) × ((Int × (Int × Unit)) × ((List Int) × ((List (List Int)) × Unit))))) × ((List Int) × (Bool × Unit))) :=
  iter k fun rec16 x15 => go_impl_greatest_L0_G k a0 a1 r1 rec16 x15
theorem go_impl_greatest_L0_t (k : Nat) (a0 : (Int × (Int × ((List Int) × Unit)))) (a1 : (Int × (Int × Unit))) (r1 : ((Option ((Int × (Int × ((List Int) × Unit))) × ((Int × (Int × Unit)) × ((List Int) × ((List (List Int)) × Unit))))) × (Bool × Unit))) (x : (Int × (List Int))) :
    iter k (loopAt (go_impl_greatest_C k) (bodyOf Go.Proofs.Try.f57) [1, 1, 1, 1, 0, 1, 0] [] (finPure (go_impl_greatest_C k) Go.Proofs.Try.f57.results.toList true (.pr (.val (.pt (.pair (.pair I (.pair I (.pair (.sl I) .unit))) (.pair (.pair I (.pair I .unit)) (.pair (.sl I) (.pair (.sl (.sl I)) .unit)))))) (.pr (.val (.sl I)) (.pr (.val .bool) .un))))) (go_impl_greatest_L0_E a0 a1 r1 x) = go_impl_greatest_L0 k a0 a1 r1 x := by
  refine iter_tie (G := fun rec x => go_impl_greatest_L0_G k a0 a1 r1 rec x) (go_impl_greatest_L0_E a0 a1 r1) (fun rec x => ?_) k x
  have h : loopAt (go_impl_greatest_C k) (bodyOf Go.Proofs.Try.f57) [1, 1, 1, 1, 0, 1, 0] [] (finPure (go_impl_greatest_C k) Go.Proofs.Try.f57.results.toList true (.pr (.val (.pt (.pair (.pair I (.pair I (.pair (.sl I) .unit))) (.pair (.pair I (.pair I .unit)) (.pair (.sl I) (.pair (.sl (.sl I)) .unit)))))) (.pr (.val (.sl I)) (.pr (.val .bool) .un)))) rec (go_impl_greatest_L0_E a0 a1 r1 x) = go_impl_greatest_L0_G k a0 a1 r1 (fun y => rec (go_impl_greatest_L0_E a0 a1 r1 y)) x := by kernel_rfl
  rw [h]
def go_impl_greatest_T (k : Nat) (a0 : (Int × (Int × ((List Int) × Unit)))) (a1 : (Int × (Int × Unit))) (l_0 : ((Option ((Int × (Int × ((List Int) × Unit))) × ((Int × (Int × Unit)) × ((List Int) × ((List (List Int)) × Unit))))) × (Bool × Unit)) → (Int × (List Int)) → Option ((Option ((Int × (Int × ((List Int) × Unit))) × ((Int × (Int × Unit)) × ((List Int) × ((List (List Int)) × Unit))))) × ((List Int) × (Bool × Unit)))) : Option ((Option ((Int × (Int × ((List Int) × Unit))) × ((Int × (Int × Unit)) × ((List Int) × ((List (List Int)) × Unit))))) × ((List Int) × (Bool × Unit))) :=
  (go_impl_graphOf k a0 a1).bind fun r1 =>
  (if (!(!r1.2.1)) = true then go_impl_graph_parts k r1.1 else some []).bind fun r2 =>
  if ((!r1.2.1) || (!decide ((r2.length : Int) = (1 : Int)))) = true then
    some (none, ([], (false, ())))
  else
    if r1.1.isSome = true then
    l_0 r1 ((0 : Int), [])
    else none
def go_impl_greatest (k : Nat) (a0 : (Int × (Int × ((List Int) × Unit)))) (a1 : (Int × (Int × Unit))) : Option ((Option ((Int × (Int × ((List Int) × Unit))) × ((Int × (Int × Unit)) × ((List Int) × ((List (List Int)) × Unit))))) × ((List Int) × (Bool × Unit))) :=
  go_impl_greatest_T k a0 a1 (fun r1 y => go_impl_greatest_L0 k a0 a1 r1 y)
theorem go_impl_greatest_t (k : Nat) (a0 : (Int × (Int × ((List Int) × Unit)))) (a1 : (Int × (Int × Unit))) : runPure (go_impl_greatest_C k) (bodyOf Go.Proofs.Try.f57) Go.Proofs.Try.f57.results.toList true (.pr (.val (.pair I (.pair I (.pair (.sl I) .unit)))) (.pr (.val (.pair I (.pair I .unit))) .un)) (.pr (.val (.pt (.pair (.pair I (.pair I (.pair (.sl I) .unit))) (.pair (.pair I (.pair I .unit)) (.pair (.sl I) (.pair (.sl (.sl I)) .unit)))))) (.pr (.val (.sl I)) (.pr (.val .bool) .un))) (a0, a1, ()) = go_impl_greatest k a0 a1 := by
  have h : runPure (go_impl_greatest_C k) (bodyOf Go.Proofs.Try.f57) Go.Proofs.Try.f57.results.toList true (.pr (.val (.pair I (.pair I (.pair (.sl I) .unit)))) (.pr (.val (.pair I (.pair I .unit))) .un)) (.pr (.val (.pt (.pair (.pair I (.pair I (.pair (.sl I) .unit))) (.pair (.pair I (.pair I .unit)) (.pair (.sl I) (.pair (.sl (.sl I)) .unit)))))) (.pr (.val (.sl I)) (.pr (.val .bool) .un))) (a0, a1, ()) = go_impl_greatest_T k a0 a1 (fun r1 y => iter k (loopAt (go_impl_greatest_C k) (bodyOf Go.Proofs.Try.f57) [1, 1, 1, 1, 0, 1, 0] [] (finPure (go_impl_greatest_C k) Go.Proofs.Try.f57.results.toList true (.pr (.val (.pt (.pair (.pair I (.pair I (.pair (.sl I) .unit))) (.pair (.pair I (.pair I .unit)) (.pair (.sl I) (.pair (.sl (.sl I)) .unit)))))) (.pr (.val (.sl I)) (.pr (.val .bool) .un))))) (go_impl_greatest_L0_E a0 a1 r1 y)) := by kernel_rfl
  have h0 : (fun r1 y => iter k (loopAt (go_impl_greatest_C k) (bodyOf Go.Proofs.Try.f57) [1, 1, 1, 1, 0, 1, 0] [] (finPure (go_impl_greatest_C k) Go.Proofs.Try.f57.results.toList true (.pr (.val (.pt (.pair (.pair I (.pair I (.pair (.sl I) .unit))) (.pair (.pair I (.pair I .unit)) (.pair (.sl I) (.pair (.sl (.sl I)) .unit)))))) (.pr (.val (.sl I)) (.pr (.val .bool) .un))))) (go_impl_greatest_L0_E a0 a1 r1 y)) = (fun r1 y => go_impl_greatest_L0 k a0 a1 r1 y) := by
    funext r1 y
    exact go_impl_greatest_L0_t k a0 a1 r1 y
  rw [h, h0]
  rfl
def go_impl_greatest_S (k : Nat) : Spec := ⟨(.pr (.val (.pair I (.pair I (.pair (.sl I) .unit)))) (.pr (.val (.pair I (.pair I .unit))) .un)), (.pr (.val (.pt (.pair (.pair I (.pair I (.pair (.sl I) .unit))) (.pair (.pair I (.pair I .unit)) (.pair (.sl I) (.pair (.sl (.sl I)) .unit)))))) (.pr (.val (.sl I)) (.pr (.val .bool) .un))), true, .inl fun x => go_impl_greatest k x.1 x.2.1⟩
theorem go_impl_greatest_F (k : Nat) : Fits Go.Proofs.Try.prog (go_impl_greatest_C k) 57 Go.Proofs.Try.f57 (bodyOf Go.Proofs.Try.f57) (.pr (.val (.pair I (.pair I (.pair (.sl I) .unit)))) (.pr (.val (.pair I (.pair I .unit))) .un)) (.pr (.val (.pt (.pair (.pair I (.pair I (.pair (.sl I) .unit))) (.pair (.pair I (.pair I .unit)) (.pair (.sl I) (.pair (.sl (.sl I)) .unit)))))) (.pr (.val (.sl I)) (.pr (.val .bool) .un))) true :=
  ⟨th0, mixed0, by kernel_rfl, Go.Proofs.Try.func57, rfl, by kernel_rfl, rfl, rfl, rfl, rfl, rfl, rfl⟩
theorem go_impl_greatest_M (k : Nat) : Meets Go.Proofs.Try.prog 57 (go_impl_greatest_S k) :=
  meets_pure (go_impl_greatest_F k) (sigs_all (l := [(83, go_impl_graphOf_S k), (73, go_impl_graph_parts_S k), (85, go_impl_graph_far_S k), (84, go_slices_Max_int_S k)]) rfl ⟨go_impl_graphOf_M k, ⟨go_impl_graph_parts_M k, ⟨go_impl_graph_far_M k, ⟨go_slices_Max_int_M k, trivial⟩⟩⟩⟩) rfl fun x => go_impl_greatest_t k x.1 x.2.1

/-! ### slices.Min[[]int,int] -/
def go_slices_Min_int_C (k : Nat) : Ctx := { th := TH, se := SE, sg := [], mu := [], an := [(5, [(0, false), (3, false), (4, false)])], dr := [], pre := [], d2 := [], m := 0, fx := [], n := 25, k := k }
def go_slices_Min_int_L0_E (a0 : (List Int)) (x5 : (Int × Int)) : St :=
  ⟨[(0, .one (.val (.sl I) a0), []), (3, .one (.val I x5.1), []), (4, .one (.val I x5.2), [])], [], []⟩
def go_slices_Min_int_L0_G (k : Nat) (a0 : (List Int)) (rec6 : (Int × Int) → Option Int) (x5 : (Int × Int)) : Option Int :=
  if (decide (x5.2 < (a0.length : Int))) = true then
    if (inb x5.2 a0.length) = true then
    rec6 ((min x5.1 (a0.getD x5.2.toNat (0 : Int))), (IntKind.i64.wrap (x5.2 + (1 : Int))))
    else none
  else
    some x5.1
def go_slices_Min_int_L0 (k : Nat) (a0 : (List Int)) : (Int × Int) → Option Int :=
  iter k fun rec6 x5 => go_slices_Min_int_L0_G k a0 rec6 x5
theorem go_slices_Min_int_L0_t (k : Nat) (a0 : (List Int)) (x : (Int × Int)) :
    iter k (loopAt (go_slices_Min_int_C k) (bodyOf Go.Proofs.Try.f58) [1, 1, 1, 0, 1, 0] [] (finPure (go_slices_Min_int_C k) Go.Proofs.Try.f58.results.toList false (.val I))) (go_slices_Min_int_L0_E a0 x) = go_slices_Min_int_L0 k a0 x := by
  refine iter_tie (G := fun rec x => go_slices_Min_int_L0_G k a0 rec x) (go_slices_Min_int_L0_E a0) (fun rec x => ?_) k x
  have h : loopAt (go_slices_Min_int_C k) (bodyOf Go.Proofs.Try.f58) [1, 1, 1, 0, 1, 0] [] (finPure (go_slices_Min_int_C k) Go.Proofs.Try.f58.results.toList false (.val I)) rec (go_slices_Min_int_L0_E a0 x) = go_slices_Min_int_L0_G k a0 (fun y => rec (go_slices_Min_int_L0_E a0 y)) x := by kernel_rfl
  rw [h]
def go_slices_Min_int_T (k : Nat) (a0 : (List Int)) (l_0 : (Int × Int) → Option Int) : Option Int :=
  if (decide ((a0.length : Int) < (1 : Int))) = true then
    none
  else
    if (inb (0 : Int) a0.length) = true then
    l_0 ((a0.getD (0 : Int).toNat (0 : Int)), (1 : Int))
    else none
def go_slices_Min_int (k : Nat) (a0 : (List Int)) : Option Int :=
  go_slices_Min_int_T k a0 (fun y => go_slices_Min_int_L0 k a0 y)
theorem go_slices_Min_int_t (k : Nat) (a0 : (List Int)) : runPure (go_slices_Min_int_C k) (bodyOf Go.Proofs.Try.f58) Go.Proofs.Try.f58.results.toList false (.pr (.val (.sl I)) .un) (.val I) (a0, ()) = go_slices_Min_int k a0 := by
  have h : runPure (go_slices_Min_int_C k) (bodyOf Go.Proofs.Try.f58) Go.Proofs.Try.f58.results.toList false (.pr (.val (.sl I)) .un) (.val I) (a0, ()) = go_slices_Min_int_T k a0 (fun y => iter k (loopAt (go_slices_Min_int_C k) (bodyOf Go.Proofs.Try.f58) [1, 1, 1, 0, 1, 0] [] (finPure (go_slices_Min_int_C k) Go.Proofs.Try.f58.results.toList false (.val I))) (go_slices_Min_int_L0_E a0 y)) := by kernel_rfl
  have h0 : (fun y => iter k (loopAt (go_slices_Min_int_C k) (bodyOf Go.Proofs.Try.f58) [1, 1, 1, 0, 1, 0] [] (finPure (go_slices_Min_int_C k) Go.Proofs.Try.f58.results.toList false (.val I))) (go_slices_Min_int_L0_E a0 y)) = (fun y => go_slices_Min_int_L0 k a0 y) := by
    funext y
    exact go_slices_Min_int_L0_t k a0 y
  rw [h, h0]
  rfl
def go_slices_Min_int_S (k : Nat) : Spec := ⟨(.pr (.val (.sl I)) .un), (.val I), false, .inl fun x => go_slices_Min_int k x.1⟩
theorem go_slices_Min_int_F (k : Nat) : Fits Go.Proofs.Try.prog (go_slices_Min_int_C k) 58 Go.Proofs.Try.f58 (bodyOf Go.Proofs.Try.f58) (.pr (.val (.sl I)) .un) (.val I) false :=
  ⟨th0, mixed0, by kernel_rfl, Go.Proofs.Try.func58, rfl, by kernel_rfl, rfl, rfl, rfl, rfl, rfl, rfl⟩
theorem go_slices_Min_int_M (k : Nat) : Meets Go.Proofs.Try.prog 58 (go_slices_Min_int_S k) :=
  meets_pure (go_slices_Min_int_F k) (sigs_all (l := []) rfl trivial) rfl fun x => go_slices_Min_int_t k x.1

/-! ### impl.MiddlesOf -/
def go_impl_MiddlesOf_C (k : Nat) : Ctx := { th := TH, se := SE, sg := [(57, go_impl_greatest_S k), (58, go_slices_Min_int_S k)], mu := [], an := [(6, [(7, false), (9, true), (24, false), (25, false), (26, false)])], dr := [(8, 6)], pre := [], d2 := [], m := 0, fx := [], n := 44, k := k }
def go_impl_MiddlesOf_L0_E (a0 : (Int × (Int × ((List Int) × Unit)))) (a1 : (Int × (Int × Unit))) (r1 : ((Option ((Int × (Int × ((List Int) × Unit))) × ((Int × (Int × Unit)) × ((List Int) × ((List (List Int)) × Unit))))) × ((List Int) × (Bool × Unit)))) (x11 : (Int × (List Int))) : St :=
  ⟨[(7, .one (.val (.sl I) r1.2.1), []), (9, .one (.own 0), []), (24, .one (.val (.sl I) (r1.1.getD (((0 : Int), ((0 : Int), ([], ()))), (((0 : Int), ((0 : Int), ())), ([], ([], ()))))).2.2.1), []), (25, .one (.val I ((r1.1.getD (((0 : Int), ((0 : Int), ([], ()))), (((0 : Int), ((0 : Int), ())), ([], ([], ()))))).2.2.1.length : Int)), []), (26, .one (.val I x11.1), [])], [.arr 3 I x11.2], []⟩
def go_impl_MiddlesOf_L0_G (k : Nat) (a0 : (Int × (Int × ((List Int) × Unit)))) (a1 : (Int × (Int × Unit))) (r1 : ((Option ((Int × (Int × ((List Int) × Unit))) × ((Int × (Int × Unit)) × ((List Int) × ((List (List Int)) × Unit))))) × ((List Int) × (Bool × Unit)))) (rec12 : (Int × (List Int)) → Option ((List Int) × (Bool × Unit))) (x11 : (Int × (List Int))) : Option ((List Int) × (Bool × Unit)) :=
  if (decide (x11.1 < ((r1.1.getD (((0 : Int), ((0 : Int), ([], ()))), (((0 : Int), ((0 : Int), ())), ([], ([], ()))))).2.2.1.length : Int))) = true then
    if (inb x11.1 (r1.1.getD (((0 : Int), ((0 : Int), ([], ()))), (((0 : Int), ((0 : Int), ())), ([], ([], ()))))).2.2.1.length) = true then
    if (inb x11.1 r1.2.1.length) = true then
    (go_slices_Min_int k r1.2.1).bind fun r13 =>
    if (decide ((r1.2.1.getD x11.1.toNat (0 : Int)) = r13)) = true then
      if (decide (x11.2.length + ([((r1.1.getD (((0 : Int), ((0 : Int), ([], ()))), (((0 : Int), ((0 : Int), ())), ([], ([], ()))))).2.2.1.getD x11.1.toNat (0 : Int))]).length ≤ LIM)) = true then
      rec12 ((IntKind.i64.wrap (x11.1 + (1 : Int))), (x11.2 ++ [((r1.1.getD (((0 : Int), ((0 : Int), ([], ()))), (((0 : Int), ((0 : Int), ())), ([], ([], ()))))).2.2.1.getD x11.1.toNat (0 : Int))]))
      else none
    else
      rec12 ((IntKind.i64.wrap (x11.1 + (1 : Int))), x11.2)
    else none
    else none
  else
    some (x11.2, (true, ()))
def go_impl_MiddlesOf_L0 (k : Nat) (a0 : (Int × (Int × ((List Int) × Unit)))) (a1 : (Int × (Int × Unit))) (r1 : ((Option ((Int × (Int × ((List Int) × Unit))) × ((Int × (Int × Unit)) × ((List Int) × ((List (List Int)) × Unit))))) × ((List Int) × (Bool × Unit)))) : (Int × (List Int)) → Option ((List Int) × (Bool × Unit)) :=
  iter k fun rec12 x11 => go_impl_MiddlesOf_L0_G k a0 a1 r1 rec12 x11
theorem go_impl_MiddlesOf_L0_t (k : Nat) (a0 : (Int × (Int × ((List Int) × Unit)))) (a1 : (Int × (Int × Unit))) (r1 : ((Option ((Int × (Int × ((List Int) × Unit))) × ((Int × (Int × Unit)) × ((List Int) × ((List (List Int)) × Unit))))) × ((List Int) × (Bool × Unit)))) (x : (Int × (List Int))) :
    iter k (loopAt (go_impl_MiddlesOf_C k) (bodyOf Go.Proofs.Try.f26) [1, 1, 1, 1, 0, 1, 0] [] (finPure (go_impl_MiddlesOf_C k) Go.Proofs.Try.f26.results.toList true (.pr (.own 3 I) (.pr (.val .bool) .un)))) (go_impl_MiddlesOf_L0_E a0 a1 r1 x) = go_impl_MiddlesOf_L0 k a0 a1 r1 x := by
  refine iter_tie (G := fun rec x => go_impl_MiddlesOf_L0_G k a0 a1 r1 rec x) (go_impl_MiddlesOf_L0_E a0 a1 r1) (fun rec x => ?_) k x
  have h : loopAt (go_impl_MiddlesOf_C k) (bodyOf Go.Proofs.Try.f26) [1, 1, 1, 1, 0, 1, 0] [] (finPure (go_impl_MiddlesOf_C k) Go.Proofs.Try.f26.results.toList true (.pr (.own 3 I) (.pr (.val .bool) .un))) rec (go_impl_MiddlesOf_L0_E a0 a1 r1 x) = go_impl_MiddlesOf_L0_G k a0 a1 r1 (fun y => rec (go_impl_MiddlesOf_L0_E a0 a1 r1 y)) x := by kernel_rfl
  rw [h]
def go_impl_MiddlesOf_T (k : Nat) (a0 : (Int × (Int × ((List Int) × Unit)))) (a1 : (Int × (Int × Unit))) (l_0 : ((Option ((Int × (Int × ((List Int) × Unit))) × ((Int × (Int × Unit)) × ((List Int) × ((List (List Int)) × Unit))))) × ((List Int) × (Bool × Unit))) → (Int × (List Int)) → Option ((List Int) × (Bool × Unit))) : Option ((List Int) × (Bool × Unit)) :=
  (go_impl_greatest k a0 a1).bind fun r1 =>
  if (!r1.2.2.1) = true then
    some ([], (false, ()))
  else
    if r1.1.isSome = true then
    l_0 r1 ((0 : Int), [])
    else none
def go_impl_MiddlesOf (k : Nat) (a0 : (Int × (Int × ((List Int) × Unit)))) (a1 : (Int × (Int × Unit))) : Option ((List Int) × (Bool × Unit)) :=
  go_impl_MiddlesOf_T k a0 a1 (fun r1 y => go_impl_MiddlesOf_L0 k a0 a1 r1 y)
theorem go_impl_MiddlesOf_t (k : Nat) (a0 : (Int × (Int × ((List Int) × Unit)))) (a1 : (Int × (Int × Unit))) : runPure (go_impl_MiddlesOf_C k) (bodyOf Go.Proofs.Try.f26) Go.Proofs.Try.f26.results.toList true (.pr (.val (.pair I (.pair I (.pair (.sl I) .unit)))) (.pr (.val (.pair I (.pair I .unit))) .un)) (.pr (.own 3 I) (.pr (.val .bool) .un)) (a0, a1, ()) = go_impl_MiddlesOf k a0 a1 := by
  have h : runPure (go_impl_MiddlesOf_C k) (bodyOf Go.Proofs.Try.f26) Go.Proofs.Try.f26.results.toList true (.pr (.val (.pair I (.pair I (.pair (.sl I) .unit)))) (.pr (.val (.pair I (.pair I .unit))) .un)) (.pr (.own 3 I) (.pr (.val .bool) .un)) (a0, a1, ()) = go_impl_MiddlesOf_T k a0 a1 (fun r1 y => iter k (loopAt (go_impl_MiddlesOf_C k) (bodyOf Go.Proofs.Try.f26) [1, 1, 1, 1, 0, 1, 0] [] (finPure (go_impl_MiddlesOf_C k) Go.Proofs.Try.f26.results.toList true (.pr (.own 3 I) (.pr (.val .bool) .un)))) (go_impl_MiddlesOf_L0_E a0 a1 r1 y)) := by kernel_rfl
  have h0 : (fun r1 y => iter k (loopAt (go_impl_MiddlesOf_C k) (bodyOf Go.Proofs.Try.f26) [1, 1, 1, 1, 0, 1, 0] [] (finPure (go_impl_MiddlesOf_C k) Go.Proofs.Try.f26.results.toList true (.pr (.own 3 I) (.pr (.val .bool) .un)))) (go_impl_MiddlesOf_L0_E a0 a1 r1 y)) = (fun r1 y => go_impl_MiddlesOf_L0 k a0 a1 r1 y) := by
    funext r1 y
    exact go_impl_MiddlesOf_L0_t k a0 a1 r1 y
  rw [h, h0]
  rfl
def go_impl_MiddlesOf_S (k : Nat) : Spec := ⟨(.pr (.val (.pair I (.pair I (.pair (.sl I) .unit)))) (.pr (.val (.pair I (.pair I .unit))) .un)), (.pr (.own 3 I) (.pr (.val .bool) .un)), true, .inl fun x => go_impl_MiddlesOf k x.1 x.2.1⟩
theorem go_impl_MiddlesOf_F (k : Nat) : Fits Go.Proofs.Try.prog (go_impl_MiddlesOf_C k) 26 Go.Proofs.Try.f26 (bodyOf Go.Proofs.Try.f26) (.pr (.val (.pair I (.pair I (.pair (.sl I) .unit)))) (.pr (.val (.pair I (.pair I .unit))) .un)) (.pr (.own 3 I) (.pr (.val .bool) .un)) true :=
  ⟨th0, mixed0, by kernel_rfl, Go.Proofs.Try.func26, rfl, by kernel_rfl, rfl, rfl, rfl, rfl, rfl, rfl⟩
theorem go_impl_MiddlesOf_M (k : Nat) : Meets Go.Proofs.Try.prog 26 (go_impl_MiddlesOf_S k) :=
  meets_pure (go_impl_MiddlesOf_F k) (sigs_all (l := [(57, go_impl_greatest_S k), (58, go_slices_Min_int_S k)]) rfl ⟨go_impl_greatest_M k, ⟨go_slices_Min_int_M k, trivial⟩⟩) rfl fun x => go_impl_MiddlesOf_t k x.1 x.2.1

/-! ### laws.FnExactMiddlesOf -/
def go_laws_FnExactMiddlesOf_C (k : Nat) : Ctx := { th := TH, se := SE, sg := [(15, go_laws_szBoard_S k), (17, go_laws_toBoard_S k), (18, go_laws_toLeaper_S k), (25, go_spec_MiddlesOf_S k), (26, go_impl_MiddlesOf_S k), (20, go_laws_eqIntS_S k), (21, go_laws_eqBoard_S k), (22, go_laws_markBoard_S k), (23, go_laws_markIntS_S k), (24, go_laws_heldIntS_S k)], mu := [30, 35], an := [], dr := [(5, 9), (7, 3), (10, 3), (24, 9)], pre := [], d2 := [7], m := 0, fx := [], n := 104, k := k }
def go_laws_FnExactMiddlesOf (k : Nat) (a0 : (Int × (Int × ((List Int) × Unit)))) (a1 : (Int × (Int × Unit))) : Option Bool :=
  (go_laws_szBoard k a0 (1048576 : Int)).bind fun r1 =>
  if (decide (r1 < (0 : Int))) = true then
    some true
  else
    (go_laws_toBoard k a0).bind fun r2 =>
    (go_laws_toLeaper k a1).bind fun r3 =>
    (go_spec_MiddlesOf k (r2.1, (r2.2.1, (r2.2.2.1, ()))) r3).bind fun r4 =>
    (go_laws_toBoard k a0).bind fun r5 =>
    (go_laws_toLeaper k a1).bind fun r6 =>
    (go_impl_MiddlesOf k (r5.1, (r5.2.1, (r5.2.2.1, ()))) r6).bind fun r7 =>
    (go_laws_eqIntS k r7.1 r4.1).bind fun r8 =>
    if ((!r8) || (r7.2.1 != r4.2.1)) = true then
      some false
    else
      (go_laws_toBoard k a0).bind fun r9 =>
      (go_laws_eqBoard k (r5.1, (r5.2.1, (r5.2.2.1, ()))) (r9.1, (r9.2.1, (r9.2.2.1, ())))).bind fun r10 =>
      if (!r10) = true then
        some false
      else
        (go_laws_markBoard k (r5.1, (r5.2.1, (r5.2.2.1, ()))) (1 : Int)).bind fun r11 =>
        (if (!(decide (r11.1 < (0 : Int)))) = true then go_laws_eqIntS k r7.1 r4.1 else some false).bind fun r12 =>
        if (((decide (r11.1 < (0 : Int))) || (!r12)) || (r7.2.1 != r4.2.1)) = true then
          some false
        else
          (go_laws_markIntS k r7.1 (1 : Int)).bind fun r13 =>
          (go_laws_heldIntS k r13.2.1 (1 : Int)).bind fun r14 =>
          if (decide (r14 < (0 : Int))) = true then
            some false
          else
            if (!decide (r14 = r13.1)) = true then
              some false
            else
              (go_laws_toBoard k a0).bind fun r15 =>
              (go_laws_toLeaper k a1).bind fun r16 =>
              (go_impl_MiddlesOf k (r15.1, (r15.2.1, (r15.2.2.1, ()))) r16).bind fun r17 =>
              (go_laws_eqIntS k r17.1 r4.1).bind fun r18 =>
              if ((!r18) || (r17.2.1 != r4.2.1)) = true then
                some false
              else
                (go_laws_heldIntS k r13.2.1 (1 : Int)).bind fun r19 =>
                if (decide (r19 < (0 : Int))) = true then
                  some false
                else
                  if (!decide (r19 = r13.1)) = true then
                    some false
                  else
                    some true
theorem go_laws_FnExactMiddlesOf_t (k : Nat) (a0 : (Int × (Int × ((List Int) × Unit)))) (a1 : (Int × (Int × Unit))) : runPure (go_laws_FnExactMiddlesOf_C k) (bodyOf Go.Proofs.Try.f4) Go.Proofs.Try.f4.results.toList false (.pr (.val (.pair I (.pair I (.pair (.sl I) .unit)))) (.pr (.val (.pair I (.pair I .unit))) .un)) (.val .bool) (a0, a1, ()) = go_laws_FnExactMiddlesOf k a0 a1 := by kernel_rfl
def go_laws_FnExactMiddlesOf_S (k : Nat) : Spec := ⟨(.pr (.val (.pair I (.pair I (.pair (.sl I) .unit)))) (.pr (.val (.pair I (.pair I .unit))) .un)), (.val .bool), false, .inl fun x => go_laws_FnExactMiddlesOf k x.1 x.2.1⟩
theorem go_laws_FnExactMiddlesOf_F (k : Nat) : Fits Go.Proofs.Try.prog (go_laws_FnExactMiddlesOf_C k) 4 Go.Proofs.Try.f4 (bodyOf Go.Proofs.Try.f4) (.pr (.val (.pair I (.pair I (.pair (.sl I) .unit)))) (.pr (.val (.pair I (.pair I .unit))) .un)) (.val .bool) false :=
  ⟨th0, mixed0, by kernel_rfl, Go.Proofs.Try.func4, rfl, by kernel_rfl, rfl, rfl, rfl, rfl, rfl, rfl⟩
theorem go_laws_FnExactMiddlesOf_M (k : Nat) : Meets Go.Proofs.Try.prog 4 (go_laws_FnExactMiddlesOf_S k) :=
  meets_pure (go_laws_FnExactMiddlesOf_F k) (sigs_all (l := [(15, go_laws_szBoard_S k), (17, go_laws_toBoard_S k), (18, go_laws_toLeaper_S k), (25, go_spec_MiddlesOf_S k), (26, go_impl_MiddlesOf_S k), (20, go_laws_eqIntS_S k), (21, go_laws_eqBoard_S k), (22, go_laws_markBoard_S k), (23, go_laws_markIntS_S k), (24, go_laws_heldIntS_S k)]) rfl ⟨go_laws_szBoard_M k, ⟨go_laws_toBoard_M k, ⟨go_laws_toLeaper_M k, ⟨go_spec_MiddlesOf_M k, ⟨go_impl_MiddlesOf_M k, ⟨go_laws_eqIntS_M k, ⟨go_laws_eqBoard_M k, ⟨go_laws_markBoard_M k, ⟨go_laws_markIntS_M k, ⟨go_laws_heldIntS_M k, trivial⟩⟩⟩⟩⟩⟩⟩⟩⟩⟩) rfl fun x => go_laws_FnExactMiddlesOf_t k x.1 x.2.1

end Go.Lg
