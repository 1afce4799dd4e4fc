/-
  Printed by program: what the functions of the code compute (go_laws_szBoard, go_laws_toBoard, go_laws_toLeaper, go_laws_eqBoard, go_laws_eqIntS, go_laws_markBoard, go_laws_markIntS, go_laws_heldIntS, go_spec_boTwo, go_spec_boLeaps, go_impl_graphOf).
-/
import Derived.Test.YtejfaifipdhecaaEng27
import Derived.Test.YtejfaifipdhecaaProg
set_option linter.unusedVariables false
namespace Go.Lg
open Go.RowKit
noncomputable section
def str_00_01_02_02_03_03_03_03_04_04_04_04_256 : ByteArray := ⟨#[0, 1, 2, 2, 3, 3, 3, 3, 4, 4, 4, 4, 4, 4, 4, 4, 5, 5, 5, 5, 5, 5, 5, 5, 5, 5, 5, 5, 5, 5, 5, 5, 6, 6, 6, 6, 6, 6, 6, 6, 6, 6, 6, 6, 6, 6, 6, 6, 6, 6, 6, 6, 6, 6, 6, 6, 6, 6, 6, 6, 6, 6, 6, 6, 7, 7, 7, 7, 7, 7, 7, 7, 7, 7, 7, 7, 7, 7, 7, 7, 7, 7, 7, 7, 7, 7, 7, 7, 7, 7, 7, 7, 7, 7, 7, 7, 7, 7, 7, 7, 7, 7, 7, 7, 7, 7, 7, 7, 7, 7, 7, 7, 7, 7, 7, 7, 7, 7, 7, 7, 7, 7, 7, 7, 7, 7, 7, 7, 8, 8, 8, 8, 8, 8, 8, 8, 8, 8, 8, 8, 8, 8, 8, 8, 8, 8, 8, 8, 8, 8, 8, 8, 8, 8, 8, 8, 8, 8, 8, 8, 8, 8, 8, 8, 8, 8, 8, 8, 8, 8, 8, 8, 8, 8, 8, 8, 8, 8, 8, 8, 8, 8, 8, 8, 8, 8, 8, 8, 8, 8, 8, 8, 8, 8, 8, 8, 8, 8, 8, 8, 8, 8, 8, 8, 8, 8, 8, 8, 8, 8, 8, 8, 8, 8, 8, 8, 8, 8, 8, 8, 8, 8, 8, 8, 8, 8, 8, 8, 8, 8, 8, 8, 8, 8, 8, 8, 8, 8, 8, 8, 8, 8, 8, 8, 8, 8, 8, 8, 8, 8, 8, 8, 8, 8, 8, 8]⟩
abbrev I : Ty := .int .i64
def TH : List (TypeId × Ty) := [(3, I), (4, .bool), (5, (.int .u8)), (9, .str), (22, (.sl I)), (24, (.pair I (.pair I (.pair (.sl I) .unit)))), (26, (.pair I (.pair I .unit))), (30, (.pair I (.pair I (.pair (.sl I) .unit)))), (32, (.pair I (.pair I .unit))), (51, (.sl (.sl I))), (75, (.pt (.pair (.pair I (.pair I (.pair (.sl I) .unit))) (.pair (.pair I (.pair I .unit)) (.pair (.sl I) (.pair (.sl (.sl I)) .unit)))))), (84, (.pair (.pair I (.pair I (.pair (.sl I) .unit))) (.pair (.pair I (.pair I .unit)) (.pair (.sl I) (.pair (.sl (.sl I)) .unit))))), (122, (.int .u64)), (127, I), (133, (.int .u32)), (135, (.int .u64)), (137, (.int .u64)), (141, (.pt I)), (143, (.pt (.int .u64)))]
def SE : List (TypeId × TypeId) := [(22, 3), (51, 22)]
def bodyOf (f : Func) : Code := f.body.getD .skip
def C00 : Ctx := { th := TH, se := SE, sg := [], mu := [], an := [], dr := [], pre := [], m := 0, fx := [], n := 0, k := 0 }
theorem th00 : thOk Go.Proofs.Try.prog C00 = true := by kernel_rfl
theorem th0 {C : Ctx} (h1 : C.th = TH := by rfl) (h2 : C.se = SE := by rfl) : thOk Go.Proofs.Try.prog C = true := by
  have : thOk Go.Proofs.Try.prog C = thOk Go.Proofs.Try.prog C00 := by unfold thOk; rw [h1, h2]; rfl
  rw [this]; exact th00
theorem mixed0 : Go.Proofs.Try.prog.follows .mixedOrders = true := by kernel_rfl
def All (P : Program) : List (FuncId × Spec) → Prop
  | [] => True
  | (f, s) :: r => Meets P f s ∧ All P r
theorem sigs_all {P : Program} {C : Ctx} {l : List (FuncId × Spec)} (h : C.sg = l) (ha : All P l) : Sigs P C := by
  intro fid sp hf
  rw [h] at hf
  clear h
  induction l with
  | nil => simp [find] at hf
  | cons p r ih =>
    obtain ⟨f, s⟩ := p
    simp only [find] at hf
    split at hf
    · rename_i hb
      obtain rfl := Option.some.inj hf
      obtain rfl := Nat.eq_of_beq_eq_true hb
      exact ha.1
    · exact ih ha.2 hf
/-! ### laws.szIntS -/
def go_laws_szIntS_C (k : Nat) : Ctx := { th := TH, se := SE, sg := [], mu := [], an := [], dr := [], pre := [], d2 := [], m := 0, fx := [], n := 12, k := k }
def go_laws_szIntS (k : Nat) (a0 : (List Int)) (a1 : Int) : Option Int :=
  if (decide ((IntKind.i64.wrap (a1 - (a0.length : Int))) < (0 : Int))) = true then
    some (-1 : Int)
  else
    some (IntKind.i64.wrap (a1 - (a0.length : Int)))
theorem go_laws_szIntS_t (k : Nat) (a0 : (List Int)) (a1 : Int) : runPure (go_laws_szIntS_C k) (bodyOf Go.Proofs.Try.f85) Go.Proofs.Try.f85.results.toList false (.pr (.val (.sl I)) (.pr (.val I) .un)) (.val I) (a0, a1, ()) = go_laws_szIntS k a0 a1 := by kernel_rfl
def go_laws_szIntS_S (k : Nat) : Spec := ⟨(.pr (.val (.sl I)) (.pr (.val I) .un)), (.val I), false, .inl fun x => go_laws_szIntS k x.1 x.2.1⟩
theorem go_laws_szIntS_F (k : Nat) : Fits Go.Proofs.Try.prog (go_laws_szIntS_C k) 85 Go.Proofs.Try.f85 (bodyOf Go.Proofs.Try.f85) (.pr (.val (.sl I)) (.pr (.val I) .un)) (.val I) false :=
  ⟨th0, mixed0, by kernel_rfl, Go.Proofs.Try.func85, rfl, by kernel_rfl, rfl, rfl, rfl, rfl, rfl, rfl⟩
theorem go_laws_szIntS_M (k : Nat) : Meets Go.Proofs.Try.prog 85 (go_laws_szIntS_S k) :=
  meets_pure (go_laws_szIntS_F k) (sigs_all (l := []) rfl trivial) rfl fun x => go_laws_szIntS_t k x.1 x.2.1

/-! ### laws.szBoard -/
def go_laws_szBoard_C (k : Nat) : Ctx := { th := TH, se := SE, sg := [(85, go_laws_szIntS_S k)], mu := [], an := [], dr := [], pre := [], d2 := [], m := 0, fx := [], n := 12, k := k }
def go_laws_szBoard (k : Nat) (a0 : (Int × (Int × ((List Int) × Unit)))) (a1 : Int) : Option Int :=
  (go_laws_szIntS k a0.2.2.1 a1).bind fun r1 =>
  if (decide (r1 < (0 : Int))) = true then
    some (-1 : Int)
  else
    some r1
theorem go_laws_szBoard_t (k : Nat) (a0 : (Int × (Int × ((List Int) × Unit)))) (a1 : Int) : runPure (go_laws_szBoard_C k) (bodyOf Go.Proofs.Try.f15) Go.Proofs.Try.f15.results.toList false (.pr (.val (.pair I (.pair I (.pair (.sl I) .unit)))) (.pr (.val I) .un)) (.val I) (a0, a1, ()) = go_laws_szBoard k a0 a1 := by kernel_rfl
def go_laws_szBoard_S (k : Nat) : Spec := ⟨(.pr (.val (.pair I (.pair I (.pair (.sl I) .unit)))) (.pr (.val I) .un)), (.val I), false, .inl fun x => go_laws_szBoard k x.1 x.2.1⟩
theorem go_laws_szBoard_F (k : Nat) : Fits Go.Proofs.Try.prog (go_laws_szBoard_C k) 15 Go.Proofs.Try.f15 (bodyOf Go.Proofs.Try.f15) (.pr (.val (.pair I (.pair I (.pair (.sl I) .unit)))) (.pr (.val I) .un)) (.val I) false :=
  ⟨th0, mixed0, by kernel_rfl, Go.Proofs.Try.func15, rfl, by kernel_rfl, rfl, rfl, rfl, rfl, rfl, rfl⟩
theorem go_laws_szBoard_M (k : Nat) : Meets Go.Proofs.Try.prog 15 (go_laws_szBoard_S k) :=
  meets_pure (go_laws_szBoard_F k) (sigs_all (l := [(85, go_laws_szIntS_S k)]) rfl ⟨go_laws_szIntS_M k, trivial⟩) rfl fun x => go_laws_szBoard_t k x.1 x.2.1

/-! ### laws.toIntS -/
def go_laws_toIntS_C (k : Nat) : Ctx := { th := TH, se := SE, sg := [], mu := [], an := [(3, [(0, false), (3, false), (4, false)])], dr := [], pre := [], d2 := [], m := 0, fx := [], n := 22, k := k }
def go_laws_toIntS_L0_E (a0 : (List Int)) (x5 : (Int × (List Int))) : St :=
  ⟨[(0, .one (.val (.sl I) a0), []), (3, .one (.own 0), []), (4, .one (.val I x5.1), [])], [.arr 3 I x5.2], []⟩
def go_laws_toIntS_L0_G (k : Nat) (a0 : (List Int)) (rec6 : (Int × (List Int)) → Option (List Int)) (x5 : (Int × (List Int))) : Option (List Int) :=
  if (decide (x5.1 < (a0.length : Int))) = true then
    if (inb x5.1 a0.length) = true then
    if (inb x5.1 x5.2.length) = true then
    rec6 ((IntKind.i64.wrap (x5.1 + (1 : Int))), (x5.2.set x5.1.toNat (a0.getD x5.1.toNat (0 : Int))))
    else none
    else none
  else
    some x5.2
def go_laws_toIntS_L0 (k : Nat) (a0 : (List Int)) : (Int × (List Int)) → Option (List Int) :=
  iter k fun rec6 x5 => go_laws_toIntS_L0_G k a0 rec6 x5
theorem go_laws_toIntS_L0_t (k : Nat) (a0 : (List Int)) (x : (Int × (List Int))) :
    iter k (loopAt (go_laws_toIntS_C k) (bodyOf Go.Proofs.Try.f89) [1, 1, 0, 1, 0] [] (finPure (go_laws_toIntS_C k) Go.Proofs.Try.f89.results.toList false (.own 3 I))) (go_laws_toIntS_L0_E a0 x) = go_laws_toIntS_L0 k a0 x := by
  refine iter_tie (G := fun rec x => go_laws_toIntS_L0_G k a0 rec x) (go_laws_toIntS_L0_E a0) (fun rec x => ?_) k x
  have h : loopAt (go_laws_toIntS_C k) (bodyOf Go.Proofs.Try.f89) [1, 1, 0, 1, 0] [] (finPure (go_laws_toIntS_C k) Go.Proofs.Try.f89.results.toList false (.own 3 I)) rec (go_laws_toIntS_L0_E a0 x) = go_laws_toIntS_L0_G k a0 (fun y => rec (go_laws_toIntS_L0_E a0 y)) x := by kernel_rfl
  rw [h]
def go_laws_toIntS_T (k : Nat) (a0 : (List Int)) (l_0 : (Int × (List Int)) → Option (List Int)) : Option (List Int) :=
  if (decide (0 ≤ (a0.length : Int) ∧ (a0.length : Int) ≤ (LIM : Int))) = true then
  l_0 ((0 : Int), (List.replicate (a0.length : Int).toNat (0 : Int)))
  else none
def go_laws_toIntS (k : Nat) (a0 : (List Int)) : Option (List Int) :=
  go_laws_toIntS_T k a0 (fun y => go_laws_toIntS_L0 k a0 y)
theorem go_laws_toIntS_t (k : Nat) (a0 : (List Int)) : runPure (go_laws_toIntS_C k) (bodyOf Go.Proofs.Try.f89) Go.Proofs.Try.f89.results.toList false (.pr (.val (.sl I)) .un) (.own 3 I) (a0, ()) = go_laws_toIntS k a0 := by
  have h : runPure (go_laws_toIntS_C k) (bodyOf Go.Proofs.Try.f89) Go.Proofs.Try.f89.results.toList false (.pr (.val (.sl I)) .un) (.own 3 I) (a0, ()) = go_laws_toIntS_T k a0 (fun y => iter k (loopAt (go_laws_toIntS_C k) (bodyOf Go.Proofs.Try.f89) [1, 1, 0, 1, 0] [] (finPure (go_laws_toIntS_C k) Go.Proofs.Try.f89.results.toList false (.own 3 I))) (go_laws_toIntS_L0_E a0 y)) := by kernel_rfl
  have h0 : (fun y => iter k (loopAt (go_laws_toIntS_C k) (bodyOf Go.Proofs.Try.f89) [1, 1, 0, 1, 0] [] (finPure (go_laws_toIntS_C k) Go.Proofs.Try.f89.results.toList false (.own 3 I))) (go_laws_toIntS_L0_E a0 y)) = (fun y => go_laws_toIntS_L0 k a0 y) := by
    funext y
    exact go_laws_toIntS_L0_t k a0 y
  rw [h, h0]
  rfl
def go_laws_toIntS_S (k : Nat) : Spec := ⟨(.pr (.val (.sl I)) .un), (.own 3 I), false, .inl fun x => go_laws_toIntS k x.1⟩
theorem go_laws_toIntS_F (k : Nat) : Fits Go.Proofs.Try.prog (go_laws_toIntS_C k) 89 Go.Proofs.Try.f89 (bodyOf Go.Proofs.Try.f89) (.pr (.val (.sl I)) .un) (.own 3 I) false :=
  ⟨th0, mixed0, by kernel_rfl, Go.Proofs.Try.func89, rfl, by kernel_rfl, rfl, rfl, rfl, rfl, rfl, rfl⟩
theorem go_laws_toIntS_M (k : Nat) : Meets Go.Proofs.Try.prog 89 (go_laws_toIntS_S k) :=
  meets_pure (go_laws_toIntS_F k) (sigs_all (l := []) rfl trivial) rfl fun x => go_laws_toIntS_t k x.1

/-! ### laws.toBoard -/
def go_laws_toBoard_C (k : Nat) : Ctx := { th := TH, se := SE, sg := [(89, go_laws_toIntS_S k)], mu := [12], an := [], dr := [], pre := [], d2 := [], m := 0, fx := [], n := 15, k := k }
def go_laws_toBoard (k : Nat) (a0 : (Int × (Int × ((List Int) × Unit)))) : Option (Int × (Int × ((List Int) × Unit))) :=
  (go_laws_toIntS k a0.2.2.1).bind fun r1 =>
  some (a0.1, (a0.2.1, (r1, ())))
theorem go_laws_toBoard_t (k : Nat) (a0 : (Int × (Int × ((List Int) × Unit)))) : runPure (go_laws_toBoard_C k) (bodyOf Go.Proofs.Try.f17) Go.Proofs.Try.f17.results.toList false (.pr (.val (.pair I (.pair I (.pair (.sl I) .unit)))) .un) (.pr (.val I) (.pr (.val I) (.pr (.own 3 I) .un))) (a0, ()) = go_laws_toBoard k a0 := by kernel_rfl
def go_laws_toBoard_S (k : Nat) : Spec := ⟨(.pr (.val (.pair I (.pair I (.pair (.sl I) .unit)))) .un), (.pr (.val I) (.pr (.val I) (.pr (.own 3 I) .un))), false, .inl fun x => go_laws_toBoard k x.1⟩
theorem go_laws_toBoard_F (k : Nat) : Fits Go.Proofs.Try.prog (go_laws_toBoard_C k) 17 Go.Proofs.Try.f17 (bodyOf Go.Proofs.Try.f17) (.pr (.val (.pair I (.pair I (.pair (.sl I) .unit)))) .un) (.pr (.val I) (.pr (.val I) (.pr (.own 3 I) .un))) false :=
  ⟨th0, mixed0, by kernel_rfl, Go.Proofs.Try.func17, rfl, by kernel_rfl, rfl, rfl, rfl, rfl, rfl, rfl⟩
theorem go_laws_toBoard_M (k : Nat) : Meets Go.Proofs.Try.prog 17 (go_laws_toBoard_S k) :=
  meets_pure (go_laws_toBoard_F k) (sigs_all (l := [(89, go_laws_toIntS_S k)]) rfl ⟨go_laws_toIntS_M k, trivial⟩) rfl fun x => go_laws_toBoard_t k x.1

/-! ### laws.toLeaper -/
def go_laws_toLeaper_C (k : Nat) : Ctx := { th := TH, se := SE, sg := [], mu := [], an := [], dr := [], pre := [], d2 := [], m := 0, fx := [], n := 11, k := k }
def go_laws_toLeaper (k : Nat) (a0 : (Int × (Int × Unit))) : Option (Int × (Int × Unit)) :=
  some (a0.1, (a0.2.1, ()))
theorem go_laws_toLeaper_t (k : Nat) (a0 : (Int × (Int × Unit))) : runPure (go_laws_toLeaper_C k) (bodyOf Go.Proofs.Try.f18) Go.Proofs.Try.f18.results.toList false (.pr (.val (.pair I (.pair I .unit))) .un) (.val (.pair I (.pair I .unit))) (a0, ()) = go_laws_toLeaper k a0 := by kernel_rfl
def go_laws_toLeaper_S (k : Nat) : Spec := ⟨(.pr (.val (.pair I (.pair I .unit))) .un), (.val (.pair I (.pair I .unit))), false, .inl fun x => go_laws_toLeaper k x.1⟩
theorem go_laws_toLeaper_F (k : Nat) : Fits Go.Proofs.Try.prog (go_laws_toLeaper_C k) 18 Go.Proofs.Try.f18 (bodyOf Go.Proofs.Try.f18) (.pr (.val (.pair I (.pair I .unit))) .un) (.val (.pair I (.pair I .unit))) false :=
  ⟨th0, mixed0, by kernel_rfl, Go.Proofs.Try.func18, rfl, by kernel_rfl, rfl, rfl, rfl, rfl, rfl, rfl⟩
theorem go_laws_toLeaper_M (k : Nat) : Meets Go.Proofs.Try.prog 18 (go_laws_toLeaper_S k) :=
  meets_pure (go_laws_toLeaper_F k) (sigs_all (l := []) rfl trivial) rfl fun x => go_laws_toLeaper_t k x.1

/-! ### laws.eqIntS -/
def go_laws_eqIntS_C (k : Nat) : Ctx := { th := TH, se := SE, sg := [], mu := [], an := [(4, [(0, false), (1, false), (5, false)])], dr := [(6, 8)], pre := [], d2 := [], m := 0, fx := [], n := 26, k := k }
def go_laws_eqIntS_L0_E (a0 : (List Int)) (a1 : (List Int)) (x3 : (Int)) : St :=
  ⟨[(0, .one (.val (.sl I) a0), []), (1, .one (.val (.sl I) a1), []), (5, .one (.val I x3), [])], [], []⟩
def go_laws_eqIntS_L0_G (k : Nat) (a0 : (List Int)) (a1 : (List Int)) (rec4 : (Int) → Option Bool) (x3 : (Int)) : Option Bool :=
  if (decide (x3 < (a0.length : Int))) = true then
    if (inb x3 a0.length) = true then
    if (inb x3 a1.length) = true then
    if (!decide ((a0.getD x3.toNat (0 : Int)) = (a1.getD x3.toNat (0 : Int)))) = true then
      some false
    else
      rec4 (IntKind.i64.wrap (x3 + (1 : Int)))
    else none
    else none
  else
    some true
def go_laws_eqIntS_L0 (k : Nat) (a0 : (List Int)) (a1 : (List Int)) : (Int) → Option Bool :=
  iter k fun rec4 x3 => go_laws_eqIntS_L0_G k a0 a1 rec4 x3
theorem go_laws_eqIntS_L0_t (k : Nat) (a0 : (List Int)) (a1 : (List Int)) (x : (Int)) :
    iter k (loopAt (go_laws_eqIntS_C k) (bodyOf Go.Proofs.Try.f27) [1, 1, 0, 1, 0] [] (finPure (go_laws_eqIntS_C k) Go.Proofs.Try.f27.results.toList false (.val .bool))) (go_laws_eqIntS_L0_E a0 a1 x) = go_laws_eqIntS_L0 k a0 a1 x := by
  refine iter_tie (G := fun rec x => go_laws_eqIntS_L0_G k a0 a1 rec x) (go_laws_eqIntS_L0_E a0 a1) (fun rec x => ?_) k x
  have h : loopAt (go_laws_eqIntS_C k) (bodyOf Go.Proofs.Try.f27) [1, 1, 0, 1, 0] [] (finPure (go_laws_eqIntS_C k) Go.Proofs.Try.f27.results.toList false (.val .bool)) rec (go_laws_eqIntS_L0_E a0 a1 x) = go_laws_eqIntS_L0_G k a0 a1 (fun y => rec (go_laws_eqIntS_L0_E a0 a1 y)) x := by kernel_rfl
  rw [h]
def go_laws_eqIntS_T (k : Nat) (a0 : (List Int)) (a1 : (List Int)) (l_0 : (Int) → Option Bool) : Option Bool :=
  if (!decide ((a0.length : Int) = (a1.length : Int))) = true then
    some false
  else
    l_0 (0 : Int)
def go_laws_eqIntS (k : Nat) (a0 : (List Int)) (a1 : (List Int)) : Option Bool :=
  go_laws_eqIntS_T k a0 a1 (fun y => go_laws_eqIntS_L0 k a0 a1 y)
theorem go_laws_eqIntS_t (k : Nat) (a0 : (List Int)) (a1 : (List Int)) : runPure (go_laws_eqIntS_C k) (bodyOf Go.Proofs.Try.f27) Go.Proofs.Try.f27.results.toList false (.pr (.val (.sl I)) (.pr (.val (.sl I)) .un)) (.val .bool) (a0, a1, ()) = go_laws_eqIntS k a0 a1 := by
  have h : runPure (go_laws_eqIntS_C k) (bodyOf Go.Proofs.Try.f27) Go.Proofs.Try.f27.results.toList false (.pr (.val (.sl I)) (.pr (.val (.sl I)) .un)) (.val .bool) (a0, a1, ()) = go_laws_eqIntS_T k a0 a1 (fun y => iter k (loopAt (go_laws_eqIntS_C k) (bodyOf Go.Proofs.Try.f27) [1, 1, 0, 1, 0] [] (finPure (go_laws_eqIntS_C k) Go.Proofs.Try.f27.results.toList false (.val .bool))) (go_laws_eqIntS_L0_E a0 a1 y)) := by kernel_rfl
  have h0 : (fun y => iter k (loopAt (go_laws_eqIntS_C k) (bodyOf Go.Proofs.Try.f27) [1, 1, 0, 1, 0] [] (finPure (go_laws_eqIntS_C k) Go.Proofs.Try.f27.results.toList false (.val .bool))) (go_laws_eqIntS_L0_E a0 a1 y)) = (fun y => go_laws_eqIntS_L0 k a0 a1 y) := by
    funext y
    exact go_laws_eqIntS_L0_t k a0 a1 y
  rw [h, h0]
  rfl
def go_laws_eqIntS_S (k : Nat) : Spec := ⟨(.pr (.val (.sl I)) (.pr (.val (.sl I)) .un)), (.val .bool), false, .inl fun x => go_laws_eqIntS k x.1 x.2.1⟩
theorem go_laws_eqIntS_F (k : Nat) : Fits Go.Proofs.Try.prog (go_laws_eqIntS_C k) 27 Go.Proofs.Try.f27 (bodyOf Go.Proofs.Try.f27) (.pr (.val (.sl I)) (.pr (.val (.sl I)) .un)) (.val .bool) false :=
  ⟨th0, mixed0, by kernel_rfl, Go.Proofs.Try.func27, rfl, by kernel_rfl, rfl, rfl, rfl, rfl, rfl, rfl⟩
theorem go_laws_eqIntS_M (k : Nat) : Meets Go.Proofs.Try.prog 27 (go_laws_eqIntS_S k) :=
  meets_pure (go_laws_eqIntS_F k) (sigs_all (l := []) rfl trivial) rfl fun x => go_laws_eqIntS_t k x.1 x.2.1

/-! ### laws.eqBoard -/
def go_laws_eqBoard_C (k : Nat) : Ctx := { th := TH, se := SE, sg := [(27, go_laws_eqIntS_S k)], mu := [], an := [], dr := [], pre := [], d2 := [], m := 0, fx := [], n := 21, k := k }
def go_laws_eqBoard (k : Nat) (a0 : (Int × (Int × ((List Int) × Unit)))) (a1 : (Int × (Int × ((List Int) × Unit)))) : Option Bool :=
  if (!decide (a0.1 = a1.1)) = true then
    some false
  else
    if (!decide (a0.2.1 = a1.2.1)) = true then
      some false
    else
      (go_laws_eqIntS k a0.2.2.1 a1.2.2.1).bind fun r1 =>
      if (!r1) = true then
        some false
      else
        some true
theorem go_laws_eqBoard_t (k : Nat) (a0 : (Int × (Int × ((List Int) × Unit)))) (a1 : (Int × (Int × ((List Int) × Unit)))) : runPure (go_laws_eqBoard_C k) (bodyOf Go.Proofs.Try.f20) Go.Proofs.Try.f20.results.toList false (.pr (.val (.pair I (.pair I (.pair (.sl I) .unit)))) (.pr (.val (.pair I (.pair I (.pair (.sl I) .unit)))) .un)) (.val .bool) (a0, a1, ()) = go_laws_eqBoard k a0 a1 := by kernel_rfl
def go_laws_eqBoard_S (k : Nat) : Spec := ⟨(.pr (.val (.pair I (.pair I (.pair (.sl I) .unit)))) (.pr (.val (.pair I (.pair I (.pair (.sl I) .unit)))) .un)), (.val .bool), false, .inl fun x => go_laws_eqBoard k x.1 x.2.1⟩
theorem go_laws_eqBoard_F (k : Nat) : Fits Go.Proofs.Try.prog (go_laws_eqBoard_C k) 20 Go.Proofs.Try.f20 (bodyOf Go.Proofs.Try.f20) (.pr (.val (.pair I (.pair I (.pair (.sl I) .unit)))) (.pr (.val (.pair I (.pair I (.pair (.sl I) .unit)))) .un)) (.val .bool) false :=
  ⟨th0, mixed0, by kernel_rfl, Go.Proofs.Try.func20, rfl, by kernel_rfl, rfl, rfl, rfl, rfl, rfl, rfl⟩
theorem go_laws_eqBoard_M (k : Nat) : Meets Go.Proofs.Try.prog 20 (go_laws_eqBoard_S k) :=
  meets_pure (go_laws_eqBoard_F k) (sigs_all (l := [(27, go_laws_eqIntS_S k)]) rfl ⟨go_laws_eqIntS_M k, trivial⟩) rfl fun x => go_laws_eqBoard_t k x.1 x.2.1

/-! ### laws.markIntS -/
def go_laws_markIntS_C (k : Nat) : Ctx := { th := TH, se := SE, sg := [], mu := [], an := [(2, [(0, false), (1, false), (5, false)])], dr := [], pre := [], d2 := [], m := 1, fx := [0], n := 19, k := k }
def go_laws_markIntS_L0_E (a0 : (List Int)) (a1 : Int) (x7 : (Int × Int × (List Int))) : St :=
  ⟨[(0, .one (.own 0), []), (1, .one (.val I x7.1), []), (5, .one (.val I x7.2.1), [])], [.arr 3 I x7.2.2], []⟩
def go_laws_markIntS_L0_G (k : Nat) (a0 : (List Int)) (a1 : Int) (rec8 : (Int × Int × (List Int)) → Option (Int × ((List Int) × (Int × Unit)))) (x7 : (Int × Int × (List Int))) : Option (Int × ((List Int) × (Int × Unit))) :=
  if (decide (x7.2.1 < (x7.2.2.length : Int))) = true then
    if (inb x7.2.1 x7.2.2.length) = true then
    rec8 ((IntKind.i64.wrap (x7.1 + (1 : Int))), (IntKind.i64.wrap (x7.2.1 + (1 : Int))), (x7.2.2.set x7.2.1.toNat x7.1))
    else none
  else
    some (x7.1, (x7.2.2, (a1, ())))
def go_laws_markIntS_L0 (k : Nat) (a0 : (List Int)) (a1 : Int) : (Int × Int × (List Int)) → Option (Int × ((List Int) × (Int × Unit))) :=
  iter k fun rec8 x7 => go_laws_markIntS_L0_G k a0 a1 rec8 x7
theorem go_laws_markIntS_L0_t (k : Nat) (a0 : (List Int)) (a1 : Int) (x : (Int × Int × (List Int))) :
    iter k (loopAt (go_laws_markIntS_C k) (bodyOf Go.Proofs.Try.f29) [1, 0, 1, 0] [] (finEff (go_laws_markIntS_C k) Go.Proofs.Try.f29.results.toList false (.pr (.own 3 I) (.pr (.val I) .un)) (.val I) (a0, a1, ()))) (go_laws_markIntS_L0_E a0 a1 x) = go_laws_markIntS_L0 k a0 a1 x := by
  refine iter_tie (G := fun rec x => go_laws_markIntS_L0_G k a0 a1 rec x) (go_laws_markIntS_L0_E a0 a1) (fun rec x => ?_) k x
  have h : loopAt (go_laws_markIntS_C k) (bodyOf Go.Proofs.Try.f29) [1, 0, 1, 0] [] (finEff (go_laws_markIntS_C k) Go.Proofs.Try.f29.results.toList false (.pr (.own 3 I) (.pr (.val I) .un)) (.val I) (a0, a1, ())) rec (go_laws_markIntS_L0_E a0 a1 x) = go_laws_markIntS_L0_G k a0 a1 (fun y => rec (go_laws_markIntS_L0_E a0 a1 y)) x := by kernel_rfl
  rw [h]
def go_laws_markIntS_T (k : Nat) (a0 : (List Int)) (a1 : Int) (l_0 : (Int × Int × (List Int)) → Option (Int × ((List Int) × (Int × Unit)))) : Option (Int × ((List Int) × (Int × Unit))) :=
  l_0 (a1, (0 : Int), a0)
def go_laws_markIntS (k : Nat) (a0 : (List Int)) (a1 : Int) : Option (Int × ((List Int) × (Int × Unit))) :=
  go_laws_markIntS_T k a0 a1 (fun y => go_laws_markIntS_L0 k a0 a1 y)
theorem go_laws_markIntS_t (k : Nat) (a0 : (List Int)) (a1 : Int) : runEff (go_laws_markIntS_C k) (bodyOf Go.Proofs.Try.f29) Go.Proofs.Try.f29.results.toList false (.pr (.own 3 I) (.pr (.val I) .un)) (.val I) (a0, a1, ()) = go_laws_markIntS k a0 a1 := by
  have h : runEff (go_laws_markIntS_C k) (bodyOf Go.Proofs.Try.f29) Go.Proofs.Try.f29.results.toList false (.pr (.own 3 I) (.pr (.val I) .un)) (.val I) (a0, a1, ()) = go_laws_markIntS_T k a0 a1 (fun y => iter k (loopAt (go_laws_markIntS_C k) (bodyOf Go.Proofs.Try.f29) [1, 0, 1, 0] [] (finEff (go_laws_markIntS_C k) Go.Proofs.Try.f29.results.toList false (.pr (.own 3 I) (.pr (.val I) .un)) (.val I) (a0, a1, ()))) (go_laws_markIntS_L0_E a0 a1 y)) := by kernel_rfl
  have h0 : (fun y => iter k (loopAt (go_laws_markIntS_C k) (bodyOf Go.Proofs.Try.f29) [1, 0, 1, 0] [] (finEff (go_laws_markIntS_C k) Go.Proofs.Try.f29.results.toList false (.pr (.own 3 I) (.pr (.val I) .un)) (.val I) (a0, a1, ()))) (go_laws_markIntS_L0_E a0 a1 y)) = (fun y => go_laws_markIntS_L0 k a0 a1 y) := by
    funext y
    exact go_laws_markIntS_L0_t k a0 a1 y
  rw [h, h0]
  rfl
def go_laws_markIntS_S (k : Nat) : Spec := ⟨(.pr (.own 3 I) (.pr (.val I) .un)), (.val I), false, .inr fun x => go_laws_markIntS k x.1 x.2.1⟩
theorem go_laws_markIntS_F (k : Nat) : Fits Go.Proofs.Try.prog (go_laws_markIntS_C k) 29 Go.Proofs.Try.f29 (bodyOf Go.Proofs.Try.f29) (.pr (.own 3 I) (.pr (.val I) .un)) (.val I) false :=
  ⟨th0, mixed0, by kernel_rfl, Go.Proofs.Try.func29, rfl, by kernel_rfl, rfl, rfl, rfl, rfl, rfl, rfl⟩
theorem go_laws_markIntS_M (k : Nat) : Meets Go.Proofs.Try.prog 29 (go_laws_markIntS_S k) :=
  meets_eff (go_laws_markIntS_F k) (sigs_all (l := []) rfl trivial) fun x => go_laws_markIntS_t k x.1 x.2.1

/-! ### laws.markBoard -/
def go_laws_markBoard_C (k : Nat) : Ctx := { th := TH, se := SE, sg := [(29, go_laws_markIntS_S k)], mu := [2], an := [], dr := [], pre := [], d2 := [], m := 1, fx := [0], n := 10, k := k }
def go_laws_markBoard (k : Nat) (a0 : (Int × (Int × ((List Int) × Unit)))) (a1 : Int) : Option (Int × ((Int × (Int × ((List Int) × Unit))) × (Int × Unit))) :=
  (go_laws_markIntS k a0.2.2.1 a1).bind fun r1 =>
  some (r1.1, ((a0.1, (a0.2.1, (r1.2.1, ()))), (a1, ())))
theorem go_laws_markBoard_t (k : Nat) (a0 : (Int × (Int × ((List Int) × Unit)))) (a1 : Int) : runEff (go_laws_markBoard_C k) (bodyOf Go.Proofs.Try.f28) Go.Proofs.Try.f28.results.toList false (.pr (.pr (.val I) (.pr (.val I) (.pr (.own 3 I) .un))) (.pr (.val I) .un)) (.val I) (a0, a1, ()) = go_laws_markBoard k a0 a1 := by kernel_rfl
def go_laws_markBoard_S (k : Nat) : Spec := ⟨(.pr (.pr (.val I) (.pr (.val I) (.pr (.own 3 I) .un))) (.pr (.val I) .un)), (.val I), false, .inr fun x => go_laws_markBoard k x.1 x.2.1⟩
theorem go_laws_markBoard_F (k : Nat) : Fits Go.Proofs.Try.prog (go_laws_markBoard_C k) 28 Go.Proofs.Try.f28 (bodyOf Go.Proofs.Try.f28) (.pr (.pr (.val I) (.pr (.val I) (.pr (.own 3 I) .un))) (.pr (.val I) .un)) (.val I) false :=
  ⟨th0, mixed0, by kernel_rfl, Go.Proofs.Try.func28, rfl, by kernel_rfl, rfl, rfl, rfl, rfl, rfl, rfl⟩
theorem go_laws_markBoard_M (k : Nat) : Meets Go.Proofs.Try.prog 28 (go_laws_markBoard_S k) :=
  meets_eff (go_laws_markBoard_F k) (sigs_all (l := [(29, go_laws_markIntS_S k)]) rfl ⟨go_laws_markIntS_M k, trivial⟩) fun x => go_laws_markBoard_t k x.1 x.2.1

/-! ### laws.heldIntS -/
def go_laws_heldIntS_C (k : Nat) : Ctx := { th := TH, se := SE, sg := [], mu := [], an := [(2, [(0, false), (1, false), (5, false)])], dr := [], pre := [], d2 := [], m := 0, fx := [], n := 21, k := k }
def go_laws_heldIntS_L0_E (a0 : (List Int)) (a1 : Int) (x5 : (Int × Int)) : St :=
  ⟨[(0, .one (.val (.sl I) a0), []), (1, .one (.val I x5.1), []), (5, .one (.val I x5.2), [])], [], []⟩
def go_laws_heldIntS_L0_G (k : Nat) (a0 : (List Int)) (a1 : Int) (rec6 : (Int × Int) → Option Int) (x5 : (Int × Int)) : Option Int :=
  if (decide (x5.2 < (a0.length : Int))) = true then
    if (inb x5.2 a0.length) = true then
    if (!decide ((a0.getD x5.2.toNat (0 : Int)) = x5.1)) = true then
      some (-1 : Int)
    else
      rec6 ((IntKind.i64.wrap (x5.1 + (1 : Int))), (IntKind.i64.wrap (x5.2 + (1 : Int))))
    else none
  else
    some x5.1
def go_laws_heldIntS_L0 (k : Nat) (a0 : (List Int)) (a1 : Int) : (Int × Int) → Option Int :=
  iter k fun rec6 x5 => go_laws_heldIntS_L0_G k a0 a1 rec6 x5
theorem go_laws_heldIntS_L0_t (k : Nat) (a0 : (List Int)) (a1 : Int) (x : (Int × Int)) :
    iter k (loopAt (go_laws_heldIntS_C k) (bodyOf Go.Proofs.Try.f30) [1, 0, 1, 0] [] (finPure (go_laws_heldIntS_C k) Go.Proofs.Try.f30.results.toList false (.val I))) (go_laws_heldIntS_L0_E a0 a1 x) = go_laws_heldIntS_L0 k a0 a1 x := by
  refine iter_tie (G := fun rec x => go_laws_heldIntS_L0_G k a0 a1 rec x) (go_laws_heldIntS_L0_E a0 a1) (fun rec x => ?_) k x
  have h : loopAt (go_laws_heldIntS_C k) (bodyOf Go.Proofs.Try.f30) [1, 0, 1, 0] [] (finPure (go_laws_heldIntS_C k) Go.Proofs.Try.f30.results.toList false (.val I)) rec (go_laws_heldIntS_L0_E a0 a1 x) = go_laws_heldIntS_L0_G k a0 a1 (fun y => rec (go_laws_heldIntS_L0_E a0 a1 y)) x := by kernel_rfl
  rw [h]
def go_laws_heldIntS_T (k : Nat) (a0 : (List Int)) (a1 : Int) (l_0 : (Int × Int) → Option Int) : Option Int :=
  l_0 (a1, (0 : Int))
def go_laws_heldIntS (k : Nat) (a0 : (List Int)) (a1 : Int) : Option Int :=
  go_laws_heldIntS_T k a0 a1 (fun y => go_laws_heldIntS_L0 k a0 a1 y)
theorem go_laws_heldIntS_t (k : Nat) (a0 : (List Int)) (a1 : Int) : runPure (go_laws_heldIntS_C k) (bodyOf Go.Proofs.Try.f30) Go.Proofs.Try.f30.results.toList false (.pr (.val (.sl I)) (.pr (.val I) .un)) (.val I) (a0, a1, ()) = go_laws_heldIntS k a0 a1 := by
  have h : runPure (go_laws_heldIntS_C k) (bodyOf Go.Proofs.Try.f30) Go.Proofs.Try.f30.results.toList false (.pr (.val (.sl I)) (.pr (.val I) .un)) (.val I) (a0, a1, ()) = go_laws_heldIntS_T k a0 a1 (fun y => iter k (loopAt (go_laws_heldIntS_C k) (bodyOf Go.Proofs.Try.f30) [1, 0, 1, 0] [] (finPure (go_laws_heldIntS_C k) Go.Proofs.Try.f30.results.toList false (.val I))) (go_laws_heldIntS_L0_E a0 a1 y)) := by kernel_rfl
  have h0 : (fun y => iter k (loopAt (go_laws_heldIntS_C k) (bodyOf Go.Proofs.Try.f30) [1, 0, 1, 0] [] (finPure (go_laws_heldIntS_C k) Go.Proofs.Try.f30.results.toList false (.val I))) (go_laws_heldIntS_L0_E a0 a1 y)) = (fun y => go_laws_heldIntS_L0 k a0 a1 y) := by
    funext y
    exact go_laws_heldIntS_L0_t k a0 a1 y
  rw [h, h0]
  rfl
def go_laws_heldIntS_S (k : Nat) : Spec := ⟨(.pr (.val (.sl I)) (.pr (.val I) .un)), (.val I), false, .inl fun x => go_laws_heldIntS k x.1 x.2.1⟩
theorem go_laws_heldIntS_F (k : Nat) : Fits Go.Proofs.Try.prog (go_laws_heldIntS_C k) 30 Go.Proofs.Try.f30 (bodyOf Go.Proofs.Try.f30) (.pr (.val (.sl I)) (.pr (.val I) .un)) (.val I) false :=
  ⟨th0, mixed0, by kernel_rfl, Go.Proofs.Try.func30, rfl, by kernel_rfl, rfl, rfl, rfl, rfl, rfl, rfl⟩
theorem go_laws_heldIntS_M (k : Nat) : Meets Go.Proofs.Try.prog 30 (go_laws_heldIntS_S k) :=
  meets_pure (go_laws_heldIntS_F k) (sigs_all (l := []) rfl trivial) rfl fun x => go_laws_heldIntS_t k x.1 x.2.1

/-! ### impl.sized -/
def go_impl_sized_C (k : Nat) : Ctx := { th := TH, se := SE, sg := [], mu := [], an := [], dr := [], pre := [], d2 := [], m := 0, fx := [], n := 9, k := k }
def go_impl_sized (k : Nat) (a0 : Int) : Option Bool :=
  some ((decide ((1 : Int) ≤ a0)) && (decide (a0 ≤ (8 : Int))))
theorem go_impl_sized_t (k : Nat) (a0 : Int) : runPure (go_impl_sized_C k) (bodyOf Go.Proofs.Try.f133) Go.Proofs.Try.f133.results.toList false (.pr (.val I) .un) (.val .bool) (a0, ()) = go_impl_sized k a0 := by kernel_rfl
def go_impl_sized_S (k : Nat) : Spec := ⟨(.pr (.val I) .un), (.val .bool), false, .inl fun x => go_impl_sized k x.1⟩
theorem go_impl_sized_F (k : Nat) : Fits Go.Proofs.Try.prog (go_impl_sized_C k) 133 Go.Proofs.Try.f133 (bodyOf Go.Proofs.Try.f133) (.pr (.val I) .un) (.val .bool) false :=
  ⟨th0, mixed0, by kernel_rfl, Go.Proofs.Try.func133, rfl, by kernel_rfl, rfl, rfl, rfl, rfl, rfl, rfl⟩
theorem go_impl_sized_M (k : Nat) : Meets Go.Proofs.Try.prog 133 (go_impl_sized_S k) :=
  meets_pure (go_impl_sized_F k) (sigs_all (l := []) rfl trivial) rfl fun x => go_impl_sized_t k x.1

/-! ### impl.IsBoard -/
def go_impl_IsBoard_C (k : Nat) : Ctx := { th := TH, se := SE, sg := [(133, go_impl_sized_S k)], mu := [], an := [(4, [(1, false), (27, false), (28, false), (29, false)])], dr := [], pre := [], d2 := [], m := 0, fx := [], n := 60, k := k }
def go_impl_IsBoard_L0_E (a0 : (Int × (Int × ((List Int) × Unit)))) (x5 : (Int)) : St :=
  ⟨[(1, .one (.val (.pt (.pair I (.pair I (.pair (.sl I) .unit)))) (some a0)), []), (27, .one (.val (.sl I) a0.2.2.1), []), (28, .one (.val I (a0.2.2.1.length : Int)), []), (29, .one (.val I x5), [])], [], []⟩
def go_impl_IsBoard_L0_G (k : Nat) (a0 : (Int × (Int × ((List Int) × Unit)))) (rec6 : (Int) → Option Bool) (x5 : (Int)) : Option Bool :=
  if (decide (x5 < (a0.2.2.1.length : Int))) = true then
    if (inb x5 a0.2.2.1.length) = true then
    if (!((decide ((0 : Int) < x5)) && (!((decide ((a0.2.2.1.getD x5.toNat (0 : Int)) < (0 : Int))) || (decide ((IntKind.i64.wrap (a0.1 * a0.2.1)) ≤ (a0.2.2.1.getD x5.toNat (0 : Int))))))) || (inb (IntKind.i64.wrap (x5 - (1 : Int))) a0.2.2.1.length)) = true then
    if (((decide ((a0.2.2.1.getD x5.toNat (0 : Int)) < (0 : Int))) || (decide ((IntKind.i64.wrap (a0.1 * a0.2.1)) ≤ (a0.2.2.1.getD x5.toNat (0 : Int))))) || ((decide ((0 : Int) < x5)) && (decide ((a0.2.2.1.getD x5.toNat (0 : Int)) ≤ (a0.2.2.1.getD (IntKind.i64.wrap (x5 - (1 : Int))).toNat (0 : Int)))))) = true then
      some false
    else
      rec6 (IntKind.i64.wrap (x5 + (1 : Int)))
    else none
    else none
  else
    some true
def go_impl_IsBoard_L0 (k : Nat) (a0 : (Int × (Int × ((List Int) × Unit)))) : (Int) → Option Bool :=
  iter k fun rec6 x5 => go_impl_IsBoard_L0_G k a0 rec6 x5
theorem go_impl_IsBoard_L0_t (k : Nat) (a0 : (Int × (Int × ((List Int) × Unit)))) (x : (Int)) :
    iter k (loopAt (go_impl_IsBoard_C k) (bodyOf Go.Proofs.Try.f69) [1, 1, 0, 1, 0] [] (finPure (go_impl_IsBoard_C k) Go.Proofs.Try.f69.results.toList false (.val .bool))) (go_impl_IsBoard_L0_E a0 x) = go_impl_IsBoard_L0 k a0 x := by
  refine iter_tie (G := fun rec x => go_impl_IsBoard_L0_G k a0 rec x) (go_impl_IsBoard_L0_E a0) (fun rec x => ?_) k x
  have h : loopAt (go_impl_IsBoard_C k) (bodyOf Go.Proofs.Try.f69) [1, 1, 0, 1, 0] [] (finPure (go_impl_IsBoard_C k) Go.Proofs.Try.f69.results.toList false (.val .bool)) rec (go_impl_IsBoard_L0_E a0 x) = go_impl_IsBoard_L0_G k a0 (fun y => rec (go_impl_IsBoard_L0_E a0 y)) x := by kernel_rfl
  rw [h]
def go_impl_IsBoard_T (k : Nat) (a0 : (Int × (Int × ((List Int) × Unit)))) (l_0 : (Int) → Option Bool) : Option Bool :=
  (go_impl_sized k a0.1).bind fun r1 =>
  (if (!(!r1)) = true then go_impl_sized k a0.2.1 else some false).bind fun r2 =>
  if (((!r1) || (!r2)) || (decide ((IntKind.i64.wrap (a0.1 * a0.2.1)) ≤ (a0.2.2.1.length : Int)))) = true then
    some false
  else
    l_0 (0 : Int)
def go_impl_IsBoard (k : Nat) (a0 : (Int × (Int × ((List Int) × Unit)))) : Option Bool :=
  go_impl_IsBoard_T k a0 (fun y => go_impl_IsBoard_L0 k a0 y)
theorem go_impl_IsBoard_t (k : Nat) (a0 : (Int × (Int × ((List Int) × Unit)))) : runPure (go_impl_IsBoard_C k) (bodyOf Go.Proofs.Try.f69) Go.Proofs.Try.f69.results.toList false (.pr (.val (.pair I (.pair I (.pair (.sl I) .unit)))) .un) (.val .bool) (a0, ()) = go_impl_IsBoard k a0 := by
  have h : runPure (go_impl_IsBoard_C k) (bodyOf Go.Proofs.Try.f69) Go.Proofs.Try.f69.results.toList false (.pr (.val (.pair I (.pair I (.pair (.sl I) .unit)))) .un) (.val .bool) (a0, ()) = go_impl_IsBoard_T k a0 (fun y => iter k (loopAt (go_impl_IsBoard_C k) (bodyOf Go.Proofs.Try.f69) [1, 1, 0, 1, 0] [] (finPure (go_impl_IsBoard_C k) Go.Proofs.Try.f69.results.toList false (.val .bool))) (go_impl_IsBoard_L0_E a0 y)) := by kernel_rfl
  have h0 : (fun y => iter k (loopAt (go_impl_IsBoard_C k) (bodyOf Go.Proofs.Try.f69) [1, 1, 0, 1, 0] [] (finPure (go_impl_IsBoard_C k) Go.Proofs.Try.f69.results.toList false (.val .bool))) (go_impl_IsBoard_L0_E a0 y)) = (fun y => go_impl_IsBoard_L0 k a0 y) := by
    funext y
    exact go_impl_IsBoard_L0_t k a0 y
  rw [h, h0]
  rfl
def go_impl_IsBoard_S (k : Nat) : Spec := ⟨(.pr (.val (.pair I (.pair I (.pair (.sl I) .unit)))) .un), (.val .bool), false, .inl fun x => go_impl_IsBoard k x.1⟩
theorem go_impl_IsBoard_F (k : Nat) : Fits Go.Proofs.Try.prog (go_impl_IsBoard_C k) 69 Go.Proofs.Try.f69 (bodyOf Go.Proofs.Try.f69) (.pr (.val (.pair I (.pair I (.pair (.sl I) .unit)))) .un) (.val .bool) false :=
  ⟨th0, mixed0, by kernel_rfl, Go.Proofs.Try.func69, rfl, by kernel_rfl, rfl, rfl, rfl, rfl, rfl, rfl⟩
theorem go_impl_IsBoard_M (k : Nat) : Meets Go.Proofs.Try.prog 69 (go_impl_IsBoard_S k) :=
  meets_pure (go_impl_IsBoard_F k) (sigs_all (l := [(133, go_impl_sized_S k)]) rfl ⟨go_impl_sized_M k, trivial⟩) rfl fun x => go_impl_IsBoard_t k x.1

/-! ### impl.IsLeaper -/
def go_impl_IsLeaper_C (k : Nat) : Ctx := { th := TH, se := SE, sg := [], mu := [], an := [], dr := [], pre := [], d2 := [], m := 0, fx := [], n := 23, k := k }
def go_impl_IsLeaper (k : Nat) (a0 : (Int × (Int × Unit))) : Option Bool :=
  some ((((decide ((0 : Int) ≤ a0.1)) && (decide (a0.1 ≤ a0.2.1))) && (decide ((1 : Int) ≤ a0.2.1))) && (decide (a0.2.1 ≤ (5 : Int))))
theorem go_impl_IsLeaper_t (k : Nat) (a0 : (Int × (Int × Unit))) : runPure (go_impl_IsLeaper_C k) (bodyOf Go.Proofs.Try.f70) Go.Proofs.Try.f70.results.toList false (.pr (.val (.pair I (.pair I .unit))) .un) (.val .bool) (a0, ()) = go_impl_IsLeaper k a0 := by kernel_rfl
def go_impl_IsLeaper_S (k : Nat) : Spec := ⟨(.pr (.val (.pair I (.pair I .unit))) .un), (.val .bool), false, .inl fun x => go_impl_IsLeaper k x.1⟩
theorem go_impl_IsLeaper_F (k : Nat) : Fits Go.Proofs.Try.prog (go_impl_IsLeaper_C k) 70 Go.Proofs.Try.f70 (bodyOf Go.Proofs.Try.f70) (.pr (.val (.pair I (.pair I .unit))) .un) (.val .bool) false :=
  ⟨th0, mixed0, by kernel_rfl, Go.Proofs.Try.func70, rfl, by kernel_rfl, rfl, rfl, rfl, rfl, rfl, rfl⟩
theorem go_impl_IsLeaper_M (k : Nat) : Meets Go.Proofs.Try.prog 70 (go_impl_IsLeaper_S k) :=
  meets_pure (go_impl_IsLeaper_F k) (sigs_all (l := []) rfl trivial) rfl fun x => go_impl_IsLeaper_t k x.1

/-! ### slices.Index[[]int,int] -/
def go_slices_Index_int_C (k : Nat) : Ctx := { th := TH, se := SE, sg := [], mu := [], an := [(2, [(0, false), (1, false), (7, false), (8, false)])], dr := [], pre := [], d2 := [], m := 0, fx := [], n := 19, k := k }
def go_slices_Index_int_L0_E (a0 : (List Int)) (a1 : Int) (x3 : (Int)) : St :=
  ⟨[(0, .one (.val (.sl I) a0), []), (1, .one (.val I a1), []), (7, .one (.val I (a0.length : Int)), []), (8, .one (.val I x3), [])], [], []⟩
def go_slices_Index_int_L0_G (k : Nat) (a0 : (List Int)) (a1 : Int) (rec4 : (Int) → Option Int) (x3 : (Int)) : Option Int :=
  if (decide (x3 < (a0.length : Int))) = true then
    if (inb x3 a0.length) = true then
    if (decide (a1 = (a0.getD x3.toNat (0 : Int)))) = true then
      some x3
    else
      rec4 (IntKind.i64.wrap (x3 + (1 : Int)))
    else none
  else
    some (-1 : Int)
def go_slices_Index_int_L0 (k : Nat) (a0 : (List Int)) (a1 : Int) : (Int) → Option Int :=
  iter k fun rec4 x3 => go_slices_Index_int_L0_G k a0 a1 rec4 x3
theorem go_slices_Index_int_L0_t (k : Nat) (a0 : (List Int)) (a1 : Int) (x : (Int)) :
    iter k (loopAt (go_slices_Index_int_C k) (bodyOf Go.Proofs.Try.f162) [1, 0, 1, 0] [] (finPure (go_slices_Index_int_C k) Go.Proofs.Try.f162.results.toList false (.val I))) (go_slices_Index_int_L0_E a0 a1 x) = go_slices_Index_int_L0 k a0 a1 x := by
  refine iter_tie (G := fun rec x => go_slices_Index_int_L0_G k a0 a1 rec x) (go_slices_Index_int_L0_E a0 a1) (fun rec x => ?_) k x
  have h : loopAt (go_slices_Index_int_C k) (bodyOf Go.Proofs.Try.f162) [1, 0, 1, 0] [] (finPure (go_slices_Index_int_C k) Go.Proofs.Try.f162.results.toList false (.val I)) rec (go_slices_Index_int_L0_E a0 a1 x) = go_slices_Index_int_L0_G k a0 a1 (fun y => rec (go_slices_Index_int_L0_E a0 a1 y)) x := by kernel_rfl
  rw [h]
def go_slices_Index_int_T (k : Nat) (a0 : (List Int)) (a1 : Int) (l_0 : (Int) → Option Int) : Option Int :=
  l_0 (0 : Int)
def go_slices_Index_int (k : Nat) (a0 : (List Int)) (a1 : Int) : Option Int :=
  go_slices_Index_int_T k a0 a1 (fun y => go_slices_Index_int_L0 k a0 a1 y)
theorem go_slices_Index_int_t (k : Nat) (a0 : (List Int)) (a1 : Int) : runPure (go_slices_Index_int_C k) (bodyOf Go.Proofs.Try.f162) Go.Proofs.Try.f162.results.toList false (.pr (.val (.sl I)) (.pr (.val I) .un)) (.val I) (a0, a1, ()) = go_slices_Index_int k a0 a1 := by
  have h : runPure (go_slices_Index_int_C k) (bodyOf Go.Proofs.Try.f162) Go.Proofs.Try.f162.results.toList false (.pr (.val (.sl I)) (.pr (.val I) .un)) (.val I) (a0, a1, ()) = go_slices_Index_int_T k a0 a1 (fun y => iter k (loopAt (go_slices_Index_int_C k) (bodyOf Go.Proofs.Try.f162) [1, 0, 1, 0] [] (finPure (go_slices_Index_int_C k) Go.Proofs.Try.f162.results.toList false (.val I))) (go_slices_Index_int_L0_E a0 a1 y)) := by kernel_rfl
  have h0 : (fun y => iter k (loopAt (go_slices_Index_int_C k) (bodyOf Go.Proofs.Try.f162) [1, 0, 1, 0] [] (finPure (go_slices_Index_int_C k) Go.Proofs.Try.f162.results.toList false (.val I))) (go_slices_Index_int_L0_E a0 a1 y)) = (fun y => go_slices_Index_int_L0 k a0 a1 y) := by
    funext y
    exact go_slices_Index_int_L0_t k a0 a1 y
  rw [h, h0]
  rfl
def go_slices_Index_int_S (k : Nat) : Spec := ⟨(.pr (.val (.sl I)) (.pr (.val I) .un)), (.val I), false, .inl fun x => go_slices_Index_int k x.1 x.2.1⟩
theorem go_slices_Index_int_F (k : Nat) : Fits Go.Proofs.Try.prog (go_slices_Index_int_C k) 162 Go.Proofs.Try.f162 (bodyOf Go.Proofs.Try.f162) (.pr (.val (.sl I)) (.pr (.val I) .un)) (.val I) false :=
  ⟨th0, mixed0, by kernel_rfl, Go.Proofs.Try.func162, rfl, by kernel_rfl, rfl, rfl, rfl, rfl, rfl, rfl⟩
theorem go_slices_Index_int_M (k : Nat) : Meets Go.Proofs.Try.prog 162 (go_slices_Index_int_S k) :=
  meets_pure (go_slices_Index_int_F k) (sigs_all (l := []) rfl trivial) rfl fun x => go_slices_Index_int_t k x.1 x.2.1

/-! ### slices.Contains[[]int,int] -/
def go_slices_Contains_int_C (k : Nat) : Ctx := { th := TH, se := SE, sg := [(162, go_slices_Index_int_S k)], mu := [], an := [], dr := [], pre := [], d2 := [], m := 0, fx := [], n := 9, k := k }
def go_slices_Contains_int (k : Nat) (a0 : (List Int)) (a1 : Int) : Option Bool :=
  (go_slices_Index_int k a0 a1).bind fun r1 =>
  some (decide ((0 : Int) ≤ r1))
theorem go_slices_Contains_int_t (k : Nat) (a0 : (List Int)) (a1 : Int) : runPure (go_slices_Contains_int_C k) (bodyOf Go.Proofs.Try.f140) Go.Proofs.Try.f140.results.toList false (.pr (.val (.sl I)) (.pr (.val I) .un)) (.val .bool) (a0, a1, ()) = go_slices_Contains_int k a0 a1 := by kernel_rfl
def go_slices_Contains_int_S (k : Nat) : Spec := ⟨(.pr (.val (.sl I)) (.pr (.val I) .un)), (.val .bool), false, .inl fun x => go_slices_Contains_int k x.1 x.2.1⟩
theorem go_slices_Contains_int_F (k : Nat) : Fits Go.Proofs.Try.prog (go_slices_Contains_int_C k) 140 Go.Proofs.Try.f140 (bodyOf Go.Proofs.Try.f140) (.pr (.val (.sl I)) (.pr (.val I) .un)) (.val .bool) false :=
  ⟨th0, mixed0, by kernel_rfl, Go.Proofs.Try.func140, rfl, by kernel_rfl, rfl, rfl, rfl, rfl, rfl, rfl⟩
theorem go_slices_Contains_int_M (k : Nat) : Meets Go.Proofs.Try.prog 140 (go_slices_Contains_int_S k) :=
  meets_pure (go_slices_Contains_int_F k) (sigs_all (l := [(162, go_slices_Index_int_S k)]) rfl ⟨go_slices_Index_int_M k, trivial⟩) rfl fun x => go_slices_Contains_int_t k x.1 x.2.1

/-! ### (impl.Board).has -/
def go_impl_Board_has_C (k : Nat) : Ctx := { th := TH, se := SE, sg := [(140, go_slices_Contains_int_S k)], mu := [], an := [], dr := [], pre := [], d2 := [], m := 0, fx := [], n := 23, k := k }
def go_impl_Board_has (k : Nat) (a0 : (Int × (Int × ((List Int) × Unit)))) (a1 : Int) : Option Bool :=
  (if ((decide ((0 : Int) ≤ a1)) && (decide (a1 < (IntKind.i64.wrap (a0.1 * a0.2.1))))) = true then go_slices_Contains_int k a0.2.2.1 a1 else some false).bind fun r1 =>
  some (((decide ((0 : Int) ≤ a1)) && (decide (a1 < (IntKind.i64.wrap (a0.1 * a0.2.1))))) && (!r1))
theorem go_impl_Board_has_t (k : Nat) (a0 : (Int × (Int × ((List Int) × Unit)))) (a1 : Int) : runPure (go_impl_Board_has_C k) (bodyOf Go.Proofs.Try.f91) Go.Proofs.Try.f91.results.toList false (.pr (.val (.pair I (.pair I (.pair (.sl I) .unit)))) (.pr (.val I) .un)) (.val .bool) (a0, a1, ()) = go_impl_Board_has k a0 a1 := by kernel_rfl
def go_impl_Board_has_S (k : Nat) : Spec := ⟨(.pr (.val (.pair I (.pair I (.pair (.sl I) .unit)))) (.pr (.val I) .un)), (.val .bool), false, .inl fun x => go_impl_Board_has k x.1 x.2.1⟩
theorem go_impl_Board_has_F (k : Nat) : Fits Go.Proofs.Try.prog (go_impl_Board_has_C k) 91 Go.Proofs.Try.f91 (bodyOf Go.Proofs.Try.f91) (.pr (.val (.pair I (.pair I (.pair (.sl I) .unit)))) (.pr (.val I) .un)) (.val .bool) false :=
  ⟨th0, mixed0, by kernel_rfl, Go.Proofs.Try.func91, rfl, by kernel_rfl, rfl, rfl, rfl, rfl, rfl, rfl⟩
theorem go_impl_Board_has_M (k : Nat) : Meets Go.Proofs.Try.prog 91 (go_impl_Board_has_S k) :=
  meets_pure (go_impl_Board_has_F k) (sigs_all (l := [(140, go_slices_Contains_int_S k)]) rfl ⟨go_slices_Contains_int_M k, trivial⟩) rfl fun x => go_impl_Board_has_t k x.1 x.2.1

/-! ### (impl.Board).present -/
def go_impl_Board_present_C (k : Nat) : Ctx := { th := TH, se := SE, sg := [(140, go_slices_Contains_int_S k)], mu := [], an := [(3, [(1, false), (3, true), (9, false), (10, false)])], dr := [], pre := [], d2 := [], m := 0, fx := [], n := 24, k := k }
def go_impl_Board_present_L0_E (a0 : (Int × (Int × ((List Int) × Unit)))) (x10 : (Int × (List Int))) : St :=
  ⟨[(1, .one (.val (.pt (.pair I (.pair I (.pair (.sl I) .unit)))) (some a0)), []), (3, .one (.own 0), []), (9, .one (.val I (IntKind.i64.wrap (a0.1 * a0.2.1))), []), (10, .one (.val I x10.1), [])], [.arr 3 I x10.2], []⟩
def go_impl_Board_present_L0_G (k : Nat) (a0 : (Int × (Int × ((List Int) × Unit)))) (rec11 : (Int × (List Int)) → Option (List Int)) (x10 : (Int × (List Int))) : Option (List Int) :=
  if (decide (x10.1 < (IntKind.i64.wrap (a0.1 * a0.2.1)))) = true then
    (go_slices_Contains_int k a0.2.2.1 x10.1).bind fun r12 =>
    if (!r12) = true then
      if (decide (x10.2.length + [x10.1].length ≤ LIM)) = true then
      rec11 ((IntKind.i64.wrap (x10.1 + (1 : Int))), (x10.2 ++ [x10.1]))
      else none
    else
      rec11 ((IntKind.i64.wrap (x10.1 + (1 : Int))), x10.2)
  else
    some x10.2
def go_impl_Board_present_L0 (k : Nat) (a0 : (Int × (Int × ((List Int) × Unit)))) : (Int × (List Int)) → Option (List Int) :=
  iter k fun rec11 x10 => go_impl_Board_present_L0_G k a0 rec11 x10
theorem go_impl_Board_present_L0_t (k : Nat) (a0 : (Int × (Int × ((List Int) × Unit)))) (x : (Int × (List Int))) :
    iter k (loopAt (go_impl_Board_present_C k) (bodyOf Go.Proofs.Try.f108) [1, 1, 0, 1, 0] [] (finPure (go_impl_Board_present_C k) Go.Proofs.Try.f108.results.toList false (.val (.sl I)))) (go_impl_Board_present_L0_E a0 x) = go_impl_Board_present_L0 k a0 x := by
  refine iter_tie (G := fun rec x => go_impl_Board_present_L0_G k a0 rec x) (go_impl_Board_present_L0_E a0) (fun rec x => ?_) k x
  have h : loopAt (go_impl_Board_present_C k) (bodyOf Go.Proofs.Try.f108) [1, 1, 0, 1, 0] [] (finPure (go_impl_Board_present_C k) Go.Proofs.Try.f108.results.toList false (.val (.sl I))) rec (go_impl_Board_present_L0_E a0 x) = go_impl_Board_present_L0_G k a0 (fun y => rec (go_impl_Board_present_L0_E a0 y)) x := by kernel_rfl
  rw [h]
def go_impl_Board_present_T (k : Nat) (a0 : (Int × (Int × ((List Int) × Unit)))) (l_0 : (Int × (List Int)) → Option (List Int)) : Option (List Int) :=
  l_0 ((0 : Int), [])
def go_impl_Board_present (k : Nat) (a0 : (Int × (Int × ((List Int) × Unit)))) : Option (List Int) :=
  go_impl_Board_present_T k a0 (fun y => go_impl_Board_present_L0 k a0 y)
theorem go_impl_Board_present_t (k : Nat) (a0 : (Int × (Int × ((List Int) × Unit)))) : runPure (go_impl_Board_present_C k) (bodyOf Go.Proofs.Try.f108) Go.Proofs.Try.f108.results.toList false (.pr (.val (.pair I (.pair I (.pair (.sl I) .unit)))) .un) (.val (.sl I)) (a0, ()) = go_impl_Board_present k a0 := by
  have h : runPure (go_impl_Board_present_C k) (bodyOf Go.Proofs.Try.f108) Go.Proofs.Try.f108.results.toList false (.pr (.val (.pair I (.pair I (.pair (.sl I) .unit)))) .un) (.val (.sl I)) (a0, ()) = go_impl_Board_present_T k a0 (fun y => iter k (loopAt (go_impl_Board_present_C k) (bodyOf Go.Proofs.Try.f108) [1, 1, 0, 1, 0] [] (finPure (go_impl_Board_present_C k) Go.Proofs.Try.f108.results.toList false (.val (.sl I)))) (go_impl_Board_present_L0_E a0 y)) := by kernel_rfl
  have h0 : (fun y => iter k (loopAt (go_impl_Board_present_C k) (bodyOf Go.Proofs.Try.f108) [1, 1, 0, 1, 0] [] (finPure (go_impl_Board_present_C k) Go.Proofs.Try.f108.results.toList false (.val (.sl I)))) (go_impl_Board_present_L0_E a0 y)) = (fun y => go_impl_Board_present_L0 k a0 y) := by
    funext y
    exact go_impl_Board_present_L0_t k a0 y
  rw [h, h0]
  rfl
def go_impl_Board_present_S (k : Nat) : Spec := ⟨(.pr (.val (.pair I (.pair I (.pair (.sl I) .unit)))) .un), (.val (.sl I)), false, .inl fun x => go_impl_Board_present k x.1⟩
theorem go_impl_Board_present_F (k : Nat) : Fits Go.Proofs.Try.prog (go_impl_Board_present_C k) 108 Go.Proofs.Try.f108 (bodyOf Go.Proofs.Try.f108) (.pr (.val (.pair I (.pair I (.pair (.sl I) .unit)))) .un) (.val (.sl I)) false :=
  ⟨th0, mixed0, by kernel_rfl, Go.Proofs.Try.func108, rfl, by kernel_rfl, rfl, rfl, rfl, rfl, rfl, rfl⟩
theorem go_impl_Board_present_M (k : Nat) : Meets Go.Proofs.Try.prog 108 (go_impl_Board_present_S k) :=
  meets_pure (go_impl_Board_present_F k) (sigs_all (l := [(140, go_slices_Contains_int_S k)]) rfl ⟨go_slices_Contains_int_M k, trivial⟩) rfl fun x => go_impl_Board_present_t k x.1

/-! ### (impl.Leaper).steps -/
def go_impl_Leaper_steps_C (k : Nat) : Ctx := { th := TH, se := SE, sg := [], mu := [], an := [(3, [(1, false), (3, true), (4, false)]), (6, [(1, false), (3, true), (4, false), (5, false)])], dr := [], pre := [], d2 := [], m := 0, fx := [], n := 45, k := k }
def go_impl_Leaper_steps_L0_E (a0 : (Int × (Int × Unit))) (x27 : (Int × (List (List Int)))) : St :=
  ⟨[(1, .one (.val (.pt (.pair I (.pair I .unit))) (some a0)), []), (3, .one (.own 0), []), (4, .one (.val I x27.1), [])], [.arr 22 (.sl I) x27.2], []⟩
def go_impl_Leaper_steps_L1_E (a0 : (Int × (Int × Unit))) (x27 : (Int × (List (List Int)))) (x33 : (Int × (List (List Int)))) : St :=
  ⟨[(1, .one (.val (.pt (.pair I (.pair I .unit))) (some a0)), []), (3, .one (.own 0), []), (4, .one (.val I x27.1), []), (5, .one (.val I x33.1), [])], [.arr 22 (.sl I) x33.2], []⟩
def go_impl_Leaper_steps_L1_G (k : Nat) (a0 : (Int × (Int × Unit))) (x27 : (Int × (List (List Int)))) (rec28 : (Int × (List (List Int))) → Option (List (List Int))) (rec34 : (Int × (List (List Int))) → Option (List (List Int))) (x33 : (Int × (List (List Int)))) : Option (List (List Int)) :=
  if (decide (x33.1 ≤ (5 : Int))) = true then
    if ((decide ((min (max x27.1 (IntKind.i64.wrap (0 - x27.1))) (max x33.1 (IntKind.i64.wrap (0 - x33.1)))) = a0.1)) && (decide ((max (max x27.1 (IntKind.i64.wrap (0 - x27.1))) (max x33.1 (IntKind.i64.wrap (0 - x33.1)))) = a0.2.1))) = true then
      if (decide (x33.2.length + ([[x27.1, x33.1]]).length ≤ LIM)) = true then
      rec34 ((IntKind.i64.wrap (x33.1 + (1 : Int))), (x33.2 ++ [[x27.1, x33.1]]))
      else none
    else
      rec34 ((IntKind.i64.wrap (x33.1 + (1 : Int))), x33.2)
  else
    rec28 ((IntKind.i64.wrap (x27.1 + (1 : Int))), x33.2)
def go_impl_Leaper_steps_L1 (k : Nat) (a0 : (Int × (Int × Unit))) (rec28 : (Int × (List (List Int))) → Option (List (List Int))) (x27 : (Int × (List (List Int)))) : (Int × (List (List Int))) → Option (List (List Int)) :=
  iter k fun rec34 x33 => go_impl_Leaper_steps_L1_G k a0 x27 rec28 rec34 x33
theorem go_impl_Leaper_steps_L1_t (k : Nat) (a0 : (Int × (Int × Unit))) (s0 : St → Option (List (List Int))) (x27 : (Int × (List (List Int)))) (x : (Int × (List (List Int)))) :
    iter k (loopAt (go_impl_Leaper_steps_C k) (bodyOf Go.Proofs.Try.f152) [1, 1, 0, 1, 0, 0, 1, 0, 0, 1, 0] [s0] (finPure (go_impl_Leaper_steps_C k) Go.Proofs.Try.f152.results.toList false (.val (.sl (.sl I))))) (go_impl_Leaper_steps_L1_E a0 x27 x) = go_impl_Leaper_steps_L1 k a0 (fun y => s0 (go_impl_Leaper_steps_L0_E a0 y)) x27 x := by
  refine iter_tie (G := fun rec x => go_impl_Leaper_steps_L1_G k a0 x27 (fun y => s0 (go_impl_Leaper_steps_L0_E a0 y)) rec x) (go_impl_Leaper_steps_L1_E a0 x27) (fun rec x => ?_) k x
  have h : loopAt (go_impl_Leaper_steps_C k) (bodyOf Go.Proofs.Try.f152) [1, 1, 0, 1, 0, 0, 1, 0, 0, 1, 0] [s0] (finPure (go_impl_Leaper_steps_C k) Go.Proofs.Try.f152.results.toList false (.val (.sl (.sl I)))) rec (go_impl_Leaper_steps_L1_E a0 x27 x) = go_impl_Leaper_steps_L1_G k a0 x27 (fun y => s0 (go_impl_Leaper_steps_L0_E a0 y)) (fun y => rec (go_impl_Leaper_steps_L1_E a0 x27 y)) x := by kernel_rfl
  rw [h]
def go_impl_Leaper_steps_L0_G (k : Nat) (a0 : (Int × (Int × Unit))) (l_1 : (Int × (List (List Int))) → (Int × (List (List Int))) → Option (List (List Int))) (rec28 : (Int × (List (List Int))) → Option (List (List Int))) (x27 : (Int × (List (List Int)))) : Option (List (List Int)) :=
  if (decide (x27.1 ≤ (5 : Int))) = true then
    l_1 x27 ((-5 : Int), x27.2)
  else
    some x27.2
def go_impl_Leaper_steps_L0 (k : Nat) (a0 : (Int × (Int × Unit))) : (Int × (List (List Int))) → Option (List (List Int)) :=
  iter k fun rec28 x27 => go_impl_Leaper_steps_L0_G k a0 (fun c0 y => go_impl_Leaper_steps_L1 k a0 rec28 c0 y) rec28 x27
theorem go_impl_Leaper_steps_L0_t (k : Nat) (a0 : (Int × (Int × Unit))) (x : (Int × (List (List Int)))) :
    iter k (loopAt (go_impl_Leaper_steps_C k) (bodyOf Go.Proofs.Try.f152) [1, 1, 0, 1, 0] [] (finPure (go_impl_Leaper_steps_C k) Go.Proofs.Try.f152.results.toList false (.val (.sl (.sl I))))) (go_impl_Leaper_steps_L0_E a0 x) = go_impl_Leaper_steps_L0 k a0 x := by
  refine iter_tie (G := fun rec x => go_impl_Leaper_steps_L0_G k a0 (fun c0 y => go_impl_Leaper_steps_L1 k a0 rec c0 y) rec x) (go_impl_Leaper_steps_L0_E a0) (fun rec x => ?_) k x
  have h : loopAt (go_impl_Leaper_steps_C k) (bodyOf Go.Proofs.Try.f152) [1, 1, 0, 1, 0] [] (finPure (go_impl_Leaper_steps_C k) Go.Proofs.Try.f152.results.toList false (.val (.sl (.sl I)))) rec (go_impl_Leaper_steps_L0_E a0 x) = go_impl_Leaper_steps_L0_G k a0 (fun c0 y => iter k (loopAt (go_impl_Leaper_steps_C k) (bodyOf Go.Proofs.Try.f152) [1, 1, 0, 1, 0, 0, 1, 0, 0, 1, 0] [rec] (finPure (go_impl_Leaper_steps_C k) Go.Proofs.Try.f152.results.toList false (.val (.sl (.sl I))))) (go_impl_Leaper_steps_L1_E a0 c0 y)) (fun y => rec (go_impl_Leaper_steps_L0_E a0 y)) x := by kernel_rfl
  have h0 : (fun c0 y => iter k (loopAt (go_impl_Leaper_steps_C k) (bodyOf Go.Proofs.Try.f152) [1, 1, 0, 1, 0, 0, 1, 0, 0, 1, 0] [rec] (finPure (go_impl_Leaper_steps_C k) Go.Proofs.Try.f152.results.toList false (.val (.sl (.sl I))))) (go_impl_Leaper_steps_L1_E a0 c0 y)) = (fun c0 y => go_impl_Leaper_steps_L1 k a0 (fun y => rec (go_impl_Leaper_steps_L0_E a0 y)) c0 y) := by
    funext c0 y
    exact go_impl_Leaper_steps_L1_t k a0 rec c0 y
  rw [h, h0]
def go_impl_Leaper_steps_T (k : Nat) (a0 : (Int × (Int × Unit))) (l_0 : (Int × (List (List Int))) → Option (List (List Int))) : Option (List (List Int)) :=
  l_0 ((-5 : Int), [])
def go_impl_Leaper_steps (k : Nat) (a0 : (Int × (Int × Unit))) : Option (List (List Int)) :=
  go_impl_Leaper_steps_T k a0 (fun y => go_impl_Leaper_steps_L0 k a0 y)
theorem go_impl_Leaper_steps_t (k : Nat) (a0 : (Int × (Int × Unit))) : runPure (go_impl_Leaper_steps_C k) (bodyOf Go.Proofs.Try.f152) Go.Proofs.Try.f152.results.toList false (.pr (.val (.pair I (.pair I .unit))) .un) (.val (.sl (.sl I))) (a0, ()) = go_impl_Leaper_steps k a0 := by
  have h : runPure (go_impl_Leaper_steps_C k) (bodyOf Go.Proofs.Try.f152) Go.Proofs.Try.f152.results.toList false (.pr (.val (.pair I (.pair I .unit))) .un) (.val (.sl (.sl I))) (a0, ()) = go_impl_Leaper_steps_T k a0 (fun y => iter k (loopAt (go_impl_Leaper_steps_C k) (bodyOf Go.Proofs.Try.f152) [1, 1, 0, 1, 0] [] (finPure (go_impl_Leaper_steps_C k) Go.Proofs.Try.f152.results.toList false (.val (.sl (.sl I))))) (go_impl_Leaper_steps_L0_E a0 y)) := by kernel_rfl
  have h0 : (fun y => iter k (loopAt (go_impl_Leaper_steps_C k) (bodyOf Go.Proofs.Try.f152) [1, 1, 0, 1, 0] [] (finPure (go_impl_Leaper_steps_C k) Go.Proofs.Try.f152.results.toList false (.val (.sl (.sl I))))) (go_impl_Leaper_steps_L0_E a0 y)) = (fun y => go_impl_Leaper_steps_L0 k a0 y) := by
    funext y
    exact go_impl_Leaper_steps_L0_t k a0 y
  rw [h, h0]
  rfl
def go_impl_Leaper_steps_S (k : Nat) : Spec := ⟨(.pr (.val (.pair I (.pair I .unit))) .un), (.val (.sl (.sl I))), false, .inl fun x => go_impl_Leaper_steps k x.1⟩
theorem go_impl_Leaper_steps_F (k : Nat) : Fits Go.Proofs.Try.prog (go_impl_Leaper_steps_C k) 152 Go.Proofs.Try.f152 (bodyOf Go.Proofs.Try.f152) (.pr (.val (.pair I (.pair I .unit))) .un) (.val (.sl (.sl I))) false :=
  ⟨th0, mixed0, by kernel_rfl, Go.Proofs.Try.func152, rfl, by kernel_rfl, rfl, rfl, rfl, rfl, rfl, rfl⟩
theorem go_impl_Leaper_steps_M (k : Nat) : Meets Go.Proofs.Try.prog 152 (go_impl_Leaper_steps_S k) :=
  meets_pure (go_impl_Leaper_steps_F k) (sigs_all (l := []) rfl trivial) rfl fun x => go_impl_Leaper_steps_t k x.1

/-! ### cmp.isNaN[int] -/
def go_cmp_isNaN_int_C (k : Nat) : Ctx := { th := TH, se := SE, sg := [], mu := [], an := [], dr := [], pre := [], d2 := [], m := 0, fx := [], n := 6, k := k }
def go_cmp_isNaN_int (k : Nat) (a0 : Int) : Option Bool :=
  some (!decide (a0 = a0))
theorem go_cmp_isNaN_int_t (k : Nat) (a0 : Int) : runPure (go_cmp_isNaN_int_C k) (bodyOf Go.Proofs.Try.f194) Go.Proofs.Try.f194.results.toList false (.pr (.val I) .un) (.val .bool) (a0, ()) = go_cmp_isNaN_int k a0 := by kernel_rfl
def go_cmp_isNaN_int_S (k : Nat) : Spec := ⟨(.pr (.val I) .un), (.val .bool), false, .inl fun x => go_cmp_isNaN_int k x.1⟩
theorem go_cmp_isNaN_int_F (k : Nat) : Fits Go.Proofs.Try.prog (go_cmp_isNaN_int_C k) 194 Go.Proofs.Try.f194 (bodyOf Go.Proofs.Try.f194) (.pr (.val I) .un) (.val .bool) false :=
  ⟨th0, mixed0, by kernel_rfl, Go.Proofs.Try.func194, rfl, by kernel_rfl, rfl, rfl, rfl, rfl, rfl, rfl⟩
theorem go_cmp_isNaN_int_M (k : Nat) : Meets Go.Proofs.Try.prog 194 (go_cmp_isNaN_int_S k) :=
  meets_pure (go_cmp_isNaN_int_F k) (sigs_all (l := []) rfl trivial) rfl fun x => go_cmp_isNaN_int_t k x.1

/-! ### cmp.Less[int] -/
def go_cmp_Less_int_C (k : Nat) : Ctx := { th := TH, se := SE, sg := [(194, go_cmp_isNaN_int_S k)], mu := [], an := [], dr := [], pre := [], d2 := [], m := 0, fx := [], n := 17, k := k }
def go_cmp_Less_int (k : Nat) (a0 : Int) (a1 : Int) : Option Bool :=
  (go_cmp_isNaN_int k a0).bind fun r1 =>
  (if r1 = true then go_cmp_isNaN_int k a1 else some false).bind fun r2 =>
  some ((r1 && (!r2)) || (decide (a0 < a1)))
theorem go_cmp_Less_int_t (k : Nat) (a0 : Int) (a1 : Int) : runPure (go_cmp_Less_int_C k) (bodyOf Go.Proofs.Try.f183) Go.Proofs.Try.f183.results.toList false (.pr (.val I) (.pr (.val I) .un)) (.val .bool) (a0, a1, ()) = go_cmp_Less_int k a0 a1 := by kernel_rfl
def go_cmp_Less_int_S (k : Nat) : Spec := ⟨(.pr (.val I) (.pr (.val I) .un)), (.val .bool), false, .inl fun x => go_cmp_Less_int k x.1 x.2.1⟩
theorem go_cmp_Less_int_F (k : Nat) : Fits Go.Proofs.Try.prog (go_cmp_Less_int_C k) 183 Go.Proofs.Try.f183 (bodyOf Go.Proofs.Try.f183) (.pr (.val I) (.pr (.val I) .un)) (.val .bool) false :=
  ⟨th0, mixed0, by kernel_rfl, Go.Proofs.Try.func183, rfl, by kernel_rfl, rfl, rfl, rfl, rfl, rfl, rfl⟩
theorem go_cmp_Less_int_M (k : Nat) : Meets Go.Proofs.Try.prog 183 (go_cmp_Less_int_S k) :=
  meets_pure (go_cmp_Less_int_F k) (sigs_all (l := [(194, go_cmp_isNaN_int_S k)]) rfl ⟨go_cmp_isNaN_int_M k, trivial⟩) rfl fun x => go_cmp_Less_int_t k x.1 x.2.1

/-! ### slices.insertionSortOrdered[int] -/
def go_slices_insertionSortOrdered_int_C (k : Nat) : Ctx := { th := TH, se := SE, sg := [(183, go_cmp_Less_int_S k)], mu := [], an := [(1, [(0, false), (1, false), (2, false), (6, false)]), (4, [(0, false), (1, false), (2, false), (6, false), (7, false)])], dr := [(4, 13), (6, 14)], pre := [(6, [2, 3, 4])], d2 := [], m := 1, fx := [0], n := 49, k := k }
def go_slices_insertionSortOrdered_int_L0_E (a0 : (List Int)) (a1 : Int) (a2 : Int) (x23 : (Int × (List Int))) : St :=
  ⟨[(0, .one (.own 0), []), (1, .one (.val I a1), []), (2, .one (.val I a2), []), (6, .one (.val I x23.1), [])], [.arr 3 I x23.2], []⟩
def go_slices_insertionSortOrdered_int_L1_E (a0 : (List Int)) (a1 : Int) (a2 : Int) (x23 : (Int × (List Int))) (x31 : (Int × (List Int))) : St :=
  ⟨[(0, .one (.own 0), []), (1, .one (.val I a1), []), (2, .one (.val I a2), []), (6, .one (.val I x23.1), []), (7, .one (.val I x31.1), [])], [.arr 3 I x31.2], []⟩
def go_slices_insertionSortOrdered_int_L1_G (k : Nat) (a0 : (List Int)) (a1 : Int) (a2 : Int) (x23 : (Int × (List Int))) (rec24 : (Int × (List Int)) → Option (Unit × ((List Int) × (Int × (Int × Unit))))) (rec32 : (Int × (List Int)) → Option (Unit × ((List Int) × (Int × (Int × Unit))))) (x31 : (Int × (List Int))) : Option (Unit × ((List Int) × (Int × (Int × Unit)))) :=
  if (!(decide (a1 < x31.1)) || (inb x31.1 x31.2.length)) = true then
  if (!(decide (a1 < x31.1)) || (inb (IntKind.i64.wrap (x31.1 - (1 : Int))) x31.2.length)) = true then
  (if (decide (a1 < x31.1)) = true then go_cmp_Less_int k (x31.2.getD x31.1.toNat (0 : Int)) (x31.2.getD (IntKind.i64.wrap (x31.1 - (1 : Int))).toNat (0 : Int)) else some false).bind fun r33 =>
  if ((decide (a1 < x31.1)) && r33) = true then
    if (inb (IntKind.i64.wrap (x31.1 - (1 : Int))) x31.2.length) = true then
    if (inb x31.1 x31.2.length) = true then
    if (inb x31.1 x31.2.length) = true then
    if (inb (IntKind.i64.wrap (x31.1 - (1 : Int))) (x31.2.set x31.1.toNat (x31.2.getD (IntKind.i64.wrap (x31.1 - (1 : Int))).toNat (0 : Int))).length) = true then
    rec32 ((IntKind.i64.wrap (x31.1 - (1 : Int))), ((x31.2.set x31.1.toNat (x31.2.getD (IntKind.i64.wrap (x31.1 - (1 : Int))).toNat (0 : Int))).set (IntKind.i64.wrap (x31.1 - (1 : Int))).toNat (x31.2.getD x31.1.toNat (0 : Int))))
    else none
    else none
    else none
    else none
  else
    rec24 ((IntKind.i64.wrap (x23.1 + (1 : Int))), x31.2)
  else none
  else none
def go_slices_insertionSortOrdered_int_L1 (k : Nat) (a0 : (List Int)) (a1 : Int) (a2 : Int) (rec24 : (Int × (List Int)) → Option (Unit × ((List Int) × (Int × (Int × Unit))))) (x23 : (Int × (List Int))) : (Int × (List Int)) → Option (Unit × ((List Int) × (Int × (Int × Unit)))) :=
  iter k fun rec32 x31 => go_slices_insertionSortOrdered_int_L1_G k a0 a1 a2 x23 rec24 rec32 x31
theorem go_slices_insertionSortOrdered_int_L1_t (k : Nat) (a0 : (List Int)) (a1 : Int) (a2 : Int) (s0 : St → Option (Unit × ((List Int) × (Int × (Int × Unit))))) (x23 : (Int × (List Int))) (x : (Int × (List Int))) :
    iter k (loopAt (go_slices_insertionSortOrdered_int_C k) (bodyOf Go.Proofs.Try.f177) [1, 0, 0, 1, 0, 0, 1, 0] [s0] (finEff (go_slices_insertionSortOrdered_int_C k) Go.Proofs.Try.f177.results.toList true (.pr (.own 3 I) (.pr (.val I) (.pr (.val I) .un))) .un (a0, a1, a2, ()))) (go_slices_insertionSortOrdered_int_L1_E a0 a1 a2 x23 x) = go_slices_insertionSortOrdered_int_L1 k a0 a1 a2 (fun y => s0 (go_slices_insertionSortOrdered_int_L0_E a0 a1 a2 y)) x23 x := by
  refine iter_tie (G := fun rec x => go_slices_insertionSortOrdered_int_L1_G k a0 a1 a2 x23 (fun y => s0 (go_slices_insertionSortOrdered_int_L0_E a0 a1 a2 y)) rec x) (go_slices_insertionSortOrdered_int_L1_E a0 a1 a2 x23) (fun rec x => ?_) k x
  have h : loopAt (go_slices_insertionSortOrdered_int_C k) (bodyOf Go.Proofs.Try.f177) [1, 0, 0, 1, 0, 0, 1, 0] [s0] (finEff (go_slices_insertionSortOrdered_int_C k) Go.Proofs.Try.f177.results.toList true (.pr (.own 3 I) (.pr (.val I) (.pr (.val I) .un))) .un (a0, a1, a2, ())) rec (go_slices_insertionSortOrdered_int_L1_E a0 a1 a2 x23 x) = go_slices_insertionSortOrdered_int_L1_G k a0 a1 a2 x23 (fun y => s0 (go_slices_insertionSortOrdered_int_L0_E a0 a1 a2 y)) (fun y => rec (go_slices_insertionSortOrdered_int_L1_E a0 a1 a2 x23 y)) x := by kernel_rfl
  rw [h]
def go_slices_insertionSortOrdered_int_L0_G (k : Nat) (a0 : (List Int)) (a1 : Int) (a2 : Int) (l_1 : (Int × (List Int)) → (Int × (List Int)) → Option (Unit × ((List Int) × (Int × (Int × Unit))))) (rec24 : (Int × (List Int)) → Option (Unit × ((List Int) × (Int × (Int × Unit))))) (x23 : (Int × (List Int))) : Option (Unit × ((List Int) × (Int × (Int × Unit)))) :=
  if (decide (x23.1 < a2)) = true then
    l_1 x23 (x23.1, x23.2)
  else
    some ((), (x23.2, (a1, (a2, ()))))
def go_slices_insertionSortOrdered_int_L0 (k : Nat) (a0 : (List Int)) (a1 : Int) (a2 : Int) : (Int × (List Int)) → Option (Unit × ((List Int) × (Int × (Int × Unit)))) :=
  iter k fun rec24 x23 => go_slices_insertionSortOrdered_int_L0_G k a0 a1 a2 (fun c0 y => go_slices_insertionSortOrdered_int_L1 k a0 a1 a2 rec24 c0 y) rec24 x23
theorem go_slices_insertionSortOrdered_int_L0_t (k : Nat) (a0 : (List Int)) (a1 : Int) (a2 : Int) (x : (Int × (List Int))) :
    iter k (loopAt (go_slices_insertionSortOrdered_int_C k) (bodyOf Go.Proofs.Try.f177) [1, 0] [] (finEff (go_slices_insertionSortOrdered_int_C k) Go.Proofs.Try.f177.results.toList true (.pr (.own 3 I) (.pr (.val I) (.pr (.val I) .un))) .un (a0, a1, a2, ()))) (go_slices_insertionSortOrdered_int_L0_E a0 a1 a2 x) = go_slices_insertionSortOrdered_int_L0 k a0 a1 a2 x := by
  refine iter_tie (G := fun rec x => go_slices_insertionSortOrdered_int_L0_G k a0 a1 a2 (fun c0 y => go_slices_insertionSortOrdered_int_L1 k a0 a1 a2 rec c0 y) rec x) (go_slices_insertionSortOrdered_int_L0_E a0 a1 a2) (fun rec x => ?_) k x
  have h : loopAt (go_slices_insertionSortOrdered_int_C k) (bodyOf Go.Proofs.Try.f177) [1, 0] [] (finEff (go_slices_insertionSortOrdered_int_C k) Go.Proofs.Try.f177.results.toList true (.pr (.own 3 I) (.pr (.val I) (.pr (.val I) .un))) .un (a0, a1, a2, ())) rec (go_slices_insertionSortOrdered_int_L0_E a0 a1 a2 x) = go_slices_insertionSortOrdered_int_L0_G k a0 a1 a2 (fun c0 y => iter k (loopAt (go_slices_insertionSortOrdered_int_C k) (bodyOf Go.Proofs.Try.f177) [1, 0, 0, 1, 0, 0, 1, 0] [rec] (finEff (go_slices_insertionSortOrdered_int_C k) Go.Proofs.Try.f177.results.toList true (.pr (.own 3 I) (.pr (.val I) (.pr (.val I) .un))) .un (a0, a1, a2, ()))) (go_slices_insertionSortOrdered_int_L1_E a0 a1 a2 c0 y)) (fun y => rec (go_slices_insertionSortOrdered_int_L0_E a0 a1 a2 y)) x := by kernel_rfl
  have h0 : (fun c0 y => iter k (loopAt (go_slices_insertionSortOrdered_int_C k) (bodyOf Go.Proofs.Try.f177) [1, 0, 0, 1, 0, 0, 1, 0] [rec] (finEff (go_slices_insertionSortOrdered_int_C k) Go.Proofs.Try.f177.results.toList true (.pr (.own 3 I) (.pr (.val I) (.pr (.val I) .un))) .un (a0, a1, a2, ()))) (go_slices_insertionSortOrdered_int_L1_E a0 a1 a2 c0 y)) = (fun c0 y => go_slices_insertionSortOrdered_int_L1 k a0 a1 a2 (fun y => rec (go_slices_insertionSortOrdered_int_L0_E a0 a1 a2 y)) c0 y) := by
    funext c0 y
    exact go_slices_insertionSortOrdered_int_L1_t k a0 a1 a2 rec c0 y
  rw [h, h0]
def go_slices_insertionSortOrdered_int_T (k : Nat) (a0 : (List Int)) (a1 : Int) (a2 : Int) (l_0 : (Int × (List Int)) → Option (Unit × ((List Int) × (Int × (Int × Unit))))) : Option (Unit × ((List Int) × (Int × (Int × Unit)))) :=
  l_0 ((IntKind.i64.wrap (a1 + (1 : Int))), a0)
def go_slices_insertionSortOrdered_int (k : Nat) (a0 : (List Int)) (a1 : Int) (a2 : Int) : Option (Unit × ((List Int) × (Int × (Int × Unit)))) :=
  go_slices_insertionSortOrdered_int_T k a0 a1 a2 (fun y => go_slices_insertionSortOrdered_int_L0 k a0 a1 a2 y)
theorem go_slices_insertionSortOrdered_int_t (k : Nat) (a0 : (List Int)) (a1 : Int) (a2 : Int) : runEff (go_slices_insertionSortOrdered_int_C k) (bodyOf Go.Proofs.Try.f177) Go.Proofs.Try.f177.results.toList true (.pr (.own 3 I) (.pr (.val I) (.pr (.val I) .un))) .un (a0, a1, a2, ()) = go_slices_insertionSortOrdered_int k a0 a1 a2 := by
  have h : runEff (go_slices_insertionSortOrdered_int_C k) (bodyOf Go.Proofs.Try.f177) Go.Proofs.Try.f177.results.toList true (.pr (.own 3 I) (.pr (.val I) (.pr (.val I) .un))) .un (a0, a1, a2, ()) = go_slices_insertionSortOrdered_int_T k a0 a1 a2 (fun y => iter k (loopAt (go_slices_insertionSortOrdered_int_C k) (bodyOf Go.Proofs.Try.f177) [1, 0] [] (finEff (go_slices_insertionSortOrdered_int_C k) Go.Proofs.Try.f177.results.toList true (.pr (.own 3 I) (.pr (.val I) (.pr (.val I) .un))) .un (a0, a1, a2, ()))) (go_slices_insertionSortOrdered_int_L0_E a0 a1 a2 y)) := by kernel_rfl
  have h0 : (fun y => iter k (loopAt (go_slices_insertionSortOrdered_int_C k) (bodyOf Go.Proofs.Try.f177) [1, 0] [] (finEff (go_slices_insertionSortOrdered_int_C k) Go.Proofs.Try.f177.results.toList true (.pr (.own 3 I) (.pr (.val I) (.pr (.val I) .un))) .un (a0, a1, a2, ()))) (go_slices_insertionSortOrdered_int_L0_E a0 a1 a2 y)) = (fun y => go_slices_insertionSortOrdered_int_L0 k a0 a1 a2 y) := by
    funext y
    exact go_slices_insertionSortOrdered_int_L0_t k a0 a1 a2 y
  rw [h, h0]
  rfl
def go_slices_insertionSortOrdered_int_S (k : Nat) : Spec := ⟨(.pr (.own 3 I) (.pr (.val I) (.pr (.val I) .un))), .un, true, .inr fun x => go_slices_insertionSortOrdered_int k x.1 x.2.1 x.2.2.1⟩
theorem go_slices_insertionSortOrdered_int_F (k : Nat) : Fits Go.Proofs.Try.prog (go_slices_insertionSortOrdered_int_C k) 177 Go.Proofs.Try.f177 (bodyOf Go.Proofs.Try.f177) (.pr (.own 3 I) (.pr (.val I) (.pr (.val I) .un))) .un true :=
  ⟨th0, mixed0, by kernel_rfl, Go.Proofs.Try.func177, rfl, by kernel_rfl, rfl, rfl, rfl, rfl, rfl, rfl⟩
theorem go_slices_insertionSortOrdered_int_M (k : Nat) : Meets Go.Proofs.Try.prog 177 (go_slices_insertionSortOrdered_int_S k) :=
  meets_eff (go_slices_insertionSortOrdered_int_F k) (sigs_all (l := [(183, go_cmp_Less_int_S k)]) rfl ⟨go_cmp_Less_int_M k, trivial⟩) fun x => go_slices_insertionSortOrdered_int_t k x.1 x.2.1 x.2.2.1

/-! ### math/bits.Len32 -/
def go_math_bits_Len32_C (k : Nat) : Ctx := { th := TH, se := SE, sg := [], mu := [], an := [], dr := [], pre := [], d2 := [], m := 0, fx := [], n := 19, k := k }
def go_math_bits_Len32 (k : Nat) (a0 : Int) : Option Int :=
  if (decide ((65536 : Int) ≤ a0)) = true then
    if (decide ((256 : Int) ≤ (Int.fdiv a0 (2 ^ (min (16 : Int).toNat (IntKind.u32.bits)))))) = true then
      if (inb (IntKind.u8.wrap ((Int.fdiv (Int.fdiv a0 (2 ^ (min (16 : Int).toNat (IntKind.u32.bits)))) (2 ^ (min (8 : Int).toNat (IntKind.u32.bits)))))) str_00_01_02_02_03_03_03_03_04_04_04_04_256.size) = true then
      some (IntKind.i64.wrap ((IntKind.i64.wrap ((16 : Int) + (8 : Int))) + (IntKind.i64.wrap (((str_00_01_02_02_03_03_03_03_04_04_04_04_256[(IntKind.u8.wrap ((Int.fdiv (Int.fdiv a0 (2 ^ (min (16 : Int).toNat (IntKind.u32.bits)))) (2 ^ (min (8 : Int).toNat (IntKind.u32.bits)))))).toNat]?.getD 0).toNat : Int)))))
      else none
    else
      if (inb (IntKind.u8.wrap ((Int.fdiv a0 (2 ^ (min (16 : Int).toNat (IntKind.u32.bits)))))) str_00_01_02_02_03_03_03_03_04_04_04_04_256.size) = true then
      some (IntKind.i64.wrap ((16 : Int) + (IntKind.i64.wrap (((str_00_01_02_02_03_03_03_03_04_04_04_04_256[(IntKind.u8.wrap ((Int.fdiv a0 (2 ^ (min (16 : Int).toNat (IntKind.u32.bits)))))).toNat]?.getD 0).toNat : Int)))))
      else none
  else
    if (decide ((256 : Int) ≤ a0)) = true then
      if (inb (IntKind.u8.wrap ((Int.fdiv a0 (2 ^ (min (8 : Int).toNat (IntKind.u32.bits)))))) str_00_01_02_02_03_03_03_03_04_04_04_04_256.size) = true then
      some (IntKind.i64.wrap ((IntKind.i64.wrap ((0 : Int) + (8 : Int))) + (IntKind.i64.wrap (((str_00_01_02_02_03_03_03_03_04_04_04_04_256[(IntKind.u8.wrap ((Int.fdiv a0 (2 ^ (min (8 : Int).toNat (IntKind.u32.bits)))))).toNat]?.getD 0).toNat : Int)))))
      else none
    else
      if (inb (IntKind.u8.wrap (a0)) str_00_01_02_02_03_03_03_03_04_04_04_04_256.size) = true then
      some (IntKind.i64.wrap ((0 : Int) + (IntKind.i64.wrap (((str_00_01_02_02_03_03_03_03_04_04_04_04_256[(IntKind.u8.wrap (a0)).toNat]?.getD 0).toNat : Int)))))
      else none
theorem go_math_bits_Len32_t (k : Nat) (a0 : Int) : runPure (go_math_bits_Len32_C k) (bodyOf Go.Proofs.Try.f186) Go.Proofs.Try.f186.results.toList false (.pr (.val (.int .u32)) .un) (.val I) (a0, ()) = go_math_bits_Len32 k a0 := by kernel_rfl
def go_math_bits_Len32_S (k : Nat) : Spec := ⟨(.pr (.val (.int .u32)) .un), (.val I), false, .inl fun x => go_math_bits_Len32 k x.1⟩
theorem go_math_bits_Len32_F (k : Nat) : Fits Go.Proofs.Try.prog (go_math_bits_Len32_C k) 186 Go.Proofs.Try.f186 (bodyOf Go.Proofs.Try.f186) (.pr (.val (.int .u32)) .un) (.val I) false :=
  ⟨th0, mixed0, by kernel_rfl, Go.Proofs.Try.func186, rfl, by kernel_rfl, rfl, rfl, rfl, rfl, rfl, rfl⟩
theorem go_math_bits_Len32_M (k : Nat) : Meets Go.Proofs.Try.prog 186 (go_math_bits_Len32_S k) :=
  meets_pure (go_math_bits_Len32_F k) (sigs_all (l := []) rfl trivial) rfl fun x => go_math_bits_Len32_t k x.1

/-! ### math/bits.Len64 -/
def go_math_bits_Len64_C (k : Nat) : Ctx := { th := TH, se := SE, sg := [], mu := [], an := [], dr := [], pre := [], d2 := [], m := 0, fx := [], n := 25, k := k }
def go_math_bits_Len64 (k : Nat) (a0 : Int) : Option Int :=
  if (decide ((4294967296 : Int) ≤ a0)) = true then
    if (decide ((65536 : Int) ≤ (Int.fdiv a0 (2 ^ (min (32 : Int).toNat (IntKind.u64.bits)))))) = true then
      if (decide ((256 : Int) ≤ (Int.fdiv (Int.fdiv a0 (2 ^ (min (32 : Int).toNat (IntKind.u64.bits)))) (2 ^ (min (16 : Int).toNat (IntKind.u64.bits)))))) = true then
        if (inb (IntKind.u8.wrap ((Int.fdiv (Int.fdiv (Int.fdiv a0 (2 ^ (min (32 : Int).toNat (IntKind.u64.bits)))) (2 ^ (min (16 : Int).toNat (IntKind.u64.bits)))) (2 ^ (min (8 : Int).toNat (IntKind.u64.bits)))))) str_00_01_02_02_03_03_03_03_04_04_04_04_256.size) = true then
        some (IntKind.i64.wrap ((IntKind.i64.wrap ((IntKind.i64.wrap ((32 : Int) + (16 : Int))) + (8 : Int))) + (IntKind.i64.wrap (((str_00_01_02_02_03_03_03_03_04_04_04_04_256[(IntKind.u8.wrap ((Int.fdiv (Int.fdiv (Int.fdiv a0 (2 ^ (min (32 : Int).toNat (IntKind.u64.bits)))) (2 ^ (min (16 : Int).toNat (IntKind.u64.bits)))) (2 ^ (min (8 : Int).toNat (IntKind.u64.bits)))))).toNat]?.getD 0).toNat : Int)))))
        else none
      else
        if (inb (IntKind.u8.wrap ((Int.fdiv (Int.fdiv a0 (2 ^ (min (32 : Int).toNat (IntKind.u64.bits)))) (2 ^ (min (16 : Int).toNat (IntKind.u64.bits)))))) str_00_01_02_02_03_03_03_03_04_04_04_04_256.size) = true then
        some (IntKind.i64.wrap ((IntKind.i64.wrap ((32 : Int) + (16 : Int))) + (IntKind.i64.wrap (((str_00_01_02_02_03_03_03_03_04_04_04_04_256[(IntKind.u8.wrap ((Int.fdiv (Int.fdiv a0 (2 ^ (min (32 : Int).toNat (IntKind.u64.bits)))) (2 ^ (min (16 : Int).toNat (IntKind.u64.bits)))))).toNat]?.getD 0).toNat : Int)))))
        else none
    else
      if (decide ((256 : Int) ≤ (Int.fdiv a0 (2 ^ (min (32 : Int).toNat (IntKind.u64.bits)))))) = true then
        if (inb (IntKind.u8.wrap ((Int.fdiv (Int.fdiv a0 (2 ^ (min (32 : Int).toNat (IntKind.u64.bits)))) (2 ^ (min (8 : Int).toNat (IntKind.u64.bits)))))) str_00_01_02_02_03_03_03_03_04_04_04_04_256.size) = true then
        some (IntKind.i64.wrap ((IntKind.i64.wrap ((32 : Int) + (8 : Int))) + (IntKind.i64.wrap (((str_00_01_02_02_03_03_03_03_04_04_04_04_256[(IntKind.u8.wrap ((Int.fdiv (Int.fdiv a0 (2 ^ (min (32 : Int).toNat (IntKind.u64.bits)))) (2 ^ (min (8 : Int).toNat (IntKind.u64.bits)))))).toNat]?.getD 0).toNat : Int)))))
        else none
      else
        if (inb (IntKind.u8.wrap ((Int.fdiv a0 (2 ^ (min (32 : Int).toNat (IntKind.u64.bits)))))) str_00_01_02_02_03_03_03_03_04_04_04_04_256.size) = true then
        some (IntKind.i64.wrap ((32 : Int) + (IntKind.i64.wrap (((str_00_01_02_02_03_03_03_03_04_04_04_04_256[(IntKind.u8.wrap ((Int.fdiv a0 (2 ^ (min (32 : Int).toNat (IntKind.u64.bits)))))).toNat]?.getD 0).toNat : Int)))))
        else none
  else
    if (decide ((65536 : Int) ≤ a0)) = true then
      if (decide ((256 : Int) ≤ (Int.fdiv a0 (2 ^ (min (16 : Int).toNat (IntKind.u64.bits)))))) = true then
        if (inb (IntKind.u8.wrap ((Int.fdiv (Int.fdiv a0 (2 ^ (min (16 : Int).toNat (IntKind.u64.bits)))) (2 ^ (min (8 : Int).toNat (IntKind.u64.bits)))))) str_00_01_02_02_03_03_03_03_04_04_04_04_256.size) = true then
        some (IntKind.i64.wrap ((IntKind.i64.wrap ((IntKind.i64.wrap ((0 : Int) + (16 : Int))) + (8 : Int))) + (IntKind.i64.wrap (((str_00_01_02_02_03_03_03_03_04_04_04_04_256[(IntKind.u8.wrap ((Int.fdiv (Int.fdiv a0 (2 ^ (min (16 : Int).toNat (IntKind.u64.bits)))) (2 ^ (min (8 : Int).toNat (IntKind.u64.bits)))))).toNat]?.getD 0).toNat : Int)))))
        else none
      else
        if (inb (IntKind.u8.wrap ((Int.fdiv a0 (2 ^ (min (16 : Int).toNat (IntKind.u64.bits)))))) str_00_01_02_02_03_03_03_03_04_04_04_04_256.size) = true then
        some (IntKind.i64.wrap ((IntKind.i64.wrap ((0 : Int) + (16 : Int))) + (IntKind.i64.wrap (((str_00_01_02_02_03_03_03_03_04_04_04_04_256[(IntKind.u8.wrap ((Int.fdiv a0 (2 ^ (min (16 : Int).toNat (IntKind.u64.bits)))))).toNat]?.getD 0).toNat : Int)))))
        else none
    else
      if (decide ((256 : Int) ≤ a0)) = true then
        if (inb (IntKind.u8.wrap ((Int.fdiv a0 (2 ^ (min (8 : Int).toNat (IntKind.u64.bits)))))) str_00_01_02_02_03_03_03_03_04_04_04_04_256.size) = true then
        some (IntKind.i64.wrap ((IntKind.i64.wrap ((0 : Int) + (8 : Int))) + (IntKind.i64.wrap (((str_00_01_02_02_03_03_03_03_04_04_04_04_256[(IntKind.u8.wrap ((Int.fdiv a0 (2 ^ (min (8 : Int).toNat (IntKind.u64.bits)))))).toNat]?.getD 0).toNat : Int)))))
        else none
      else
        if (inb (IntKind.u8.wrap (a0)) str_00_01_02_02_03_03_03_03_04_04_04_04_256.size) = true then
        some (IntKind.i64.wrap ((0 : Int) + (IntKind.i64.wrap (((str_00_01_02_02_03_03_03_03_04_04_04_04_256[(IntKind.u8.wrap (a0)).toNat]?.getD 0).toNat : Int)))))
        else none
theorem go_math_bits_Len64_t (k : Nat) (a0 : Int) : runPure (go_math_bits_Len64_C k) (bodyOf Go.Proofs.Try.f187) Go.Proofs.Try.f187.results.toList false (.pr (.val (.int .u64)) .un) (.val I) (a0, ()) = go_math_bits_Len64 k a0 := by kernel_rfl
def go_math_bits_Len64_S (k : Nat) : Spec := ⟨(.pr (.val (.int .u64)) .un), (.val I), false, .inl fun x => go_math_bits_Len64 k x.1⟩
theorem go_math_bits_Len64_F (k : Nat) : Fits Go.Proofs.Try.prog (go_math_bits_Len64_C k) 187 Go.Proofs.Try.f187 (bodyOf Go.Proofs.Try.f187) (.pr (.val (.int .u64)) .un) (.val I) false :=
  ⟨th0, mixed0, by kernel_rfl, Go.Proofs.Try.func187, rfl, by kernel_rfl, rfl, rfl, rfl, rfl, rfl, rfl⟩
theorem go_math_bits_Len64_M (k : Nat) : Meets Go.Proofs.Try.prog 187 (go_math_bits_Len64_S k) :=
  meets_pure (go_math_bits_Len64_F k) (sigs_all (l := []) rfl trivial) rfl fun x => go_math_bits_Len64_t k x.1

/-! ### math/bits.Len -/
def go_math_bits_Len_C (k : Nat) : Ctx := { th := TH, se := SE, sg := [(186, go_math_bits_Len32_S k), (187, go_math_bits_Len64_S k)], mu := [], an := [], dr := [], pre := [], d2 := [], m := 0, fx := [], n := 8, k := k }
def go_math_bits_Len (k : Nat) (a0 : Int) : Option Int :=
  if false = true then
    (go_math_bits_Len32 k (IntKind.u32.wrap (a0))).bind fun r1 =>
    some r1
  else
    (go_math_bits_Len64 k a0).bind fun r2 =>
    some r2
theorem go_math_bits_Len_t (k : Nat) (a0 : Int) : runPure (go_math_bits_Len_C k) (bodyOf Go.Proofs.Try.f169) Go.Proofs.Try.f169.results.toList false (.pr (.val (.int .u64)) .un) (.val I) (a0, ()) = go_math_bits_Len k a0 := by kernel_rfl
def go_math_bits_Len_S (k : Nat) : Spec := ⟨(.pr (.val (.int .u64)) .un), (.val I), false, .inl fun x => go_math_bits_Len k x.1⟩
theorem go_math_bits_Len_F (k : Nat) : Fits Go.Proofs.Try.prog (go_math_bits_Len_C k) 169 Go.Proofs.Try.f169 (bodyOf Go.Proofs.Try.f169) (.pr (.val (.int .u64)) .un) (.val I) false :=
  ⟨th0, mixed0, by kernel_rfl, Go.Proofs.Try.func169, rfl, by kernel_rfl, rfl, rfl, rfl, rfl, rfl, rfl⟩
theorem go_math_bits_Len_M (k : Nat) : Meets Go.Proofs.Try.prog 169 (go_math_bits_Len_S k) :=
  meets_pure (go_math_bits_Len_F k) (sigs_all (l := [(186, go_math_bits_Len32_S k), (187, go_math_bits_Len64_S k)]) rfl ⟨go_math_bits_Len32_M k, ⟨go_math_bits_Len64_M k, trivial⟩⟩) rfl fun x => go_math_bits_Len_t k x.1

/-! ### slices.nextPowerOfTwo -/
def go_slices_nextPowerOfTwo_C (k : Nat) : Ctx := { th := TH, se := SE, sg := [(169, go_math_bits_Len_S k)], mu := [], an := [], dr := [], pre := [], d2 := [], m := 0, fx := [], n := 7, k := k }
def go_slices_nextPowerOfTwo (k : Nat) (a0 : Int) : Option Int :=
  (go_math_bits_Len k (IntKind.u64.wrap (a0))).bind fun r1 =>
  if (decide (0 ≤ r1)) = true then
  some (IntKind.u64.wrap ((1 : Int) * 2 ^ (min r1.toNat (IntKind.u64.bits))))
  else none
theorem go_slices_nextPowerOfTwo_t (k : Nat) (a0 : Int) : runPure (go_slices_nextPowerOfTwo_C k) (bodyOf Go.Proofs.Try.f190) Go.Proofs.Try.f190.results.toList false (.pr (.val I) .un) (.val (.int .u64)) (a0, ()) = go_slices_nextPowerOfTwo k a0 := by kernel_rfl
def go_slices_nextPowerOfTwo_S (k : Nat) : Spec := ⟨(.pr (.val I) .un), (.val (.int .u64)), false, .inl fun x => go_slices_nextPowerOfTwo k x.1⟩
theorem go_slices_nextPowerOfTwo_F (k : Nat) : Fits Go.Proofs.Try.prog (go_slices_nextPowerOfTwo_C k) 190 Go.Proofs.Try.f190 (bodyOf Go.Proofs.Try.f190) (.pr (.val I) .un) (.val (.int .u64)) false :=
  ⟨th0, mixed0, by kernel_rfl, Go.Proofs.Try.func190, rfl, by kernel_rfl, rfl, rfl, rfl, rfl, rfl, rfl⟩
theorem go_slices_nextPowerOfTwo_M (k : Nat) : Meets Go.Proofs.Try.prog 190 (go_slices_nextPowerOfTwo_S k) :=
  meets_pure (go_slices_nextPowerOfTwo_F k) (sigs_all (l := [(169, go_math_bits_Len_S k)]) rfl ⟨go_math_bits_Len_M k, trivial⟩) rfl fun x => go_slices_nextPowerOfTwo_t k x.1

/-! ### slices.pdqsortOrdered[int] -/
def go_slices_pdqsortOrdered_int_C (k : Nat) : Ctx := { th := TH, se := SE, sg := [(177, go_slices_insertionSortOrdered_int_S k)], mu := [], an := [(2, [(0, false), (1, false), (2, false), (3, false), (8, false), (9, false)])], dr := [], pre := [], d2 := [], m := 1, fx := [0], n := 134, k := k }
def go_slices_pdqsortOrdered_int_L0_E (a0 : (List Int)) (a1 : Int) (a2 : Int) (a3 : Int) (x1 : Unit) : St :=
  ⟨[(0, .one (.own 0), []), (1, .one (.val I a1), []), (2, .one (.val I a2), []), (3, .one (.val I a3), []), (8, .one (.val .bool true), []), (9, .one (.val .bool true), [])], [.arr 3 I a0], []⟩
def go_slices_pdqsortOrdered_int_L0_G (k : Nat) (a0 : (List Int)) (a1 : Int) (a2 : Int) (a3 : Int) (rec2 : Unit → Option (Unit × ((List Int) × (Int × (Int × (Int × Unit)))))) (x1 : Unit) : Option (Unit × ((List Int) × (Int × (Int × (Int × Unit))))) :=
  if (decide ((IntKind.i64.wrap (a2 - a1)) ≤ (12 : Int))) = true then
    (go_slices_insertionSortOrdered_int k a0 a1 a2).bind fun r3 =>
    some ((), (r3.2.1, (a1, (a2, (a3, ())))))
  else
    if (decide (a3 = (0 : Int))) = true then
      none
    else
      if (!true) = true then
        none
      else
        none
def go_slices_pdqsortOrdered_int_L0 (k : Nat) (a0 : (List Int)) (a1 : Int) (a2 : Int) (a3 : Int) : Unit → Option (Unit × ((List Int) × (Int × (Int × (Int × Unit))))) :=
  iter k fun rec2 x1 => go_slices_pdqsortOrdered_int_L0_G k a0 a1 a2 a3 rec2 x1
theorem go_slices_pdqsortOrdered_int_L0_t (k : Nat) (a0 : (List Int)) (a1 : Int) (a2 : Int) (a3 : Int) (x : Unit) :
    iter k (loopAt (go_slices_pdqsortOrdered_int_C k) (bodyOf Go.Proofs.Try.f168) [1, 1, 0] [] (finEff (go_slices_pdqsortOrdered_int_C k) Go.Proofs.Try.f168.results.toList true (.pr (.own 3 I) (.pr (.val I) (.pr (.val I) (.pr (.val I) .un)))) .un (a0, a1, a2, a3, ()))) (go_slices_pdqsortOrdered_int_L0_E a0 a1 a2 a3 x) = go_slices_pdqsortOrdered_int_L0 k a0 a1 a2 a3 x := by
  refine iter_tie (G := fun rec x => go_slices_pdqsortOrdered_int_L0_G k a0 a1 a2 a3 rec x) (go_slices_pdqsortOrdered_int_L0_E a0 a1 a2 a3) (fun rec x => ?_) k x
  have h : loopAt (go_slices_pdqsortOrdered_int_C k) (bodyOf Go.Proofs.Try.f168) [1, 1, 0] [] (finEff (go_slices_pdqsortOrdered_int_C k) Go.Proofs.Try.f168.results.toList true (.pr (.own 3 I) (.pr (.val I) (.pr (.val I) (.pr (.val I) .un)))) .un (a0, a1, a2, a3, ())) rec (go_slices_pdqsortOrdered_int_L0_E a0 a1 a2 a3 x) = go_slices_pdqsortOrdered_int_L0_G k a0 a1 a2 a3 (fun y => rec (go_slices_pdqsortOrdered_int_L0_E a0 a1 a2 a3 y)) x := by kernel_rfl
  rw [h]
def go_slices_pdqsortOrdered_int_T (k : Nat) (a0 : (List Int)) (a1 : Int) (a2 : Int) (a3 : Int) (l_0 : Unit → Option (Unit × ((List Int) × (Int × (Int × (Int × Unit)))))) : Option (Unit × ((List Int) × (Int × (Int × (Int × Unit))))) :=
  l_0 ()
def go_slices_pdqsortOrdered_int (k : Nat) (a0 : (List Int)) (a1 : Int) (a2 : Int) (a3 : Int) : Option (Unit × ((List Int) × (Int × (Int × (Int × Unit))))) :=
  go_slices_pdqsortOrdered_int_T k a0 a1 a2 a3 (fun y => go_slices_pdqsortOrdered_int_L0 k a0 a1 a2 a3 y)
theorem go_slices_pdqsortOrdered_int_t (k : Nat) (a0 : (List Int)) (a1 : Int) (a2 : Int) (a3 : Int) : runEff (go_slices_pdqsortOrdered_int_C k) (bodyOf Go.Proofs.Try.f168) Go.Proofs.Try.f168.results.toList true (.pr (.own 3 I) (.pr (.val I) (.pr (.val I) (.pr (.val I) .un)))) .un (a0, a1, a2, a3, ()) = go_slices_pdqsortOrdered_int k a0 a1 a2 a3 := by
  have h : runEff (go_slices_pdqsortOrdered_int_C k) (bodyOf Go.Proofs.Try.f168) Go.Proofs.Try.f168.results.toList true (.pr (.own 3 I) (.pr (.val I) (.pr (.val I) (.pr (.val I) .un)))) .un (a0, a1, a2, a3, ()) = go_slices_pdqsortOrdered_int_T k a0 a1 a2 a3 (fun y => iter k (loopAt (go_slices_pdqsortOrdered_int_C k) (bodyOf Go.Proofs.Try.f168) [1, 1, 0] [] (finEff (go_slices_pdqsortOrdered_int_C k) Go.Proofs.Try.f168.results.toList true (.pr (.own 3 I) (.pr (.val I) (.pr (.val I) (.pr (.val I) .un)))) .un (a0, a1, a2, a3, ()))) (go_slices_pdqsortOrdered_int_L0_E a0 a1 a2 a3 y)) := by kernel_rfl
  have h0 : (fun y => iter k (loopAt (go_slices_pdqsortOrdered_int_C k) (bodyOf Go.Proofs.Try.f168) [1, 1, 0] [] (finEff (go_slices_pdqsortOrdered_int_C k) Go.Proofs.Try.f168.results.toList true (.pr (.own 3 I) (.pr (.val I) (.pr (.val I) (.pr (.val I) .un)))) .un (a0, a1, a2, a3, ()))) (go_slices_pdqsortOrdered_int_L0_E a0 a1 a2 a3 y)) = (fun y => go_slices_pdqsortOrdered_int_L0 k a0 a1 a2 a3 y) := by
    funext y
    exact go_slices_pdqsortOrdered_int_L0_t k a0 a1 a2 a3 y
  rw [h, h0]
  rfl
def go_slices_pdqsortOrdered_int_S (k : Nat) : Spec := ⟨(.pr (.own 3 I) (.pr (.val I) (.pr (.val I) (.pr (.val I) .un)))), .un, true, .inr fun x => go_slices_pdqsortOrdered_int k x.1 x.2.1 x.2.2.1 x.2.2.2.1⟩
theorem go_slices_pdqsortOrdered_int_F (k : Nat) : Fits Go.Proofs.Try.prog (go_slices_pdqsortOrdered_int_C k) 168 Go.Proofs.Try.f168 (bodyOf Go.Proofs.Try.f168) (.pr (.own 3 I) (.pr (.val I) (.pr (.val I) (.pr (.val I) .un)))) .un true :=
  ⟨th0, mixed0, by kernel_rfl, Go.Proofs.Try.func168, rfl, by kernel_rfl, rfl, rfl, rfl, rfl, rfl, rfl⟩
theorem go_slices_pdqsortOrdered_int_M (k : Nat) : Meets Go.Proofs.Try.prog 168 (go_slices_pdqsortOrdered_int_S k) :=
  meets_eff (go_slices_pdqsortOrdered_int_F k) (sigs_all (l := [(177, go_slices_insertionSortOrdered_int_S k)]) rfl ⟨go_slices_insertionSortOrdered_int_M k, trivial⟩) fun x => go_slices_pdqsortOrdered_int_t k x.1 x.2.1 x.2.2.1 x.2.2.2.1

/-! ### slices.Sort[[]int,int] -/
def go_slices_Sort_int_C (k : Nat) : Ctx := { th := TH, se := SE, sg := [(169, go_math_bits_Len_S k), (168, go_slices_pdqsortOrdered_int_S k)], mu := [], an := [], dr := [], pre := [], d2 := [], m := 1, fx := [0], n := 11, k := k }
def go_slices_Sort_int (k : Nat) (a0 : (List Int)) : Option (Unit × ((List Int) × Unit)) :=
  (go_math_bits_Len k (IntKind.u64.wrap ((a0.length : Int)))).bind fun r1 =>
  (go_slices_pdqsortOrdered_int k a0 (0 : Int) (a0.length : Int) r1).bind fun r2 =>
  some ((), (r2.2.1, ()))
theorem go_slices_Sort_int_t (k : Nat) (a0 : (List Int)) : runEff (go_slices_Sort_int_C k) (bodyOf Go.Proofs.Try.f153) Go.Proofs.Try.f153.results.toList true (.pr (.own 3 I) .un) .un (a0, ()) = go_slices_Sort_int k a0 := by kernel_rfl
def go_slices_Sort_int_S (k : Nat) : Spec := ⟨(.pr (.own 3 I) .un), .un, true, .inr fun x => go_slices_Sort_int k x.1⟩
theorem go_slices_Sort_int_F (k : Nat) : Fits Go.Proofs.Try.prog (go_slices_Sort_int_C k) 153 Go.Proofs.Try.f153 (bodyOf Go.Proofs.Try.f153) (.pr (.own 3 I) .un) .un true :=
  ⟨th0, mixed0, by kernel_rfl, Go.Proofs.Try.func153, rfl, by kernel_rfl, rfl, rfl, rfl, rfl, rfl, rfl⟩
theorem go_slices_Sort_int_M (k : Nat) : Meets Go.Proofs.Try.prog 153 (go_slices_Sort_int_S k) :=
  meets_eff (go_slices_Sort_int_F k) (sigs_all (l := [(169, go_math_bits_Len_S k), (168, go_slices_pdqsortOrdered_int_S k)]) rfl ⟨go_math_bits_Len_M k, ⟨go_slices_pdqsortOrdered_int_M k, trivial⟩⟩) fun x => go_slices_Sort_int_t k x.1

/-! ### impl.graphOf -/
def go_impl_graphOf_C (k : Nat) : Ctx := { th := TH, se := SE, sg := [(69, go_impl_IsBoard_S k), (70, go_impl_IsLeaper_S k), (108, go_impl_Board_present_S k), (152, go_impl_Leaper_steps_S k), (91, go_impl_Board_has_S k), (153, go_slices_Sort_int_S k)], mu := [30, 32], an := [(5, [(2, false), (3, false), (6, false), (36, false), (37, false), (38, false)]), (8, [(2, false), (3, false), (6, false), (8, false), (36, false), (37, false), (38, false), (43, false), (44, false), (45, false)])], dr := [(3, 10), (10, 17), (12, 20)], pre := [], d2 := [], m := 0, fx := [], n := 125, k := k }
def go_impl_graphOf_L0_E (a0 : (Int × (Int × ((List Int) × Unit)))) (a1 : (Int × (Int × Unit))) (r3 : (List Int)) (x30 : (Int × (List (List Int)))) : St :=
  ⟨[(2, .one (.val (.pt (.pair I (.pair I (.pair (.sl I) .unit)))) (some a0)), []), (3, .one (.val (.pt (.pair I (.pair I .unit))) (some a1)), []), (6, .one (.bx 0 0 (.pair (.pair I (.pair I (.pair (.sl I) .unit))) (.pair (.pair I (.pair I .unit)) (.pair (.sl I) (.pair (.sl (.sl I)) .unit))))), []), (36, .one (.val (.sl I) r3), []), (37, .one (.val I (r3.length : Int)), []), (38, .one (.val I x30.1), [])], [.box (.pr (.pr (.val I a0.1) (.pr (.val I a0.2.1) (.pr (.val (.sl I) a0.2.2.1) .un))) (.pr (.pr (.val I a1.1) (.pr (.val I a1.2.1) .un)) (.pr (.val (.sl I) r3) (.pr (.xr 1 .top) .un)))), .rows 22 3 I x30.2], []⟩
def go_impl_graphOf_L1_E (a0 : (Int × (Int × ((List Int) × Unit)))) (a1 : (Int × (Int × Unit))) (r3 : (List Int)) (x30 : (Int × (List (List Int)))) (r32 : (List (List Int))) (x39 : (Int × (List (List Int)))) : St :=
  ⟨[(2, .one (.val (.pt (.pair I (.pair I (.pair (.sl I) .unit)))) (some a0)), []), (3, .one (.val (.pt (.pair I (.pair I .unit))) (some a1)), []), (6, .one (.bx 0 0 (.pair (.pair I (.pair I (.pair (.sl I) .unit))) (.pair (.pair I (.pair I .unit)) (.pair (.sl I) (.pair (.sl (.sl I)) .unit))))), []), (8, .one (.val I (r3.getD x30.1.toNat (0 : Int))), []), (36, .one (.val (.sl I) r3), []), (37, .one (.val I (r3.length : Int)), []), (38, .one (.val I x30.1), []), (43, .one (.val (.sl (.sl I)) r32), []), (44, .one (.val I (r32.length : Int)), []), (45, .one (.val I x39.1), [])], [.box (.pr (.pr (.val I a0.1) (.pr (.val I a0.2.1) (.pr (.val (.sl I) a0.2.2.1) .un))) (.pr (.pr (.val I a1.1) (.pr (.val I a1.2.1) .un)) (.pr (.val (.sl I) r3) (.pr (.xr 1 .top) .un)))), .rows 22 3 I x39.2], []⟩
def go_impl_graphOf_L1_G (k : Nat) (a0 : (Int × (Int × ((List Int) × Unit)))) (a1 : (Int × (Int × Unit))) (r3 : (List Int)) (x30 : (Int × (List (List Int)))) (r32 : (List (List Int))) (rec31 : (Int × (List (List Int))) → Option ((Option ((Int × (Int × ((List Int) × Unit))) × ((Int × (Int × Unit)) × ((List Int) × ((List (List Int)) × Unit))))) × (Bool × Unit))) (rec40 : (Int × (List (List Int))) → Option ((Option ((Int × (Int × ((List Int) × Unit))) × ((Int × (Int × Unit)) × ((List Int) × ((List (List Int)) × Unit))))) × (Bool × Unit))) (x39 : (Int × (List (List Int)))) : Option ((Option ((Int × (Int × ((List Int) × Unit))) × ((Int × (Int × Unit)) × ((List Int) × ((List (List Int)) × Unit))))) × (Bool × Unit)) :=
  if (decide (x39.1 < (r32.length : Int))) = true then
    if (inb x39.1 r32.length) = true then
    if (decide (a0.1 ≠ 0)) = true then
    if (inb (0 : Int) (r32.getD x39.1.toNat []).length) = true then
    if (decide (a0.1 ≠ 0)) = true then
    if (inb (1 : Int) (r32.getD x39.1.toNat []).length) = true then
    (if ((((decide ((0 : Int) ≤ (IntKind.i64.wrap ((Int.tmod (r3.getD x30.1.toNat (0 : Int)) a0.1) + ((r32.getD x39.1.toNat []).getD (0 : Int).toNat (0 : Int)))))) && (decide ((IntKind.i64.wrap ((Int.tmod (r3.getD x30.1.toNat (0 : Int)) a0.1) + ((r32.getD x39.1.toNat []).getD (0 : Int).toNat (0 : Int)))) < a0.1))) && (decide ((0 : Int) ≤ (IntKind.i64.wrap ((IntKind.i64.wrap (Int.tdiv (r3.getD x30.1.toNat (0 : Int)) a0.1)) + ((r32.getD x39.1.toNat []).getD (1 : Int).toNat (0 : Int))))))) && (decide ((IntKind.i64.wrap ((IntKind.i64.wrap (Int.tdiv (r3.getD x30.1.toNat (0 : Int)) a0.1)) + ((r32.getD x39.1.toNat []).getD (1 : Int).toNat (0 : Int)))) < a0.2.1))) = true then go_impl_Board_has k a0 (IntKind.i64.wrap ((IntKind.i64.wrap ((IntKind.i64.wrap ((IntKind.i64.wrap (Int.tdiv (r3.getD x30.1.toNat (0 : Int)) a0.1)) + ((r32.getD x39.1.toNat []).getD (1 : Int).toNat (0 : Int)))) * a0.1)) + (IntKind.i64.wrap ((Int.tmod (r3.getD x30.1.toNat (0 : Int)) a0.1) + ((r32.getD x39.1.toNat []).getD (0 : Int).toNat (0 : Int)))))) else some false).bind fun r41 =>
    if (((((decide ((0 : Int) ≤ (IntKind.i64.wrap ((Int.tmod (r3.getD x30.1.toNat (0 : Int)) a0.1) + ((r32.getD x39.1.toNat []).getD (0 : Int).toNat (0 : Int)))))) && (decide ((IntKind.i64.wrap ((Int.tmod (r3.getD x30.1.toNat (0 : Int)) a0.1) + ((r32.getD x39.1.toNat []).getD (0 : Int).toNat (0 : Int)))) < a0.1))) && (decide ((0 : Int) ≤ (IntKind.i64.wrap ((IntKind.i64.wrap (Int.tdiv (r3.getD x30.1.toNat (0 : Int)) a0.1)) + ((r32.getD x39.1.toNat []).getD (1 : Int).toNat (0 : Int))))))) && (decide ((IntKind.i64.wrap ((IntKind.i64.wrap (Int.tdiv (r3.getD x30.1.toNat (0 : Int)) a0.1)) + ((r32.getD x39.1.toNat []).getD (1 : Int).toNat (0 : Int)))) < a0.2.1))) && r41) = true then
      if (inb (r3.getD x30.1.toNat (0 : Int)) x39.2.length) = true then
      if (decide ((x39.2.getD (r3.getD x30.1.toNat (0 : Int)).toNat []).length + ([(IntKind.i64.wrap ((IntKind.i64.wrap ((IntKind.i64.wrap ((IntKind.i64.wrap (Int.tdiv (r3.getD x30.1.toNat (0 : Int)) a0.1)) + ((r32.getD x39.1.toNat []).getD (1 : Int).toNat (0 : Int)))) * a0.1)) + (IntKind.i64.wrap ((Int.tmod (r3.getD x30.1.toNat (0 : Int)) a0.1) + ((r32.getD x39.1.toNat []).getD (0 : Int).toNat (0 : Int))))))]).length ≤ LIM)) = true then
      if (inb (r3.getD x30.1.toNat (0 : Int)) x39.2.length) = true then
      if (decide ((r3.getD x30.1.toNat (0 : Int)) = (r3.getD x30.1.toNat (0 : Int)))) = true then
      rec40 ((IntKind.i64.wrap (x39.1 + (1 : Int))), (x39.2.set (r3.getD x30.1.toNat (0 : Int)).toNat ((x39.2.getD (r3.getD x30.1.toNat (0 : Int)).toNat []) ++ [(IntKind.i64.wrap ((IntKind.i64.wrap ((IntKind.i64.wrap ((IntKind.i64.wrap (Int.tdiv (r3.getD x30.1.toNat (0 : Int)) a0.1)) + ((r32.getD x39.1.toNat []).getD (1 : Int).toNat (0 : Int)))) * a0.1)) + (IntKind.i64.wrap ((Int.tmod (r3.getD x30.1.toNat (0 : Int)) a0.1) + ((r32.getD x39.1.toNat []).getD (0 : Int).toNat (0 : Int))))))])))
      else none
      else none
      else none
      else none
    else
      rec40 ((IntKind.i64.wrap (x39.1 + (1 : Int))), x39.2)
    else none
    else none
    else none
    else none
    else none
  else
    if (inb (r3.getD x30.1.toNat (0 : Int)) x39.2.length) = true then
    (go_slices_Sort_int k (x39.2.getD (r3.getD x30.1.toNat (0 : Int)).toNat [])).bind fun r42 =>
    rec31 ((IntKind.i64.wrap (x30.1 + (1 : Int))), (x39.2.set (r3.getD x30.1.toNat (0 : Int)).toNat r42.2.1))
    else none
def go_impl_graphOf_L1 (k : Nat) (a0 : (Int × (Int × ((List Int) × Unit)))) (a1 : (Int × (Int × Unit))) (rec31 : (Int × (List (List Int))) → Option ((Option ((Int × (Int × ((List Int) × Unit))) × ((Int × (Int × Unit)) × ((List Int) × ((List (List Int)) × Unit))))) × (Bool × Unit))) (r3 : (List Int)) (x30 : (Int × (List (List Int)))) (r32 : (List (List Int))) : (Int × (List (List Int))) → Option ((Option ((Int × (Int × ((List Int) × Unit))) × ((Int × (Int × Unit)) × ((List Int) × ((List (List Int)) × Unit))))) × (Bool × Unit)) :=
  iter k fun rec40 x39 => go_impl_graphOf_L1_G k a0 a1 r3 x30 r32 rec31 rec40 x39
theorem go_impl_graphOf_L1_t (k : Nat) (a0 : (Int × (Int × ((List Int) × Unit)))) (a1 : (Int × (Int × Unit))) (s0 : St → Option ((Option ((Int × (Int × ((List Int) × Unit))) × ((Int × (Int × Unit)) × ((List Int) × ((List (List Int)) × Unit))))) × (Bool × Unit))) (r3 : (List Int)) (x30 : (Int × (List (List Int)))) (r32 : (List (List Int))) (x : (Int × (List (List Int)))) :
    iter k (loopAt (go_impl_graphOf_C k) (bodyOf Go.Proofs.Try.f109) [1, 1, 1, 0, 1, 0, 0, 1, 1, 0, 0, 1, 0, 1, 0] [s0] (finPure (go_impl_graphOf_C k) Go.Proofs.Try.f109.results.toList true (.pr (.val (.pt (.pair (.pair I (.pair I (.pair (.sl I) .unit))) (.pair (.pair I (.pair I .unit)) (.pair (.sl I) (.pair (.sl (.sl I)) .unit)))))) (.pr (.val .bool) .un)))) (go_impl_graphOf_L1_E a0 a1 r3 x30 r32 x) = go_impl_graphOf_L1 k a0 a1 (fun y => s0 (go_impl_graphOf_L0_E a0 a1 r3 y)) r3 x30 r32 x := by
  refine iter_tie (G := fun rec x => go_impl_graphOf_L1_G k a0 a1 r3 x30 r32 (fun y => s0 (go_impl_graphOf_L0_E a0 a1 r3 y)) rec x) (go_impl_graphOf_L1_E a0 a1 r3 x30 r32) (fun rec x => ?_) k x
  have h : loopAt (go_impl_graphOf_C k) (bodyOf Go.Proofs.Try.f109) [1, 1, 1, 0, 1, 0, 0, 1, 1, 0, 0, 1, 0, 1, 0] [s0] (finPure (go_impl_graphOf_C k) Go.Proofs.Try.f109.results.toList true (.pr (.val (.pt (.pair (.pair I (.pair I (.pair (.sl I) .unit))) (.pair (.pair I (.pair I .unit)) (.pair (.sl I) (.pair (.sl (.sl I)) .unit)))))) (.pr (.val .bool) .un))) rec (go_impl_graphOf_L1_E a0 a1 r3 x30 r32 x) = go_impl_graphOf_L1_G k a0 a1 r3 x30 r32 (fun y => s0 (go_impl_graphOf_L0_E a0 a1 r3 y)) (fun y => rec (go_impl_graphOf_L1_E a0 a1 r3 x30 r32 y)) x := by kernel_rfl
  rw [h]
def go_impl_graphOf_L0_G (k : Nat) (a0 : (Int × (Int × ((List Int) × Unit)))) (a1 : (Int × (Int × Unit))) (r3 : (List Int)) (l_1 : (Int × (List (List Int))) → (List (List Int)) → (Int × (List (List Int))) → Option ((Option ((Int × (Int × ((List Int) × Unit))) × ((Int × (Int × Unit)) × ((List Int) × ((List (List Int)) × Unit))))) × (Bool × Unit))) (rec31 : (Int × (List (List Int))) → Option ((Option ((Int × (Int × ((List Int) × Unit))) × ((Int × (Int × Unit)) × ((List Int) × ((List (List Int)) × Unit))))) × (Bool × Unit))) (x30 : (Int × (List (List Int)))) : Option ((Option ((Int × (Int × ((List Int) × Unit))) × ((Int × (Int × Unit)) × ((List Int) × ((List (List Int)) × Unit))))) × (Bool × Unit)) :=
  if (decide (x30.1 < (r3.length : Int))) = true then
    if (inb x30.1 r3.length) = true then
    (go_impl_Leaper_steps k a1).bind fun r32 =>
    l_1 x30 r32 ((0 : Int), x30.2)
    else none
  else
    some ((some ((a0.1, (a0.2.1, (a0.2.2.1, ()))), ((a1.1, (a1.2.1, ())), (r3, (x30.2, ()))))), (true, ()))
def go_impl_graphOf_L0 (k : Nat) (a0 : (Int × (Int × ((List Int) × Unit)))) (a1 : (Int × (Int × Unit))) (r3 : (List Int)) : (Int × (List (List Int))) → Option ((Option ((Int × (Int × ((List Int) × Unit))) × ((Int × (Int × Unit)) × ((List Int) × ((List (List Int)) × Unit))))) × (Bool × Unit)) :=
  iter k fun rec31 x30 => go_impl_graphOf_L0_G k a0 a1 r3 (fun c0 c1 y => go_impl_graphOf_L1 k a0 a1 rec31 r3 c0 c1 y) rec31 x30
theorem go_impl_graphOf_L0_t (k : Nat) (a0 : (Int × (Int × ((List Int) × Unit)))) (a1 : (Int × (Int × Unit))) (r3 : (List Int)) (x : (Int × (List (List Int)))) :
    iter k (loopAt (go_impl_graphOf_C k) (bodyOf Go.Proofs.Try.f109) [1, 1, 1, 0, 1, 0] [] (finPure (go_impl_graphOf_C k) Go.Proofs.Try.f109.results.toList true (.pr (.val (.pt (.pair (.pair I (.pair I (.pair (.sl I) .unit))) (.pair (.pair I (.pair I .unit)) (.pair (.sl I) (.pair (.sl (.sl I)) .unit)))))) (.pr (.val .bool) .un)))) (go_impl_graphOf_L0_E a0 a1 r3 x) = go_impl_graphOf_L0 k a0 a1 r3 x := by
  refine iter_tie (G := fun rec x => go_impl_graphOf_L0_G k a0 a1 r3 (fun c0 c1 y => go_impl_graphOf_L1 k a0 a1 rec r3 c0 c1 y) rec x) (go_impl_graphOf_L0_E a0 a1 r3) (fun rec x => ?_) k x
  have h : loopAt (go_impl_graphOf_C k) (bodyOf Go.Proofs.Try.f109) [1, 1, 1, 0, 1, 0] [] (finPure (go_impl_graphOf_C k) Go.Proofs.Try.f109.results.toList true (.pr (.val (.pt (.pair (.pair I (.pair I (.pair (.sl I) .unit))) (.pair (.pair I (.pair I .unit)) (.pair (.sl I) (.pair (.sl (.sl I)) .unit)))))) (.pr (.val .bool) .un))) rec (go_impl_graphOf_L0_E a0 a1 r3 x) = go_impl_graphOf_L0_G k a0 a1 r3 (fun c0 c1 y => iter k (loopAt (go_impl_graphOf_C k) (bodyOf Go.Proofs.Try.f109) [1, 1, 1, 0, 1, 0, 0, 1, 1, 0, 0, 1, 0, 1, 0] [rec] (finPure (go_impl_graphOf_C k) Go.Proofs.Try.f109.results.toList true (.pr (.val (.pt (.pair (.pair I (.pair I (.pair (.sl I) .unit))) (.pair (.pair I (.pair I .unit)) (.pair (.sl I) (.pair (.sl (.sl I)) .unit)))))) (.pr (.val .bool) .un)))) (go_impl_graphOf_L1_E a0 a1 r3 c0 c1 y)) (fun y => rec (go_impl_graphOf_L0_E a0 a1 r3 y)) x := by kernel_rfl
  have h0 : (fun c0 c1 y => iter k (loopAt (go_impl_graphOf_C k) (bodyOf Go.Proofs.Try.f109) [1, 1, 1, 0, 1, 0, 0, 1, 1, 0, 0, 1, 0, 1, 0] [rec] (finPure (go_impl_graphOf_C k) Go.Proofs.Try.f109.results.toList true (.pr (.val (.pt (.pair (.pair I (.pair I (.pair (.sl I) .unit))) (.pair (.pair I (.pair I .unit)) (.pair (.sl I) (.pair (.sl (.sl I)) .unit)))))) (.pr (.val .bool) .un)))) (go_impl_graphOf_L1_E a0 a1 r3 c0 c1 y)) = (fun c0 c1 y => go_impl_graphOf_L1 k a0 a1 (fun y => rec (go_impl_graphOf_L0_E a0 a1 r3 y)) r3 c0 c1 y) := by
    funext c0 c1 y
    exact go_impl_graphOf_L1_t k a0 a1 rec r3 c0 c1 y
  rw [h, h0]
def go_impl_graphOf_T (k : Nat) (a0 : (Int × (Int × ((List Int) × Unit)))) (a1 : (Int × (Int × Unit))) (l_0 : (List Int) → (Int × (List (List Int))) → Option ((Option ((Int × (Int × ((List Int) × Unit))) × ((Int × (Int × Unit)) × ((List Int) × ((List (List Int)) × Unit))))) × (Bool × Unit))) : Option ((Option ((Int × (Int × ((List Int) × Unit))) × ((Int × (Int × Unit)) × ((List Int) × ((List (List Int)) × Unit))))) × (Bool × Unit)) :=
  (go_impl_IsBoard k a0).bind fun r1 =>
  (if (!(!r1)) = true then go_impl_IsLeaper k a1 else some false).bind fun r2 =>
  if ((!r1) || (!r2)) = true then
    some (none, (false, ()))
  else
    (go_impl_Board_present k a0).bind fun r3 =>
    if (decide (0 ≤ (IntKind.i64.wrap (a0.1 * a0.2.1)) ∧ (IntKind.i64.wrap (a0.1 * a0.2.1)) ≤ (LIM : Int))) = true then
    l_0 r3 ((0 : Int), (List.replicate (IntKind.i64.wrap (a0.1 * a0.2.1)).toNat []))
    else none
def go_impl_graphOf (k : Nat) (a0 : (Int × (Int × ((List Int) × Unit)))) (a1 : (Int × (Int × Unit))) : Option ((Option ((Int × (Int × ((List Int) × Unit))) × ((Int × (Int × Unit)) × ((List Int) × ((List (List Int)) × Unit))))) × (Bool × Unit)) :=
  go_impl_graphOf_T k a0 a1 (fun r3 y => go_impl_graphOf_L0 k a0 a1 r3 y)
theorem go_impl_graphOf_t (k : Nat) (a0 : (Int × (Int × ((List Int) × Unit)))) (a1 : (Int × (Int × Unit))) : runPure (go_impl_graphOf_C k) (bodyOf Go.Proofs.Try.f109) Go.Proofs.Try.f109.results.toList true (.pr (.val (.pair I (.pair I (.pair (.sl I) .unit)))) (.pr (.val (.pair I (.pair I .unit))) .un)) (.pr (.val (.pt (.pair (.pair I (.pair I (.pair (.sl I) .unit))) (.pair (.pair I (.pair I .unit)) (.pair (.sl I) (.pair (.sl (.sl I)) .unit)))))) (.pr (.val .bool) .un)) (a0, a1, ()) = go_impl_graphOf k a0 a1 := by
  have h : runPure (go_impl_graphOf_C k) (bodyOf Go.Proofs.Try.f109) Go.Proofs.Try.f109.results.toList true (.pr (.val (.pair I (.pair I (.pair (.sl I) .unit)))) (.pr (.val (.pair I (.pair I .unit))) .un)) (.pr (.val (.pt (.pair (.pair I (.pair I (.pair (.sl I) .unit))) (.pair (.pair I (.pair I .unit)) (.pair (.sl I) (.pair (.sl (.sl I)) .unit)))))) (.pr (.val .bool) .un)) (a0, a1, ()) = go_impl_graphOf_T k a0 a1 (fun r3 y => iter k (loopAt (go_impl_graphOf_C k) (bodyOf Go.Proofs.Try.f109) [1, 1, 1, 0, 1, 0] [] (finPure (go_impl_graphOf_C k) Go.Proofs.Try.f109.results.toList true (.pr (.val (.pt (.pair (.pair I (.pair I (.pair (.sl I) .unit))) (.pair (.pair I (.pair I .unit)) (.pair (.sl I) (.pair (.sl (.sl I)) .unit)))))) (.pr (.val .bool) .un)))) (go_impl_graphOf_L0_E a0 a1 r3 y)) := by kernel_rfl
  have h0 : (fun r3 y => iter k (loopAt (go_impl_graphOf_C k) (bodyOf Go.Proofs.Try.f109) [1, 1, 1, 0, 1, 0] [] (finPure (go_impl_graphOf_C k) Go.Proofs.Try.f109.results.toList true (.pr (.val (.pt (.pair (.pair I (.pair I (.pair (.sl I) .unit))) (.pair (.pair I (.pair I .unit)) (.pair (.sl I) (.pair (.sl (.sl I)) .unit)))))) (.pr (.val .bool) .un)))) (go_impl_graphOf_L0_E a0 a1 r3 y)) = (fun r3 y => go_impl_graphOf_L0 k a0 a1 r3 y) := by
    funext r3 y
    exact go_impl_graphOf_L0_t k a0 a1 r3 y
  rw [h, h0]
  rfl
def go_impl_graphOf_S (k : Nat) : Spec := ⟨(.pr (.val (.pair I (.pair I (.pair (.sl I) .unit)))) (.pr (.val (.pair I (.pair I .unit))) .un)), (.pr (.val (.pt (.pair (.pair I (.pair I (.pair (.sl I) .unit))) (.pair (.pair I (.pair I .unit)) (.pair (.sl I) (.pair (.sl (.sl I)) .unit)))))) (.pr (.val .bool) .un)), true, .inl fun x => go_impl_graphOf k x.1 x.2.1⟩
theorem go_impl_graphOf_F (k : Nat) : Fits Go.Proofs.Try.prog (go_impl_graphOf_C k) 109 Go.Proofs.Try.f109 (bodyOf Go.Proofs.Try.f109) (.pr (.val (.pair I (.pair I (.pair (.sl I) .unit)))) (.pr (.val (.pair I (.pair I .unit))) .un)) (.pr (.val (.pt (.pair (.pair I (.pair I (.pair (.sl I) .unit))) (.pair (.pair I (.pair I .unit)) (.pair (.sl I) (.pair (.sl (.sl I)) .unit)))))) (.pr (.val .bool) .un)) true :=
  ⟨th0, mixed0, by kernel_rfl, Go.Proofs.Try.func109, rfl, by kernel_rfl, rfl, rfl, rfl, rfl, rfl, rfl⟩
theorem go_impl_graphOf_M (k : Nat) : Meets Go.Proofs.Try.prog 109 (go_impl_graphOf_S k) :=
  meets_pure (go_impl_graphOf_F k) (sigs_all (l := [(69, go_impl_IsBoard_S k), (70, go_impl_IsLeaper_S k), (108, go_impl_Board_present_S k), (152, go_impl_Leaper_steps_S k), (91, go_impl_Board_has_S k), (153, go_slices_Sort_int_S k)]) rfl ⟨go_impl_IsBoard_M k, ⟨go_impl_IsLeaper_M k, ⟨go_impl_Board_present_M k, ⟨go_impl_Leaper_steps_M k, ⟨go_impl_Board_has_M k, ⟨go_slices_Sort_int_M k, trivial⟩⟩⟩⟩⟩⟩) rfl fun x => go_impl_graphOf_t k x.1 x.2.1

/-! ### spec.l1In -/
def go_spec_l1In_C (k : Nat) : Ctx := { th := TH, se := SE, sg := [], mu := [], an := [], dr := [], pre := [], d2 := [], m := 0, fx := [], n := 15, k := k }
def go_spec_l1In (k : Nat) (a0 : Int) (a1 : Int) (a2 : Int) : Option Bool :=
  some ((decide (a1 ≤ a0)) && (decide (a0 ≤ a2)))
theorem go_spec_l1In_t (k : Nat) (a0 : Int) (a1 : Int) (a2 : Int) : runPure (go_spec_l1In_C k) (bodyOf Go.Proofs.Try.f103) Go.Proofs.Try.f103.results.toList false (.pr (.val I) (.pr (.val I) (.pr (.val I) .un))) (.val .bool) (a0, a1, a2, ()) = go_spec_l1In k a0 a1 a2 := by kernel_rfl
def go_spec_l1In_S (k : Nat) : Spec := ⟨(.pr (.val I) (.pr (.val I) (.pr (.val I) .un))), (.val .bool), false, .inl fun x => go_spec_l1In k x.1 x.2.1 x.2.2.1⟩
theorem go_spec_l1In_F (k : Nat) : Fits Go.Proofs.Try.prog (go_spec_l1In_C k) 103 Go.Proofs.Try.f103 (bodyOf Go.Proofs.Try.f103) (.pr (.val I) (.pr (.val I) (.pr (.val I) .un))) (.val .bool) false :=
  ⟨th0, mixed0, by kernel_rfl, Go.Proofs.Try.func103, rfl, by kernel_rfl, rfl, rfl, rfl, rfl, rfl, rfl⟩
theorem go_spec_l1In_M (k : Nat) : Meets Go.Proofs.Try.prog 103 (go_spec_l1In_S k) :=
  meets_pure (go_spec_l1In_F k) (sigs_all (l := []) rfl trivial) rfl fun x => go_spec_l1In_t k x.1 x.2.1 x.2.2.1

/-! ### spec.l1All -/
def go_spec_l1All_C (k : Nat) : Ctx := { th := TH, se := SE, sg := [(103, go_spec_l1In_S k)], mu := [], an := [(2, [(1, false), (2, false), (9, false), (10, false), (11, false)])], dr := [], pre := [], d2 := [], m := 0, fx := [], n := 21, k := k }
def go_spec_l1All_L0_E (a0 : (List Int)) (a1 : Int) (a2 : Int) (x4 : (Int)) : St :=
  ⟨[(1, .one (.val I a1), []), (2, .one (.val I a2), []), (9, .one (.val (.sl I) a0), []), (10, .one (.val I (a0.length : Int)), []), (11, .one (.val I x4), [])], [], []⟩
def go_spec_l1All_L0_G (k : Nat) (a0 : (List Int)) (a1 : Int) (a2 : Int) (rec5 : (Int) → Option Bool) (x4 : (Int)) : Option Bool :=
  if (decide (x4 < (a0.length : Int))) = true then
    if (inb x4 a0.length) = true then
    (go_spec_l1In k (a0.getD x4.toNat (0 : Int)) a1 a2).bind fun r6 =>
    if (!r6) = true then
      some false
    else
      rec5 (IntKind.i64.wrap (x4 + (1 : Int)))
    else none
  else
    some true
def go_spec_l1All_L0 (k : Nat) (a0 : (List Int)) (a1 : Int) (a2 : Int) : (Int) → Option Bool :=
  iter k fun rec5 x4 => go_spec_l1All_L0_G k a0 a1 a2 rec5 x4
theorem go_spec_l1All_L0_t (k : Nat) (a0 : (List Int)) (a1 : Int) (a2 : Int) (x : (Int)) :
    iter k (loopAt (go_spec_l1All_C k) (bodyOf Go.Proofs.Try.f131) [1, 0, 1, 0] [] (finPure (go_spec_l1All_C k) Go.Proofs.Try.f131.results.toList false (.val .bool))) (go_spec_l1All_L0_E a0 a1 a2 x) = go_spec_l1All_L0 k a0 a1 a2 x := by
  refine iter_tie (G := fun rec x => go_spec_l1All_L0_G k a0 a1 a2 rec x) (go_spec_l1All_L0_E a0 a1 a2) (fun rec x => ?_) k x
  have h : loopAt (go_spec_l1All_C k) (bodyOf Go.Proofs.Try.f131) [1, 0, 1, 0] [] (finPure (go_spec_l1All_C k) Go.Proofs.Try.f131.results.toList false (.val .bool)) rec (go_spec_l1All_L0_E a0 a1 a2 x) = go_spec_l1All_L0_G k a0 a1 a2 (fun y => rec (go_spec_l1All_L0_E a0 a1 a2 y)) x := by kernel_rfl
  rw [h]
def go_spec_l1All_T (k : Nat) (a0 : (List Int)) (a1 : Int) (a2 : Int) (l_0 : (Int) → Option Bool) : Option Bool :=
  l_0 (0 : Int)
def go_spec_l1All (k : Nat) (a0 : (List Int)) (a1 : Int) (a2 : Int) : Option Bool :=
  go_spec_l1All_T k a0 a1 a2 (fun y => go_spec_l1All_L0 k a0 a1 a2 y)
theorem go_spec_l1All_t (k : Nat) (a0 : (List Int)) (a1 : Int) (a2 : Int) : runPure (go_spec_l1All_C k) (bodyOf Go.Proofs.Try.f131) Go.Proofs.Try.f131.results.toList false (.pr (.val (.sl I)) (.pr (.val I) (.pr (.val I) .un))) (.val .bool) (a0, a1, a2, ()) = go_spec_l1All k a0 a1 a2 := by
  have h : runPure (go_spec_l1All_C k) (bodyOf Go.Proofs.Try.f131) Go.Proofs.Try.f131.results.toList false (.pr (.val (.sl I)) (.pr (.val I) (.pr (.val I) .un))) (.val .bool) (a0, a1, a2, ()) = go_spec_l1All_T k a0 a1 a2 (fun y => iter k (loopAt (go_spec_l1All_C k) (bodyOf Go.Proofs.Try.f131) [1, 0, 1, 0] [] (finPure (go_spec_l1All_C k) Go.Proofs.Try.f131.results.toList false (.val .bool))) (go_spec_l1All_L0_E a0 a1 a2 y)) := by kernel_rfl
  have h0 : (fun y => iter k (loopAt (go_spec_l1All_C k) (bodyOf Go.Proofs.Try.f131) [1, 0, 1, 0] [] (finPure (go_spec_l1All_C k) Go.Proofs.Try.f131.results.toList false (.val .bool))) (go_spec_l1All_L0_E a0 a1 a2 y)) = (fun y => go_spec_l1All_L0 k a0 a1 a2 y) := by
    funext y
    exact go_spec_l1All_L0_t k a0 a1 a2 y
  rw [h, h0]
  rfl
def go_spec_l1All_S (k : Nat) : Spec := ⟨(.pr (.val (.sl I)) (.pr (.val I) (.pr (.val I) .un))), (.val .bool), false, .inl fun x => go_spec_l1All k x.1 x.2.1 x.2.2.1⟩
theorem go_spec_l1All_F (k : Nat) : Fits Go.Proofs.Try.prog (go_spec_l1All_C k) 131 Go.Proofs.Try.f131 (bodyOf Go.Proofs.Try.f131) (.pr (.val (.sl I)) (.pr (.val I) (.pr (.val I) .un))) (.val .bool) false :=
  ⟨th0, mixed0, by kernel_rfl, Go.Proofs.Try.func131, rfl, by kernel_rfl, rfl, rfl, rfl, rfl, rfl, rfl⟩
theorem go_spec_l1All_M (k : Nat) : Meets Go.Proofs.Try.prog 131 (go_spec_l1All_S k) :=
  meets_pure (go_spec_l1All_F k) (sigs_all (l := [(103, go_spec_l1In_S k)]) rfl ⟨go_spec_l1In_M k, trivial⟩) rfl fun x => go_spec_l1All_t k x.1 x.2.1 x.2.2.1

/-! ### spec.boSize -/
def go_spec_boSize_C (k : Nat) : Ctx := { th := TH, se := SE, sg := [(103, go_spec_l1In_S k)], mu := [], an := [], dr := [], pre := [], d2 := [], m := 0, fx := [], n := 11, k := k }
def go_spec_boSize (k : Nat) (a0 : Int) (a1 : Int) : Option Bool :=
  (go_spec_l1In k a0 (1 : Int) (8 : Int)).bind fun r1 =>
  (if r1 = true then go_spec_l1In k a1 (1 : Int) (8 : Int) else some false).bind fun r2 =>
  some (r1 && r2)
theorem go_spec_boSize_t (k : Nat) (a0 : Int) (a1 : Int) : runPure (go_spec_boSize_C k) (bodyOf Go.Proofs.Try.f170) Go.Proofs.Try.f170.results.toList false (.pr (.val I) (.pr (.val I) .un)) (.val .bool) (a0, a1, ()) = go_spec_boSize k a0 a1 := by kernel_rfl
def go_spec_boSize_S (k : Nat) : Spec := ⟨(.pr (.val I) (.pr (.val I) .un)), (.val .bool), false, .inl fun x => go_spec_boSize k x.1 x.2.1⟩
theorem go_spec_boSize_F (k : Nat) : Fits Go.Proofs.Try.prog (go_spec_boSize_C k) 170 Go.Proofs.Try.f170 (bodyOf Go.Proofs.Try.f170) (.pr (.val I) (.pr (.val I) .un)) (.val .bool) false :=
  ⟨th0, mixed0, by kernel_rfl, Go.Proofs.Try.func170, rfl, by kernel_rfl, rfl, rfl, rfl, rfl, rfl, rfl⟩
theorem go_spec_boSize_M (k : Nat) : Meets Go.Proofs.Try.prog 170 (go_spec_boSize_S k) :=
  meets_pure (go_spec_boSize_F k) (sigs_all (l := [(103, go_spec_l1In_S k)]) rfl ⟨go_spec_l1In_M k, trivial⟩) rfl fun x => go_spec_boSize_t k x.1 x.2.1

/-! ### spec.boGood -/
def go_spec_boGood_C (k : Nat) : Ctx := { th := TH, se := SE, sg := [(170, go_spec_boSize_S k), (131, go_spec_l1All_S k)], mu := [], an := [(4, [(1, false), (3, false)])], dr := [(6, 11)], pre := [], d2 := [], m := 0, fx := [], n := 52, k := k }
def go_spec_boGood_L0_E (a0 : (Int × (Int × ((List Int) × Unit)))) (x5 : (Int)) : St :=
  ⟨[(1, .one (.val (.pt (.pair I (.pair I (.pair (.sl I) .unit)))) (some a0)), []), (3, .one (.val I x5), [])], [], []⟩
def go_spec_boGood_L0_G (k : Nat) (a0 : (Int × (Int × ((List Int) × Unit)))) (rec6 : (Int) → Option Bool) (x5 : (Int)) : Option Bool :=
  if (decide (x5 < (a0.2.2.1.length : Int))) = true then
    if (inb (IntKind.i64.wrap (x5 - (1 : Int))) a0.2.2.1.length) = true then
    if (inb x5 a0.2.2.1.length) = true then
    if (decide ((a0.2.2.1.getD x5.toNat (0 : Int)) ≤ (a0.2.2.1.getD (IntKind.i64.wrap (x5 - (1 : Int))).toNat (0 : Int)))) = true then
      some false
    else
      rec6 (IntKind.i64.wrap (x5 + (1 : Int)))
    else none
    else none
  else
    some true
def go_spec_boGood_L0 (k : Nat) (a0 : (Int × (Int × ((List Int) × Unit)))) : (Int) → Option Bool :=
  iter k fun rec6 x5 => go_spec_boGood_L0_G k a0 rec6 x5
theorem go_spec_boGood_L0_t (k : Nat) (a0 : (Int × (Int × ((List Int) × Unit)))) (x : (Int)) :
    iter k (loopAt (go_spec_boGood_C k) (bodyOf Go.Proofs.Try.f157) [1, 1, 0, 1, 0] [] (finPure (go_spec_boGood_C k) Go.Proofs.Try.f157.results.toList false (.val .bool))) (go_spec_boGood_L0_E a0 x) = go_spec_boGood_L0 k a0 x := by
  refine iter_tie (G := fun rec x => go_spec_boGood_L0_G k a0 rec x) (go_spec_boGood_L0_E a0) (fun rec x => ?_) k x
  have h : loopAt (go_spec_boGood_C k) (bodyOf Go.Proofs.Try.f157) [1, 1, 0, 1, 0] [] (finPure (go_spec_boGood_C k) Go.Proofs.Try.f157.results.toList false (.val .bool)) rec (go_spec_boGood_L0_E a0 x) = go_spec_boGood_L0_G k a0 (fun y => rec (go_spec_boGood_L0_E a0 y)) x := by kernel_rfl
  rw [h]
def go_spec_boGood_T (k : Nat) (a0 : (Int × (Int × ((List Int) × Unit)))) (l_0 : (Int) → Option Bool) : Option Bool :=
  (go_spec_boSize k a0.1 a0.2.1).bind fun r1 =>
  (if (!((!r1) || (decide ((IntKind.i64.wrap (a0.1 * a0.2.1)) ≤ (a0.2.2.1.length : Int))))) = true then go_spec_l1All k a0.2.2.1 (0 : Int) (IntKind.i64.wrap ((IntKind.i64.wrap (a0.1 * a0.2.1)) - (1 : Int))) else some false).bind fun r2 =>
  if (((!r1) || (decide ((IntKind.i64.wrap (a0.1 * a0.2.1)) ≤ (a0.2.2.1.length : Int)))) || (!r2)) = true then
    some false
  else
    l_0 (1 : Int)
def go_spec_boGood (k : Nat) (a0 : (Int × (Int × ((List Int) × Unit)))) : Option Bool :=
  go_spec_boGood_T k a0 (fun y => go_spec_boGood_L0 k a0 y)
theorem go_spec_boGood_t (k : Nat) (a0 : (Int × (Int × ((List Int) × Unit)))) : runPure (go_spec_boGood_C k) (bodyOf Go.Proofs.Try.f157) Go.Proofs.Try.f157.results.toList false (.pr (.val (.pair I (.pair I (.pair (.sl I) .unit)))) .un) (.val .bool) (a0, ()) = go_spec_boGood k a0 := by
  have h : runPure (go_spec_boGood_C k) (bodyOf Go.Proofs.Try.f157) Go.Proofs.Try.f157.results.toList false (.pr (.val (.pair I (.pair I (.pair (.sl I) .unit)))) .un) (.val .bool) (a0, ()) = go_spec_boGood_T k a0 (fun y => iter k (loopAt (go_spec_boGood_C k) (bodyOf Go.Proofs.Try.f157) [1, 1, 0, 1, 0] [] (finPure (go_spec_boGood_C k) Go.Proofs.Try.f157.results.toList false (.val .bool))) (go_spec_boGood_L0_E a0 y)) := by kernel_rfl
  have h0 : (fun y => iter k (loopAt (go_spec_boGood_C k) (bodyOf Go.Proofs.Try.f157) [1, 1, 0, 1, 0] [] (finPure (go_spec_boGood_C k) Go.Proofs.Try.f157.results.toList false (.val .bool))) (go_spec_boGood_L0_E a0 y)) = (fun y => go_spec_boGood_L0 k a0 y) := by
    funext y
    exact go_spec_boGood_L0_t k a0 y
  rw [h, h0]
  rfl
def go_spec_boGood_S (k : Nat) : Spec := ⟨(.pr (.val (.pair I (.pair I (.pair (.sl I) .unit)))) .un), (.val .bool), false, .inl fun x => go_spec_boGood k x.1⟩
theorem go_spec_boGood_F (k : Nat) : Fits Go.Proofs.Try.prog (go_spec_boGood_C k) 157 Go.Proofs.Try.f157 (bodyOf Go.Proofs.Try.f157) (.pr (.val (.pair I (.pair I (.pair (.sl I) .unit)))) .un) (.val .bool) false :=
  ⟨th0, mixed0, by kernel_rfl, Go.Proofs.Try.func157, rfl, by kernel_rfl, rfl, rfl, rfl, rfl, rfl, rfl⟩
theorem go_spec_boGood_M (k : Nat) : Meets Go.Proofs.Try.prog 157 (go_spec_boGood_S k) :=
  meets_pure (go_spec_boGood_F k) (sigs_all (l := [(170, go_spec_boSize_S k), (131, go_spec_l1All_S k)]) rfl ⟨go_spec_boSize_M k, ⟨go_spec_l1All_M k, trivial⟩⟩) rfl fun x => go_spec_boGood_t k x.1

/-! ### spec.boLeaper -/
def go_spec_boLeaper_C (k : Nat) : Ctx := { th := TH, se := SE, sg := [(103, go_spec_l1In_S k)], mu := [], an := [], dr := [], pre := [], d2 := [], m := 0, fx := [], n := 13, k := k }
def go_spec_boLeaper (k : Nat) (a0 : (Int × (Int × Unit))) : Option Bool :=
  (go_spec_l1In k a0.2.1 (1 : Int) (5 : Int)).bind fun r1 =>
  (if r1 = true then go_spec_l1In k a0.1 (0 : Int) a0.2.1 else some false).bind fun r2 =>
  some (r1 && r2)
theorem go_spec_boLeaper_t (k : Nat) (a0 : (Int × (Int × Unit))) : runPure (go_spec_boLeaper_C k) (bodyOf Go.Proofs.Try.f158) Go.Proofs.Try.f158.results.toList false (.pr (.val (.pair I (.pair I .unit))) .un) (.val .bool) (a0, ()) = go_spec_boLeaper k a0 := by kernel_rfl
def go_spec_boLeaper_S (k : Nat) : Spec := ⟨(.pr (.val (.pair I (.pair I .unit))) .un), (.val .bool), false, .inl fun x => go_spec_boLeaper k x.1⟩
theorem go_spec_boLeaper_F (k : Nat) : Fits Go.Proofs.Try.prog (go_spec_boLeaper_C k) 158 Go.Proofs.Try.f158 (bodyOf Go.Proofs.Try.f158) (.pr (.val (.pair I (.pair I .unit))) .un) (.val .bool) false :=
  ⟨th0, mixed0, by kernel_rfl, Go.Proofs.Try.func158, rfl, by kernel_rfl, rfl, rfl, rfl, rfl, rfl, rfl⟩
theorem go_spec_boLeaper_M (k : Nat) : Meets Go.Proofs.Try.prog 158 (go_spec_boLeaper_S k) :=
  meets_pure (go_spec_boLeaper_F k) (sigs_all (l := [(103, go_spec_l1In_S k)]) rfl ⟨go_spec_l1In_M k, trivial⟩) rfl fun x => go_spec_boLeaper_t k x.1

/-! ### spec.boTwo -/
def go_spec_boTwo_C (k : Nat) : Ctx := { th := TH, se := SE, sg := [(157, go_spec_boGood_S k), (158, go_spec_boLeaper_S k)], mu := [], an := [], dr := [], pre := [], d2 := [], m := 0, fx := [], n := 11, k := k }
def go_spec_boTwo (k : Nat) (a0 : (Int × (Int × ((List Int) × Unit)))) (a1 : (Int × (Int × Unit))) : Option Bool :=
  (go_spec_boGood k a0).bind fun r1 =>
  (if r1 = true then go_spec_boLeaper k a1 else some false).bind fun r2 =>
  some (r1 && r2)
theorem go_spec_boTwo_t (k : Nat) (a0 : (Int × (Int × ((List Int) × Unit)))) (a1 : (Int × (Int × Unit))) : runPure (go_spec_boTwo_C k) (bodyOf Go.Proofs.Try.f116) Go.Proofs.Try.f116.results.toList false (.pr (.val (.pair I (.pair I (.pair (.sl I) .unit)))) (.pr (.val (.pair I (.pair I .unit))) .un)) (.val .bool) (a0, a1, ()) = go_spec_boTwo k a0 a1 := by kernel_rfl
def go_spec_boTwo_S (k : Nat) : Spec := ⟨(.pr (.val (.pair I (.pair I (.pair (.sl I) .unit)))) (.pr (.val (.pair I (.pair I .unit))) .un)), (.val .bool), false, .inl fun x => go_spec_boTwo k x.1 x.2.1⟩
theorem go_spec_boTwo_F (k : Nat) : Fits Go.Proofs.Try.prog (go_spec_boTwo_C k) 116 Go.Proofs.Try.f116 (bodyOf Go.Proofs.Try.f116) (.pr (.val (.pair I (.pair I (.pair (.sl I) .unit)))) (.pr (.val (.pair I (.pair I .unit))) .un)) (.val .bool) false :=
  ⟨th0, mixed0, by kernel_rfl, Go.Proofs.Try.func116, rfl, by kernel_rfl, rfl, rfl, rfl, rfl, rfl, rfl⟩
theorem go_spec_boTwo_M (k : Nat) : Meets Go.Proofs.Try.prog 116 (go_spec_boTwo_S k) :=
  meets_pure (go_spec_boTwo_F k) (sigs_all (l := [(157, go_spec_boGood_S k), (158, go_spec_boLeaper_S k)]) rfl ⟨go_spec_boGood_M k, ⟨go_spec_boLeaper_M k, trivial⟩⟩) rfl fun x => go_spec_boTwo_t k x.1 x.2.1

/-! ### spec.l1Has -/
def go_spec_l1Has_C (k : Nat) : Ctx := { th := TH, se := SE, sg := [], mu := [], an := [(2, [(1, false), (7, false), (8, false), (9, false)])], dr := [], pre := [], d2 := [], m := 0, fx := [], n := 17, k := k }
def go_spec_l1Has_L0_E (a0 : (List Int)) (a1 : Int) (x3 : (Int)) : St :=
  ⟨[(1, .one (.val I a1), []), (7, .one (.val (.sl I) a0), []), (8, .one (.val I (a0.length : Int)), []), (9, .one (.val I x3), [])], [], []⟩
def go_spec_l1Has_L0_G (k : Nat) (a0 : (List Int)) (a1 : Int) (rec4 : (Int) → Option Bool) (x3 : (Int)) : Option Bool :=
  if (decide (x3 < (a0.length : Int))) = true then
    if (inb x3 a0.length) = true then
    if (decide ((a0.getD x3.toNat (0 : Int)) = a1)) = true then
      some true
    else
      rec4 (IntKind.i64.wrap (x3 + (1 : Int)))
    else none
  else
    some false
def go_spec_l1Has_L0 (k : Nat) (a0 : (List Int)) (a1 : Int) : (Int) → Option Bool :=
  iter k fun rec4 x3 => go_spec_l1Has_L0_G k a0 a1 rec4 x3
theorem go_spec_l1Has_L0_t (k : Nat) (a0 : (List Int)) (a1 : Int) (x : (Int)) :
    iter k (loopAt (go_spec_l1Has_C k) (bodyOf Go.Proofs.Try.f127) [1, 0, 1, 0] [] (finPure (go_spec_l1Has_C k) Go.Proofs.Try.f127.results.toList false (.val .bool))) (go_spec_l1Has_L0_E a0 a1 x) = go_spec_l1Has_L0 k a0 a1 x := by
  refine iter_tie (G := fun rec x => go_spec_l1Has_L0_G k a0 a1 rec x) (go_spec_l1Has_L0_E a0 a1) (fun rec x => ?_) k x
  have h : loopAt (go_spec_l1Has_C k) (bodyOf Go.Proofs.Try.f127) [1, 0, 1, 0] [] (finPure (go_spec_l1Has_C k) Go.Proofs.Try.f127.results.toList false (.val .bool)) rec (go_spec_l1Has_L0_E a0 a1 x) = go_spec_l1Has_L0_G k a0 a1 (fun y => rec (go_spec_l1Has_L0_E a0 a1 y)) x := by kernel_rfl
  rw [h]
def go_spec_l1Has_T (k : Nat) (a0 : (List Int)) (a1 : Int) (l_0 : (Int) → Option Bool) : Option Bool :=
  l_0 (0 : Int)
def go_spec_l1Has (k : Nat) (a0 : (List Int)) (a1 : Int) : Option Bool :=
  go_spec_l1Has_T k a0 a1 (fun y => go_spec_l1Has_L0 k a0 a1 y)
theorem go_spec_l1Has_t (k : Nat) (a0 : (List Int)) (a1 : Int) : runPure (go_spec_l1Has_C k) (bodyOf Go.Proofs.Try.f127) Go.Proofs.Try.f127.results.toList false (.pr (.val (.sl I)) (.pr (.val I) .un)) (.val .bool) (a0, a1, ()) = go_spec_l1Has k a0 a1 := by
  have h : runPure (go_spec_l1Has_C k) (bodyOf Go.Proofs.Try.f127) Go.Proofs.Try.f127.results.toList false (.pr (.val (.sl I)) (.pr (.val I) .un)) (.val .bool) (a0, a1, ()) = go_spec_l1Has_T k a0 a1 (fun y => iter k (loopAt (go_spec_l1Has_C k) (bodyOf Go.Proofs.Try.f127) [1, 0, 1, 0] [] (finPure (go_spec_l1Has_C k) Go.Proofs.Try.f127.results.toList false (.val .bool))) (go_spec_l1Has_L0_E a0 a1 y)) := by kernel_rfl
  have h0 : (fun y => iter k (loopAt (go_spec_l1Has_C k) (bodyOf Go.Proofs.Try.f127) [1, 0, 1, 0] [] (finPure (go_spec_l1Has_C k) Go.Proofs.Try.f127.results.toList false (.val .bool))) (go_spec_l1Has_L0_E a0 a1 y)) = (fun y => go_spec_l1Has_L0 k a0 a1 y) := by
    funext y
    exact go_spec_l1Has_L0_t k a0 a1 y
  rw [h, h0]
  rfl
def go_spec_l1Has_S (k : Nat) : Spec := ⟨(.pr (.val (.sl I)) (.pr (.val I) .un)), (.val .bool), false, .inl fun x => go_spec_l1Has k x.1 x.2.1⟩
theorem go_spec_l1Has_F (k : Nat) : Fits Go.Proofs.Try.prog (go_spec_l1Has_C k) 127 Go.Proofs.Try.f127 (bodyOf Go.Proofs.Try.f127) (.pr (.val (.sl I)) (.pr (.val I) .un)) (.val .bool) false :=
  ⟨th0, mixed0, by kernel_rfl, Go.Proofs.Try.func127, rfl, by kernel_rfl, rfl, rfl, rfl, rfl, rfl, rfl⟩
theorem go_spec_l1Has_M (k : Nat) : Meets Go.Proofs.Try.prog 127 (go_spec_l1Has_S k) :=
  meets_pure (go_spec_l1Has_F k) (sigs_all (l := []) rfl trivial) rfl fun x => go_spec_l1Has_t k x.1 x.2.1

/-! ### spec.boHas -/
def go_spec_boHas_C (k : Nat) : Ctx := { th := TH, se := SE, sg := [(103, go_spec_l1In_S k), (127, go_spec_l1Has_S k)], mu := [], an := [], dr := [], pre := [], d2 := [], m := 0, fx := [], n := 20, k := k }
def go_spec_boHas (k : Nat) (a0 : (Int × (Int × ((List Int) × Unit)))) (a1 : Int) : Option Bool :=
  (go_spec_l1In k a1 (0 : Int) (IntKind.i64.wrap ((IntKind.i64.wrap (a0.1 * a0.2.1)) - (1 : Int)))).bind fun r1 =>
  (if r1 = true then go_spec_l1Has k a0.2.2.1 a1 else some false).bind fun r2 =>
  some (r1 && (!r2))
theorem go_spec_boHas_t (k : Nat) (a0 : (Int × (Int × ((List Int) × Unit)))) (a1 : Int) : runPure (go_spec_boHas_C k) (bodyOf Go.Proofs.Try.f87) Go.Proofs.Try.f87.results.toList false (.pr (.val (.pair I (.pair I (.pair (.sl I) .unit)))) (.pr (.val I) .un)) (.val .bool) (a0, a1, ()) = go_spec_boHas k a0 a1 := by kernel_rfl
def go_spec_boHas_S (k : Nat) : Spec := ⟨(.pr (.val (.pair I (.pair I (.pair (.sl I) .unit)))) (.pr (.val I) .un)), (.val .bool), false, .inl fun x => go_spec_boHas k x.1 x.2.1⟩
theorem go_spec_boHas_F (k : Nat) : Fits Go.Proofs.Try.prog (go_spec_boHas_C k) 87 Go.Proofs.Try.f87 (bodyOf Go.Proofs.Try.f87) (.pr (.val (.pair I (.pair I (.pair (.sl I) .unit)))) (.pr (.val I) .un)) (.val .bool) false :=
  ⟨th0, mixed0, by kernel_rfl, Go.Proofs.Try.func87, rfl, by kernel_rfl, rfl, rfl, rfl, rfl, rfl, rfl⟩
theorem go_spec_boHas_M (k : Nat) : Meets Go.Proofs.Try.prog 87 (go_spec_boHas_S k) :=
  meets_pure (go_spec_boHas_F k) (sigs_all (l := [(103, go_spec_l1In_S k), (127, go_spec_l1Has_S k)]) rfl ⟨go_spec_l1In_M k, ⟨go_spec_l1Has_M k, trivial⟩⟩) rfl fun x => go_spec_boHas_t k x.1 x.2.1

/-! ### spec.boCells -/
def go_spec_boCells_C (k : Nat) : Ctx := { th := TH, se := SE, sg := [(87, go_spec_boHas_S k)], mu := [], an := [(3, [(1, false), (3, true), (4, false)])], dr := [], pre := [], d2 := [], m := 0, fx := [], n := 22, k := k }
def go_spec_boCells_L0_E (a0 : (Int × (Int × ((List Int) × Unit)))) (x10 : (Int × (List Int))) : St :=
  ⟨[(1, .one (.val (.pt (.pair I (.pair I (.pair (.sl I) .unit)))) (some a0)), []), (3, .one (.own 0), []), (4, .one (.val I x10.1), [])], [.arr 3 I x10.2], []⟩
def go_spec_boCells_L0_G (k : Nat) (a0 : (Int × (Int × ((List Int) × Unit)))) (rec11 : (Int × (List Int)) → Option (List Int)) (x10 : (Int × (List Int))) : Option (List Int) :=
  if (decide (x10.1 < (IntKind.i64.wrap (a0.1 * a0.2.1)))) = true then
    (go_spec_boHas k a0 x10.1).bind fun r12 =>
    if r12 = true then
      if (decide (x10.2.length + [x10.1].length ≤ LIM)) = true then
      rec11 ((IntKind.i64.wrap (x10.1 + (1 : Int))), (x10.2 ++ [x10.1]))
      else none
    else
      rec11 ((IntKind.i64.wrap (x10.1 + (1 : Int))), x10.2)
  else
    some x10.2
def go_spec_boCells_L0 (k : Nat) (a0 : (Int × (Int × ((List Int) × Unit)))) : (Int × (List Int)) → Option (List Int) :=
  iter k fun rec11 x10 => go_spec_boCells_L0_G k a0 rec11 x10
theorem go_spec_boCells_L0_t (k : Nat) (a0 : (Int × (Int × ((List Int) × Unit)))) (x : (Int × (List Int))) :
    iter k (loopAt (go_spec_boCells_C k) (bodyOf Go.Proofs.Try.f93) [1, 1, 0, 1, 0] [] (finPure (go_spec_boCells_C k) Go.Proofs.Try.f93.results.toList false (.val (.sl I)))) (go_spec_boCells_L0_E a0 x) = go_spec_boCells_L0 k a0 x := by
  refine iter_tie (G := fun rec x => go_spec_boCells_L0_G k a0 rec x) (go_spec_boCells_L0_E a0) (fun rec x => ?_) k x
  have h : loopAt (go_spec_boCells_C k) (bodyOf Go.Proofs.Try.f93) [1, 1, 0, 1, 0] [] (finPure (go_spec_boCells_C k) Go.Proofs.Try.f93.results.toList false (.val (.sl I))) rec (go_spec_boCells_L0_E a0 x) = go_spec_boCells_L0_G k a0 (fun y => rec (go_spec_boCells_L0_E a0 y)) x := by kernel_rfl
  rw [h]
def go_spec_boCells_T (k : Nat) (a0 : (Int × (Int × ((List Int) × Unit)))) (l_0 : (Int × (List Int)) → Option (List Int)) : Option (List Int) :=
  l_0 ((0 : Int), [])
def go_spec_boCells (k : Nat) (a0 : (Int × (Int × ((List Int) × Unit)))) : Option (List Int) :=
  go_spec_boCells_T k a0 (fun y => go_spec_boCells_L0 k a0 y)
theorem go_spec_boCells_t (k : Nat) (a0 : (Int × (Int × ((List Int) × Unit)))) : runPure (go_spec_boCells_C k) (bodyOf Go.Proofs.Try.f93) Go.Proofs.Try.f93.results.toList false (.pr (.val (.pair I (.pair I (.pair (.sl I) .unit)))) .un) (.val (.sl I)) (a0, ()) = go_spec_boCells k a0 := by
  have h : runPure (go_spec_boCells_C k) (bodyOf Go.Proofs.Try.f93) Go.Proofs.Try.f93.results.toList false (.pr (.val (.pair I (.pair I (.pair (.sl I) .unit)))) .un) (.val (.sl I)) (a0, ()) = go_spec_boCells_T k a0 (fun y => iter k (loopAt (go_spec_boCells_C k) (bodyOf Go.Proofs.Try.f93) [1, 1, 0, 1, 0] [] (finPure (go_spec_boCells_C k) Go.Proofs.Try.f93.results.toList false (.val (.sl I)))) (go_spec_boCells_L0_E a0 y)) := by kernel_rfl
  have h0 : (fun y => iter k (loopAt (go_spec_boCells_C k) (bodyOf Go.Proofs.Try.f93) [1, 1, 0, 1, 0] [] (finPure (go_spec_boCells_C k) Go.Proofs.Try.f93.results.toList false (.val (.sl I)))) (go_spec_boCells_L0_E a0 y)) = (fun y => go_spec_boCells_L0 k a0 y) := by
    funext y
    exact go_spec_boCells_L0_t k a0 y
  rw [h, h0]
  rfl
def go_spec_boCells_S (k : Nat) : Spec := ⟨(.pr (.val (.pair I (.pair I (.pair (.sl I) .unit)))) .un), (.val (.sl I)), false, .inl fun x => go_spec_boCells k x.1⟩
theorem go_spec_boCells_F (k : Nat) : Fits Go.Proofs.Try.prog (go_spec_boCells_C k) 93 Go.Proofs.Try.f93 (bodyOf Go.Proofs.Try.f93) (.pr (.val (.pair I (.pair I (.pair (.sl I) .unit)))) .un) (.val (.sl I)) false :=
  ⟨th0, mixed0, by kernel_rfl, Go.Proofs.Try.func93, rfl, by kernel_rfl, rfl, rfl, rfl, rfl, rfl, rfl⟩
theorem go_spec_boCells_M (k : Nat) : Meets Go.Proofs.Try.prog 93 (go_spec_boCells_S k) :=
  meets_pure (go_spec_boCells_F k) (sigs_all (l := [(87, go_spec_boHas_S k)]) rfl ⟨go_spec_boHas_M k, trivial⟩) rfl fun x => go_spec_boCells_t k x.1

/-! ### spec.l1Most -/
def go_spec_l1Most_C (k : Nat) : Ctx := { th := TH, se := SE, sg := [], mu := [], an := [], dr := [], pre := [], d2 := [], m := 0, fx := [], n := 10, k := k }
def go_spec_l1Most (k : Nat) (a0 : Int) (a1 : Int) : Option Int :=
  if (decide (a1 < a0)) = true then
    some a0
  else
    some a1
theorem go_spec_l1Most_t (k : Nat) (a0 : Int) (a1 : Int) : runPure (go_spec_l1Most_C k) (bodyOf Go.Proofs.Try.f160) Go.Proofs.Try.f160.results.toList false (.pr (.val I) (.pr (.val I) .un)) (.val I) (a0, a1, ()) = go_spec_l1Most k a0 a1 := by kernel_rfl
def go_spec_l1Most_S (k : Nat) : Spec := ⟨(.pr (.val I) (.pr (.val I) .un)), (.val I), false, .inl fun x => go_spec_l1Most k x.1 x.2.1⟩
theorem go_spec_l1Most_F (k : Nat) : Fits Go.Proofs.Try.prog (go_spec_l1Most_C k) 160 Go.Proofs.Try.f160 (bodyOf Go.Proofs.Try.f160) (.pr (.val I) (.pr (.val I) .un)) (.val I) false :=
  ⟨th0, mixed0, by kernel_rfl, Go.Proofs.Try.func160, rfl, by kernel_rfl, rfl, rfl, rfl, rfl, rfl, rfl⟩
theorem go_spec_l1Most_M (k : Nat) : Meets Go.Proofs.Try.prog 160 (go_spec_l1Most_S k) :=
  meets_pure (go_spec_l1Most_F k) (sigs_all (l := []) rfl trivial) rfl fun x => go_spec_l1Most_t k x.1 x.2.1

/-! ### spec.l1Abs -/
def go_spec_l1Abs_C (k : Nat) : Ctx := { th := TH, se := SE, sg := [(160, go_spec_l1Most_S k)], mu := [], an := [], dr := [], pre := [], d2 := [], m := 0, fx := [], n := 7, k := k }
def go_spec_l1Abs (k : Nat) (a0 : Int) : Option Int :=
  (go_spec_l1Most k a0 (IntKind.i64.wrap (0 - a0))).bind fun r1 =>
  some r1
theorem go_spec_l1Abs_t (k : Nat) (a0 : Int) : runPure (go_spec_l1Abs_C k) (bodyOf Go.Proofs.Try.f132) Go.Proofs.Try.f132.results.toList false (.pr (.val I) .un) (.val I) (a0, ()) = go_spec_l1Abs k a0 := by kernel_rfl
def go_spec_l1Abs_S (k : Nat) : Spec := ⟨(.pr (.val I) .un), (.val I), false, .inl fun x => go_spec_l1Abs k x.1⟩
theorem go_spec_l1Abs_F (k : Nat) : Fits Go.Proofs.Try.prog (go_spec_l1Abs_C k) 132 Go.Proofs.Try.f132 (bodyOf Go.Proofs.Try.f132) (.pr (.val I) .un) (.val I) false :=
  ⟨th0, mixed0, by kernel_rfl, Go.Proofs.Try.func132, rfl, by kernel_rfl, rfl, rfl, rfl, rfl, rfl, rfl⟩
theorem go_spec_l1Abs_M (k : Nat) : Meets Go.Proofs.Try.prog 132 (go_spec_l1Abs_S k) :=
  meets_pure (go_spec_l1Abs_F k) (sigs_all (l := [(160, go_spec_l1Most_S k)]) rfl ⟨go_spec_l1Most_M k, trivial⟩) rfl fun x => go_spec_l1Abs_t k x.1

/-! ### spec.boIs -/
def go_spec_boIs_C (k : Nat) : Ctx := { th := TH, se := SE, sg := [(132, go_spec_l1Abs_S k)], mu := [], an := [], dr := [(1, 19)], pre := [], d2 := [], m := 0, fx := [], n := 53, k := k }
def go_spec_boIs (k : Nat) (a0 : (Int × (Int × ((List Int) × Unit)))) (a1 : (Int × (Int × Unit))) (a2 : Int) (a3 : Int) : Option Bool :=
  if (decide (a0.1 ≠ 0)) = true then
  if (decide (a0.1 ≠ 0)) = true then
  (go_spec_l1Abs k (IntKind.i64.wrap ((Int.tmod a2 a0.1) - (Int.tmod a3 a0.1)))).bind fun r1 =>
  if (decide (a0.1 ≠ 0)) = true then
  if (decide (a0.1 ≠ 0)) = true then
  (go_spec_l1Abs k (IntKind.i64.wrap ((IntKind.i64.wrap (Int.tdiv a2 a0.1)) - (IntKind.i64.wrap (Int.tdiv a3 a0.1))))).bind fun r2 =>
  some (((decide (r1 = a1.1)) && (decide (r2 = a1.2.1))) || ((decide (r1 = a1.2.1)) && (decide (r2 = a1.1))))
  else none
  else none
  else none
  else none
theorem go_spec_boIs_t (k : Nat) (a0 : (Int × (Int × ((List Int) × Unit)))) (a1 : (Int × (Int × Unit))) (a2 : Int) (a3 : Int) : runPure (go_spec_boIs_C k) (bodyOf Go.Proofs.Try.f159) Go.Proofs.Try.f159.results.toList false (.pr (.val (.pair I (.pair I (.pair (.sl I) .unit)))) (.pr (.val (.pair I (.pair I .unit))) (.pr (.val I) (.pr (.val I) .un)))) (.val .bool) (a0, a1, a2, a3, ()) = go_spec_boIs k a0 a1 a2 a3 := by kernel_rfl
def go_spec_boIs_S (k : Nat) : Spec := ⟨(.pr (.val (.pair I (.pair I (.pair (.sl I) .unit)))) (.pr (.val (.pair I (.pair I .unit))) (.pr (.val I) (.pr (.val I) .un)))), (.val .bool), false, .inl fun x => go_spec_boIs k x.1 x.2.1 x.2.2.1 x.2.2.2.1⟩
theorem go_spec_boIs_F (k : Nat) : Fits Go.Proofs.Try.prog (go_spec_boIs_C k) 159 Go.Proofs.Try.f159 (bodyOf Go.Proofs.Try.f159) (.pr (.val (.pair I (.pair I (.pair (.sl I) .unit)))) (.pr (.val (.pair I (.pair I .unit))) (.pr (.val I) (.pr (.val I) .un)))) (.val .bool) false :=
  ⟨th0, mixed0, by kernel_rfl, Go.Proofs.Try.func159, rfl, by kernel_rfl, rfl, rfl, rfl, rfl, rfl, rfl⟩
theorem go_spec_boIs_M (k : Nat) : Meets Go.Proofs.Try.prog 159 (go_spec_boIs_S k) :=
  meets_pure (go_spec_boIs_F k) (sigs_all (l := [(132, go_spec_l1Abs_S k)]) rfl ⟨go_spec_l1Abs_M k, trivial⟩) rfl fun x => go_spec_boIs_t k x.1 x.2.1 x.2.2.1 x.2.2.2.1

/-! ### spec.boLeaps -/
def go_spec_boLeaps_C (k : Nat) : Ctx := { th := TH, se := SE, sg := [(93, go_spec_boCells_S k), (159, go_spec_boIs_S k)], mu := [], an := [(3, [(2, false), (3, false), (4, false), (7, true), (11, false), (12, false), (13, false)])], dr := [], pre := [], d2 := [], m := 0, fx := [], n := 28, k := k }
def go_spec_boLeaps_L0_E (a0 : (Int × (Int × ((List Int) × Unit)))) (a1 : (Int × (Int × Unit))) (a2 : Int) (r1 : (List Int)) (x11 : (Int × (List Int))) : St :=
  ⟨[(2, .one (.val I a2), []), (3, .one (.val (.pt (.pair I (.pair I (.pair (.sl I) .unit)))) (some a0)), []), (4, .one (.val (.pt (.pair I (.pair I .unit))) (some a1)), []), (7, .one (.own 0), []), (11, .one (.val (.sl I) r1), []), (12, .one (.val I (r1.length : Int)), []), (13, .one (.val I x11.1), [])], [.arr 3 I x11.2], []⟩
def go_spec_boLeaps_L0_G (k : Nat) (a0 : (Int × (Int × ((List Int) × Unit)))) (a1 : (Int × (Int × Unit))) (a2 : Int) (r1 : (List Int)) (rec12 : (Int × (List Int)) → Option (List Int)) (x11 : (Int × (List Int))) : Option (List Int) :=
  if (decide (x11.1 < (r1.length : Int))) = true then
    if (inb x11.1 r1.length) = true then
    (go_spec_boIs k a0 a1 a2 (r1.getD x11.1.toNat (0 : Int))).bind fun r13 =>
    if r13 = true then
      if (decide (x11.2.length + [(r1.getD x11.1.toNat (0 : Int))].length ≤ LIM)) = true then
      rec12 ((IntKind.i64.wrap (x11.1 + (1 : Int))), (x11.2 ++ [(r1.getD x11.1.toNat (0 : Int))]))
      else none
    else
      rec12 ((IntKind.i64.wrap (x11.1 + (1 : Int))), x11.2)
    else none
  else
    some x11.2
def go_spec_boLeaps_L0 (k : Nat) (a0 : (Int × (Int × ((List Int) × Unit)))) (a1 : (Int × (Int × Unit))) (a2 : Int) (r1 : (List Int)) : (Int × (List Int)) → Option (List Int) :=
  iter k fun rec12 x11 => go_spec_boLeaps_L0_G k a0 a1 a2 r1 rec12 x11
theorem go_spec_boLeaps_L0_t (k : Nat) (a0 : (Int × (Int × ((List Int) × Unit)))) (a1 : (Int × (Int × Unit))) (a2 : Int) (r1 : (List Int)) (x : (Int × (List Int))) :
    iter k (loopAt (go_spec_boLeaps_C k) (bodyOf Go.Proofs.Try.f120) [1, 1, 0, 1, 0] [] (finPure (go_spec_boLeaps_C k) Go.Proofs.Try.f120.results.toList false (.val (.sl I)))) (go_spec_boLeaps_L0_E a0 a1 a2 r1 x) = go_spec_boLeaps_L0 k a0 a1 a2 r1 x := by
  refine iter_tie (G := fun rec x => go_spec_boLeaps_L0_G k a0 a1 a2 r1 rec x) (go_spec_boLeaps_L0_E a0 a1 a2 r1) (fun rec x => ?_) k x
  have h : loopAt (go_spec_boLeaps_C k) (bodyOf Go.Proofs.Try.f120) [1, 1, 0, 1, 0] [] (finPure (go_spec_boLeaps_C k) Go.Proofs.Try.f120.results.toList false (.val (.sl I))) rec (go_spec_boLeaps_L0_E a0 a1 a2 r1 x) = go_spec_boLeaps_L0_G k a0 a1 a2 r1 (fun y => rec (go_spec_boLeaps_L0_E a0 a1 a2 r1 y)) x := by kernel_rfl
  rw [h]
def go_spec_boLeaps_T (k : Nat) (a0 : (Int × (Int × ((List Int) × Unit)))) (a1 : (Int × (Int × Unit))) (a2 : Int) (l_0 : (List Int) → (Int × (List Int)) → Option (List Int)) : Option (List Int) :=
  (go_spec_boCells k a0).bind fun r1 =>
  l_0 r1 ((0 : Int), [])
def go_spec_boLeaps (k : Nat) (a0 : (Int × (Int × ((List Int) × Unit)))) (a1 : (Int × (Int × Unit))) (a2 : Int) : Option (List Int) :=
  go_spec_boLeaps_T k a0 a1 a2 (fun r1 y => go_spec_boLeaps_L0 k a0 a1 a2 r1 y)
theorem go_spec_boLeaps_t (k : Nat) (a0 : (Int × (Int × ((List Int) × Unit)))) (a1 : (Int × (Int × Unit))) (a2 : Int) : runPure (go_spec_boLeaps_C k) (bodyOf Go.Proofs.Try.f120) Go.Proofs.Try.f120.results.toList false (.pr (.val (.pair I (.pair I (.pair (.sl I) .unit)))) (.pr (.val (.pair I (.pair I .unit))) (.pr (.val I) .un))) (.val (.sl I)) (a0, a1, a2, ()) = go_spec_boLeaps k a0 a1 a2 := by
  have h : runPure (go_spec_boLeaps_C k) (bodyOf Go.Proofs.Try.f120) Go.Proofs.Try.f120.results.toList false (.pr (.val (.pair I (.pair I (.pair (.sl I) .unit)))) (.pr (.val (.pair I (.pair I .unit))) (.pr (.val I) .un))) (.val (.sl I)) (a0, a1, a2, ()) = go_spec_boLeaps_T k a0 a1 a2 (fun r1 y => iter k (loopAt (go_spec_boLeaps_C k) (bodyOf Go.Proofs.Try.f120) [1, 1, 0, 1, 0] [] (finPure (go_spec_boLeaps_C k) Go.Proofs.Try.f120.results.toList false (.val (.sl I)))) (go_spec_boLeaps_L0_E a0 a1 a2 r1 y)) := by kernel_rfl
  have h0 : (fun r1 y => iter k (loopAt (go_spec_boLeaps_C k) (bodyOf Go.Proofs.Try.f120) [1, 1, 0, 1, 0] [] (finPure (go_spec_boLeaps_C k) Go.Proofs.Try.f120.results.toList false (.val (.sl I)))) (go_spec_boLeaps_L0_E a0 a1 a2 r1 y)) = (fun r1 y => go_spec_boLeaps_L0 k a0 a1 a2 r1 y) := by
    funext r1 y
    exact go_spec_boLeaps_L0_t k a0 a1 a2 r1 y
  rw [h, h0]
  rfl
def go_spec_boLeaps_S (k : Nat) : Spec := ⟨(.pr (.val (.pair I (.pair I (.pair (.sl I) .unit)))) (.pr (.val (.pair I (.pair I .unit))) (.pr (.val I) .un))), (.val (.sl I)), false, .inl fun x => go_spec_boLeaps k x.1 x.2.1 x.2.2.1⟩
theorem go_spec_boLeaps_F (k : Nat) : Fits Go.Proofs.Try.prog (go_spec_boLeaps_C k) 120 Go.Proofs.Try.f120 (bodyOf Go.Proofs.Try.f120) (.pr (.val (.pair I (.pair I (.pair (.sl I) .unit)))) (.pr (.val (.pair I (.pair I .unit))) (.pr (.val I) .un))) (.val (.sl I)) false :=
  ⟨th0, mixed0, by kernel_rfl, Go.Proofs.Try.func120, rfl, by kernel_rfl, rfl, rfl, rfl, rfl, rfl, rfl⟩
theorem go_spec_boLeaps_M (k : Nat) : Meets Go.Proofs.Try.prog 120 (go_spec_boLeaps_S k) :=
  meets_pure (go_spec_boLeaps_F k) (sigs_all (l := [(93, go_spec_boCells_S k), (159, go_spec_boIs_S k)]) rfl ⟨go_spec_boCells_M k, ⟨go_spec_boIs_M k, trivial⟩⟩) rfl fun x => go_spec_boLeaps_t k x.1 x.2.1 x.2.2.1

end
end Go.Lg
