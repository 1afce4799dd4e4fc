/-
  PROVED: walks by fewest leaps onward. No condition is added: the row's guards alone.
-/
import Derived.Test.YtejfaifipdhecaaRows
import Derived.Test.YtejfaifipdhecaaPlOnward
import Derived.Test.YtejfaifipdhecaaRow
namespace Go.Proofs.Ytejfaifipdhecaa.fnWalksOnwardOfAll
open Go.Lg Go.RowKit
set_option linter.unusedVariables false

theorem laidOut : laidOutB Try.prog = true := by kernel_rfl
set_option maxRecDepth 100000 in
theorem lifted (os : Os) (started : os.Started) (H : Type) (enc : TypeId × Value → H) :
    ReturnsInHanded {} Try.checked os 13 .any (Rows.fnWalksOnwardOfAllSpec.pre6 enc Try.prog Try.f13 Rows.fnWalksOnwardOfAllRow.domain false) (Rows.fnWalksOnwardOfAllSpec.post enc Try.prog Try.f13 false true false false) :=
  contract (C := Try.checked) (tys := [.pair I (.pair I (.pair (.sl I) .unit)), .pair I (.pair I .unit), I, .pair I (.pair I (.pair (.sl I) .unit)), .pair I (.pair I .unit), .sl I, .pair I (.pair I (.pair (.sl I) .unit)), .pair I (.pair I .unit), .sl I, .pair I (.pair I (.pair (.sl I) .unit)), .pair I (.pair I .unit)]) (g := fun k x => go_laws_FnWalksOnwardOfAll k x.1 x.2.1 x.2.2.1 x.2.2.2.1 x.2.2.2.2.1 x.2.2.2.2.2.1 x.2.2.2.2.2.2.1 x.2.2.2.2.2.2.2.1 x.2.2.2.2.2.2.2.2.1 x.2.2.2.2.2.2.2.2.2.1 x.2.2.2.2.2.2.2.2.2.2.1) (tb := 4)
    (by kernel_rfl) started (by kernel_rfl) Try.func13
    (ChangeSpec.witness6 (enc := enc) (C := Try.checked) false ⟨#[], #[.agg #[.int .i64 0, .int .i64 0, .slice none 0 0], .agg #[.int .i64 0, .int .i64 0], .int .i64 0, .agg #[.int .i64 0, .int .i64 0, .slice none 0 0], .agg #[.int .i64 0, .int .i64 0], .slice none 0 0, .agg #[.int .i64 0, .int .i64 0, .slice none 0 0], .agg #[.int .i64 0, .int .i64 0], .slice none 0 0, .agg #[.int .i64 0, .int .i64 0, .slice none 0 0], .agg #[.int .i64 0, .int .i64 0]], []⟩ 8 (by kernel_rfl) (by kernel_rfl) (by kernel_rfl) (by kernel_rfl))
    laidOut (by kernel_rfl) rfl (fun ds h => by match ds, h with | [d1, d2, d3, d4, d5, d6, d7, d8, d9, d10, d11], _ => rfl) rfl (by kernel_rfl) (fun k => go_laws_FnWalksOnwardOfAll_M k) (fun x h => law_FnWalksOnwardOfAll_pure x h)
theorem heard : Try.pinned.checked.prog.stopsHeard = true := by kernel_rfl
theorem enters : Try.pinned.checked.prog.mayEnter = true := by kernel_rfl
theorem lifts : (Rows.fnWalksOnwardOfAllRow.lifted == Try.pinned.checked.prog.liftsFinal) = true := by kernel_rfl
theorem facts : joinedFacts Try.pinned.checked.prog 13 Try.f13 Rows.fnWalksOnwardOfAllSpec Rows.fnWalksOnwardOfAllRow = true := by
  unfold joinedFacts
  rw [heard, enters, lifts]
  kernel_rfl
theorem over : Rows.fnWalksOnwardOfAllRow.holds Try.pinned (OpenSpec.ofChange Rows.fnWalksOnwardOfAllSpec) :=
  OpenClaim.holds_of_wide 13 Try.f13 rfl rfl rfl rfl rfl rfl rfl ⟨rfl, rfl, rfl, rfl, rfl⟩ rfl rfl rfl rfl rfl (by kernel_rfl) Try.func13 facts
    (of_decide_eq_true (by kernel_rfl)) (by unfold Func.isWrapper; first | (rw [if_pos (by decide +kernel)]; kernel_rfl) | (rw [if_neg (by decide +kernel)]; exact ⟨rfl, rfl⟩))
    (fun os started H enc _ => lifted os started H enc)
theorem proved : Rows.FnWalksOnwardOfAllSaid := over
#print axioms proved
end Go.Proofs.Ytejfaifipdhecaa.fnWalksOnwardOfAll
