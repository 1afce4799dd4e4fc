/-
  PROVED: peaceful sets. No condition is added: the row's guards alone.
-/
import Derived.Test.YtfnkdimgmhhpiaaRows
import Derived.Test.YtfnkdimgmhhpiaaPlFirstPeaceful
import Derived.Test.YtfnkdimgmhhpiaaRow
namespace Go.Proofs.Ytfnkdimgmhhpiaa.fnExactFirstPeaceful
open Go.Lg Go.RowKit
set_option linter.unusedVariables false

theorem laidOut : laidOutB Try.prog = true := by kernel_rfl
set_option maxRecDepth 100000 in
theorem lifted (os : Os) (started : os.Started) (H : Type) (enc : TypeId × Value → H) :
    ReturnsInHanded {} Try.checked os 13 .any (Rows.fnExactFirstPeacefulSpec.pre6 enc Try.prog Try.f13 Rows.fnExactFirstPeacefulRow.domain false) (Rows.fnExactFirstPeacefulSpec.post enc Try.prog Try.f13 false true false false) :=
  contract (C := Try.checked) (tys := [.pair I (.pair I (.pair (.sl I) .unit)), .pair I (.pair I .unit)]) (g := fun k x => go_laws_FnExactFirstPeaceful k x.1 x.2.1) (tb := 4)
    (by kernel_rfl) started (by kernel_rfl) Try.func13
    (ChangeSpec.witness6 (enc := enc) (C := Try.checked) false ⟨#[], #[.agg #[.int .i64 0, .int .i64 0, .slice none 0 0], .agg #[.int .i64 0, .int .i64 0]], []⟩ 8 (by kernel_rfl) (by kernel_rfl) (by kernel_rfl) (by kernel_rfl))
    laidOut (by kernel_rfl) rfl (fun ds h => by match ds, h with | [d1, d2], _ => rfl) rfl (by kernel_rfl) (fun k => go_laws_FnExactFirstPeaceful_M k) (fun x h => law_FnExactFirstPeaceful_pure x h)
theorem over : Rows.fnExactFirstPeacefulRow.holds Try.pinned (OpenSpec.ofChange Rows.fnExactFirstPeacefulSpec) :=
  OpenClaim.holds_of_wide 13 Try.f13 rfl rfl rfl rfl rfl rfl rfl ⟨rfl, rfl, rfl, rfl, rfl⟩ rfl rfl rfl rfl rfl (by kernel_rfl) Try.func13 (by kernel_rfl)
    (of_decide_eq_true (by kernel_rfl)) (by unfold Func.isWrapper; first | (rw [if_pos (by decide +kernel)]; kernel_rfl) | (rw [if_neg (by decide +kernel)]; exact ⟨rfl, rfl⟩))
    (fun os started H enc _ => lifted os started H enc)
theorem proved : Rows.FnExactFirstPeacefulSaid := over
#print axioms proved
end Go.Proofs.Ytfnkdimgmhhpiaa.fnExactFirstPeaceful
