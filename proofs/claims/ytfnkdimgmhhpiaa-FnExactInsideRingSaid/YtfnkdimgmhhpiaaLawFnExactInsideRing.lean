/-
  PROVED: rings. No condition is added: the row's guards alone.
-/
import Derived.Test.YtfnkdimgmhhpiaaRows
import Derived.Test.YtfnkdimgmhhpiaaPlInsideRing
import Derived.Test.YtfnkdimgmhhpiaaRow
namespace Go.Proofs.Ytfnkdimgmhhpiaa.fnExactInsideRing
open Go.Lg Go.RowKit
set_option linter.unusedVariables false

theorem laidOut : laidOutB Try.prog = true := by kernel_rfl
set_option maxRecDepth 100000 in
theorem lifted (os : Os) (started : os.Started) (H : Type) (enc : TypeId × Value → H) :
    ReturnsInHanded {} Try.checked os 12 .any (Rows.fnExactInsideRingSpec.pre6 enc Try.prog Try.f12 Rows.fnExactInsideRingRow.domain false) (Rows.fnExactInsideRingSpec.post enc Try.prog Try.f12 false true false false) :=
  contract (C := Try.checked) (tys := [.pair I (.pair I (.pair (.sl I) .unit)), .pair I (.pair I .unit), .sl I]) (g := fun k x => go_laws_FnExactInsideRing k x.1 x.2.1 x.2.2.1) (tb := 4)
    (by kernel_rfl) started (by kernel_rfl) Try.func12
    (ChangeSpec.witness6 (enc := enc) (C := Try.checked) false ⟨#[], #[.agg #[.int .i64 0, .int .i64 0, .slice none 0 0], .agg #[.int .i64 0, .int .i64 0], .slice none 0 0], []⟩ 8 (by kernel_rfl) (by kernel_rfl) (by kernel_rfl) (by kernel_rfl))
    laidOut (by kernel_rfl) rfl (fun ds h => by match ds, h with | [d1, d2, d3], _ => rfl) rfl (by kernel_rfl) (fun k => go_laws_FnExactInsideRing_M k) (fun x h => law_FnExactInsideRing_pure x h)
theorem over : Rows.fnExactInsideRingRow.holds Try.pinned (OpenSpec.ofChange Rows.fnExactInsideRingSpec) :=
  OpenClaim.holds_of_wide 12 Try.f12 rfl rfl rfl rfl rfl rfl rfl ⟨rfl, rfl, rfl, rfl, rfl⟩ rfl rfl rfl rfl rfl (by kernel_rfl) Try.func12 (by kernel_rfl)
    (of_decide_eq_true (by kernel_rfl)) (by unfold Func.isWrapper; first | (rw [if_pos (by decide +kernel)]; kernel_rfl) | (rw [if_neg (by decide +kernel)]; exact ⟨rfl, rfl⟩))
    (fun os started H enc _ => lifted os started H enc)
theorem proved : Rows.FnExactInsideRingSaid := over
#print axioms proved
end Go.Proofs.Ytfnkdimgmhhpiaa.fnExactInsideRing
