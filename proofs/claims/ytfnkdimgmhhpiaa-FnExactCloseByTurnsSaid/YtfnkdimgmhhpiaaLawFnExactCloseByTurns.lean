/-
  PROVED: walks. No condition is added: the row's guards alone.
-/
import Derived.Test.YtfnkdimgmhhpiaaRows
import Derived.Test.YtfnkdimgmhhpiaaPlCloseByTurns
import Derived.Test.YtfnkdimgmhhpiaaRow
namespace Go.Proofs.Ytfnkdimgmhhpiaa.fnExactCloseByTurns
open Go.Lg Go.RowKit
set_option linter.unusedVariables false

theorem laidOut : laidOutB Try.prog = true := by kernel_rfl
set_option maxRecDepth 100000 in
theorem lifted (os : Os) (started : os.Started) (H : Type) (enc : TypeId × Value → H) :
    ReturnsInHanded {} Try.checked os 5 .any (Rows.fnExactCloseByTurnsSpec.pre6 enc Try.prog Try.f5 Rows.fnExactCloseByTurnsRow.domain false) (Rows.fnExactCloseByTurnsSpec.post enc Try.prog Try.f5 false true false false) :=
  contract (C := Try.checked) (tys := [.pair I (.pair I (.pair (.sl I) .unit)), .pair I (.pair I .unit), .sl I, I]) (g := fun k x => go_laws_FnExactCloseByTurns k x.1 x.2.1 x.2.2.1 x.2.2.2.1) (tb := 4)
    (by kernel_rfl) started (by kernel_rfl) Try.func5
    (ChangeSpec.witness6 (enc := enc) (C := Try.checked) false ⟨#[], #[.agg #[.int .i64 0, .int .i64 0, .slice none 0 0], .agg #[.int .i64 0, .int .i64 0], .slice none 0 0, .int .i64 0], []⟩ 8 (by kernel_rfl) (by kernel_rfl) (by kernel_rfl) (by kernel_rfl))
    laidOut (by kernel_rfl) rfl (fun ds h => by match ds, h with | [d1, d2, d3, d4], _ => rfl) rfl (by kernel_rfl) (fun k => go_laws_FnExactCloseByTurns_M k) (fun x h => law_FnExactCloseByTurns_pure x h)
theorem over : Rows.fnExactCloseByTurnsRow.holds Try.pinned (OpenSpec.ofChange Rows.fnExactCloseByTurnsSpec) :=
  OpenClaim.holds_of_wide 5 Try.f5 rfl rfl rfl rfl rfl rfl rfl ⟨rfl, rfl, rfl, rfl, rfl⟩ rfl rfl rfl rfl rfl (by kernel_rfl) Try.func5 (by kernel_rfl)
    (of_decide_eq_true (by kernel_rfl)) (by unfold Func.isWrapper; first | (rw [if_pos (by decide +kernel)]; kernel_rfl) | (rw [if_neg (by decide +kernel)]; exact ⟨rfl, rfl⟩))
    (fun os started H enc _ => lifted os started H enc)
theorem proved : Rows.FnExactCloseByTurnsSaid := over
#print axioms proved
end Go.Proofs.Ytfnkdimgmhhpiaa.fnExactCloseByTurns
