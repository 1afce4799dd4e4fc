/-
  Plain law: FnWalksOnwardOfAll, as the row wants it.
-/
import Derived.Test.YtejfaifipdhecaaOn5
namespace Go.Lg
open Go.RowKit Go.IntWalk

theorem law_FnWalksOnwardOfAll_pure (x : (insOf [.pair I (.pair I (.pair (.sl I) .unit)), .pair I (.pair I .unit), I, .pair I (.pair I (.pair (.sl I) .unit)), .pair I (.pair I .unit), .sl I, .pair I (.pair I (.pair (.sl I) .unit)), .pair I (.pair I .unit), .sl I, .pair I (.pair I (.pair (.sl I) .unit)), .pair I (.pair I .unit)]).T) (h : insOk _ x) :
    ∃ k, go_laws_FnWalksOnwardOfAll k x.1 x.2.1 x.2.2.1 x.2.2.2.1 x.2.2.2.2.1 x.2.2.2.2.2.1 x.2.2.2.2.2.2.1 x.2.2.2.2.2.2.2.1 x.2.2.2.2.2.2.2.2.1 x.2.2.2.2.2.2.2.2.2.1 x.2.2.2.2.2.2.2.2.2.2.1 = some true :=
  ⟨K0, law_onward (Nat.le_refl _) _ _ _ _ _ _ _ _ _ _ _⟩

end Go.Lg
