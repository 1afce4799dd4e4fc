/-
  Plain law: FnExactCountPeacefulOf.
-/
import Derived.Test.YtjnpogjniihmcaaGu4
import Derived.Test.YtjnpogjniihmcaaRow
set_option linter.unusedVariables false
set_option linter.unusedSimpArgs false
namespace Go.Lg
open Go.RowKit Go.IntWalk

variable {k : Nat}

theorem law_CountPeacefulOf (hk : K0 ≤ k) (B : BT) (L : LT) (n0 : Int) (hB : B.2.2.1.length ≤ 140737488351232) : go_laws_FnExactCountPeacefulOf k B L n0 = some true := by
  unfold go_laws_FnExactCountPeacefulOf go_laws_szBoard
  rw [szIntS_eq hB (by omega) (by omega)]
  simp only [Option.bind_some]
  by_cases hlen : (1048576 : Int) < B.2.2.1.length
  · simp [hlen]
  · have hl : B.2.2.1.length ≤ 1048576 := by omega
    rw [if_neg hlen, if_neg (by simp only [decide_eq_true_eq]; omega)]
    simp only [Option.bind_some]
    rw [if_neg (by simp only [decide_eq_true_eq]; omega)]
    have htb : go_laws_toBoard k B = some B := by unfold go_laws_toBoard; rw [toIntS_eq hk hl]; rfl
    have htl : go_laws_toLeaper k L = some L := rfl
    have hB' : (B.1, (B.2.1, (B.2.2.1, ()))) = B := rfl
    obtain ⟨r, hr1, hr2⟩ := CountPeacefulOf_same hk B L n0
    simp only [htb, htl, Option.bind_some, hB', hr1, hr2, eqBoard_refl hk hl]
    simp

theorem law_FnExactCountPeacefulOf_pure (x : (insOf [.pair I (.pair I (.pair (.sl I) .unit)), .pair I (.pair I .unit), I]).T) (h : insOk _ x) : ∃ k, go_laws_FnExactCountPeacefulOf k x.1 x.2.1 x.2.2.1 = some true :=
  ⟨K0, law_CountPeacefulOf (Nat.le_refl _) x.1 x.2.1 x.2.2.1 (by have := h.1.2.2.1.1; simpa [reachBytes] using this)⟩

end Go.Lg
