/-
  Plain law: FnExactFirstPeaceful.
-/
import Derived.Test.YtfnkdimgmhhpiaaGuP
import Derived.Test.YtfnkdimgmhhpiaaRow
set_option linter.unusedVariables false
set_option linter.unusedSimpArgs false
namespace Go.Lg
open Go.RowKit Go.IntWalk

variable {k : Nat}

theorem law_FirstPeaceful (hk : K0 ≤ k) (B : BT) (L : LT) (hB : B.2.2.1.length ≤ 140737488351232) : go_laws_FnExactFirstPeaceful k B L = some true := by
  unfold go_laws_FnExactFirstPeaceful go_laws_szBoard
  rw [szIntS_eq hB (by omega) (by omega)]
  simp only [Option.bind_some]
  by_cases hlen : (1048576 : Int) < B.2.2.1.length
  · simp [hlen]
  · have hl : B.2.2.1.length ≤ 1048576 := by omega
    rw [if_neg hlen, if_neg (by simp only [decide_eq_true_eq]; omega)]
    simp only [Option.bind_some]
    rw [if_neg (by simp only [decide_eq_true_eq]; omega)]
    have htb : go_laws_toBoard k B = some B := by unfold go_laws_toBoard; rw [toIntS_eq hk hl]; rfl
    have htl : go_laws_toLeaper k L = some L := rfl
    have hB' : (B.1, (B.2.1, (B.2.2.1, ()))) = B := rfl
    obtain ⟨r, hr1, hr2, hrl⟩ := FirstPeaceful_same hk B L
    obtain ⟨m, hm1, hm2, hm3⟩ := markBoard_eq' hk (B := B) hl
    simp only [htb, htl, Option.bind_some, hB', hr1, hr2, eqIntS_eq hk (show r.1.length ≤ 1048576 by omega), eqBoard_refl hk hl, hm1, markIntS_eq (l := r.1) (n := 1) hk (show r.1.length ≤ 1048576 by omega) (show (0 : Int) ≤ 1 by omega) (show (1 : Int) ≤ 1099511627776 by omega), heldIntS_eq hk (show r.1.length ≤ 1048576 by omega) (show (0 : Int) ≤ 1 by omega) (show (1 : Int) ≤ 1099511627776 by omega)]
    have h1 : decide (m.1 < 0) = false := by simp; omega
    have h2 : decide (1 + (r.1.length : Int) < 0) = false := by simp; omega
    simp [h1, h2]

theorem law_FnExactFirstPeaceful_pure (x : (insOf [.pair I (.pair I (.pair (.sl I) .unit)), .pair I (.pair I .unit)]).T) (h : insOk _ x) : ∃ k, go_laws_FnExactFirstPeaceful k x.1 x.2.1 = some true :=
  ⟨K0, law_FirstPeaceful (Nat.le_refl _) x.1 x.2.1 (by have := h.1.2.2.1.1; simpa [reachBytes] using this)⟩

end Go.Lg
