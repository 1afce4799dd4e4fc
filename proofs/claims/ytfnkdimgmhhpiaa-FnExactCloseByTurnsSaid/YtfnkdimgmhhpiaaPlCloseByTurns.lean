/-
  Plain law: FnExactCloseByTurns.
-/
import Derived.Test.YtfnkdimgmhhpiaaTn
import Derived.Test.YtfnkdimgmhhpiaaRow
set_option linter.unusedVariables false
set_option linter.unusedSimpArgs false
namespace Go.Lg
open Go.RowKit Go.IntWalk

variable {k : Nat}

theorem law_CloseByTurns (hk : K0 ≤ k) (B : BT) (L : LT) (p0 : List Int) (i1 : Int) (hB : B.2.2.1.length ≤ 140737488351232) : go_laws_FnExactCloseByTurns k B L p0 i1 = some true := by
  unfold go_laws_FnExactCloseByTurns go_laws_szBoard
  by_cases hp0 : (1048576 : Int) < (p0.length : Int)
  · rw [if_pos (by simpa using hp0)]
  have gp0 : p0.length ≤ 1048576 := by omega
  rw [if_neg (by simpa using hp0)]
  rw [szIntS_eq hB (by omega) (by omega)]
  simp only [Option.bind_some]
  by_cases hlen : (1048576 : Int) < B.2.2.1.length
  · simp [hlen]
  · have hl : B.2.2.1.length ≤ 1048576 := by omega
    rw [if_neg hlen, if_neg (by simp only [decide_eq_true_eq]; omega)]
    simp only [Option.bind_some]
    rw [if_neg (by simp only [decide_eq_true_eq]; omega)]
    have htb : go_laws_toBoard k B = some B := by unfold go_laws_toBoard; rw [toIntS_eq hk hl]; rfl
    have htl : go_laws_toLeaper k L = some L := rfl
    have hB' : (B.1, (B.2.1, (B.2.2.1, ()))) = B := rfl
    obtain ⟨r, hr1, hr2, hrl⟩ := CloseByTurns_same hk B L p0 i1
    obtain ⟨m, hm1, hm2, hm3⟩ := markBoard_eq' hk (B := B) hl
    simp only [htb, htl, Option.bind_some, hB', hr1, hr2, eqIntS_eq hk (show r.1.length ≤ 1048576 by omega), eqBoard_refl hk hl, hm1, toIntS_eq hk gp0, eqIntS_eq hk gp0, markIntS_eq (l := p0) (n := m.1) hk gp0 (by omega) (by omega), markIntS_eq (l := r.1) (n := 1) hk (show r.1.length ≤ 1048576 by omega) (show (0 : Int) ≤ 1 by omega) (show (1 : Int) ≤ 1099511627776 by omega), heldIntS_eq hk (show r.1.length ≤ 1048576 by omega) (show (0 : Int) ≤ 1 by omega) (show (1 : Int) ≤ 1099511627776 by omega)]
    have h1 : decide ((m.1 + (p0.length : Int)) < 0) = false := by simp; omega
    have h2 : decide (1 + (r.1.length : Int) < 0) = false := by simp; omega
    simp [h1, h2]

theorem law_FnExactCloseByTurns_pure (x : (insOf [.pair I (.pair I (.pair (.sl I) .unit)), .pair I (.pair I .unit), .sl I, I]).T) (h : insOk _ x) : ∃ k, go_laws_FnExactCloseByTurns k x.1 x.2.1 x.2.2.1 x.2.2.2.1 = some true :=
  ⟨K0, law_CloseByTurns (Nat.le_refl _) x.1 x.2.1 x.2.2.1 x.2.2.2.1 (by have := h.1.2.2.1.1; simpa [reachBytes] using this)⟩

end Go.Lg
