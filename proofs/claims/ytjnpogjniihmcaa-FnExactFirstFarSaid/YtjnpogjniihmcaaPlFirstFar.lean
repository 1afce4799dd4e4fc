/-
  Plain law: FnExactFirstFar.
-/
import Derived.Test.YtjnpogjniihmcaaPl13
import Derived.Test.YtjnpogjniihmcaaRow
set_option linter.unusedVariables false
set_option linter.unusedSimpArgs false
namespace Go.Lg
open Go.RowKit Go.IntWalk

variable {k : Nat}

theorem farPaint_facts {W H a b n : Nat} {hs : List Nat} {q : List Int} (h : farPaint W H hs a b = some (n, q)) : 0 < n ∧ q.length = W * H := by
  unfold farPaint at h
  obtain ⟨i, _, hi⟩ := List.exists_of_findSome?_eq_some h
  obtain ⟨p, hp, he⟩ := Option.map_eq_some_iff.1 hi
  have h1 := congrArg Prod.fst he
  have h2 := congrArg Prod.snd he
  simp only at h1 h2
  subst h2
  have := sr_length _ _ _ hp
  rw [List.length_nil, Nat.zero_add] at this
  exact ⟨by omega, this⟩

theorem FirstFar_same (hk : K0 ≤ k) (B : BT) (L : LT) : ∃ r, go_spec_FirstFar k B L = some r ∧ go_impl_FirstFar k B L = some r ∧ r.1.length ≤ 64 := by
  unfold go_spec_FirstFar go_spec_paSmall go_impl_FirstFar
  rw [boTwo_eq hk]
  simp only [Option.bind_some]
  cases hB : isGood B && isGoodL L with
  | false =>
    have : go_impl_farPainting k B L = some ([], ((0 : Int), (false, ()))) := by
      unfold go_impl_farPainting go_impl_farPainting_T go_impl_tourGraph
      rw [graphOf_none hk hB]
      rfl
    rw [this]
    exact ⟨_, rfl, rfl, by simp⟩
  | true =>
    simp only [Bool.and_eq_true] at hB
    obtain ⟨hB, hL⟩ := hB
    obtain ⟨W, H, hs, rfl, hg⟩ := Good.nat (by simpa [isGood] using hB)
    obtain ⟨a, b, rfl, hab, hb1, hb5⟩ := GoodL.nat (by simpa [isGoodL] using hL)
    rw [if_pos rfl, boCells_eq hk hg]
    simp only [Option.bind_some, zs_length, Bool.true_and]
    by_cases hfew : (cells W H hs).length ≤ 16
    · rw [if_neg (by simp; omega), paFar_eq hk hg hab hb1, farPainting_eq hk hg hB hL hab hb1 hb5 hfew]
      cases hf : farPaint W H hs a b with
      | none => exact ⟨_, rfl, rfl, by simp⟩
      | some p =>
        obtain ⟨n, q⟩ := p
        obtain ⟨hn, hq⟩ := farPaint_facts hf
        have h64 := hg.n64
        simp only [Option.bind_some]
        rw [if_neg (by simp; omega)]
        exact ⟨_, rfl, rfl, by show q.length ≤ 64; omega⟩
    · have : go_impl_farPainting k (bd W H hs) (ld a b) = some ([], ((0 : Int), (false, ()))) := by
        unfold go_impl_farPainting go_impl_farPainting_T go_impl_tourGraph
        rw [graphOf_eq hk hg hB hL hab hb5]
        have hc3 : (graph W H hs a b).2.2.1 = zs (cells W H hs) := rfl
        simp only [Option.bind_some, Option.getD_some, Option.isSome_some, hc3, zs_length, Bool.or_true, if_true, Bool.not_true, Bool.false_or]
        rw [if_pos (by simp only [decide_eq_true_eq]; omega)]
        rfl
      rw [this, if_pos (by simp; omega)]
      exact ⟨_, rfl, rfl, by simp⟩

theorem law_FirstFar (hk : K0 ≤ k) (B : BT) (L : LT) (hB : B.2.2.1.length ≤ 140737488351232) : go_laws_FnExactFirstFar k B L = some true := by
  unfold go_laws_FnExactFirstFar go_laws_szBoard
  rw [szIntS_eq hB (by omega) (by omega)]
  simp only [Option.bind_some]
  by_cases hlen : (1048576 : Int) < B.2.2.1.length
  · simp [hlen]
  · have hl : B.2.2.1.length ≤ 1048576 := by omega
    rw [if_neg hlen, if_neg (by simp only [decide_eq_true_eq]; omega)]
    simp only [Option.bind_some]
    rw [if_neg (by simp only [decide_eq_true_eq]; omega)]
    have htb : go_laws_toBoard k B = some B := by unfold go_laws_toBoard; rw [toIntS_eq hk hl]; rfl
    have htl : go_laws_toLeaper k L = some L := rfl
    have hB' : (B.1, (B.2.1, (B.2.2.1, ()))) = B := rfl
    obtain ⟨r, hr1, hr2, hrl⟩ := FirstFar_same hk B L
    obtain ⟨m, hm1, hm2⟩ := markBoard_eq hk (B := B) hl
    simp only [htb, htl, Option.bind_some, hB', hr1, hr2, eqIntS_eq hk (show r.1.length ≤ 1048576 by omega), eqBoard_refl hk hl, hm1, markIntS_eq hk (show r.1.length ≤ 1048576 by omega) (show (0 : Int) ≤ 1 by omega) (show (1 : Int) ≤ 1099511627776 by omega), heldIntS_eq hk (show r.1.length ≤ 1048576 by omega) (show (0 : Int) ≤ 1 by omega) (show (1 : Int) ≤ 1099511627776 by omega)]
    have h1 : decide (m.1 < 0) = false := by simp; omega
    have h2 : decide (1 + (r.1.length : Int) < 0) = false := by simp; omega
    simp [h1, h2]

theorem law_FnExactFirstFar_pure (x : (insOf [.pair I (.pair I (.pair (.sl I) .unit)), .pair I (.pair I .unit)]).T) (h : insOk _ x) : ∃ k, go_laws_FnExactFirstFar k x.1 x.2.1 = some true :=
  ⟨K0, law_FirstFar (Nat.le_refl _) x.1 x.2.1 (by have := h.1.2.2.1.1; simpa [reachBytes] using this)⟩

end Go.Lg
