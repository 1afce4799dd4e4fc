/-
  Plain law: boards and leapers.
-/
import Derived.Test.YtejfaifipdhecaaPl2
set_option linter.unusedVariables false
set_option linter.unusedSimpArgs false
namespace Go.Lg
open Go.RowKit Go.IntWalk

variable {k : Nat}

abbrev BT : Type := Int × (Int × (List Int × Unit))
abbrev LT : Type := Int × (Int × Unit)

structure Good (B : BT) : Prop where
  w1 : 1 ≤ B.1
  w8 : B.1 ≤ 8
  h1 : 1 ≤ B.2.1
  h8 : B.2.1 ≤ 8
  few : (B.2.2.1.length : Int) < B.1 * B.2.1
  inn : ∀ i, i < B.2.2.1.length → 0 ≤ B.2.2.1.getD i 0 ∧ B.2.2.1.getD i 0 < B.1 * B.2.1
  up : ∀ i, 1 ≤ i → i < B.2.2.1.length → B.2.2.1.getD (i - 1) 0 < B.2.2.1.getD i 0

noncomputable def isGood (B : BT) : Bool := @decide (Good B) (Classical.propDecidable _)

theorem isGood_true {B : BT} (h : Good B) : isGood B = true := by simp [isGood, h]
theorem isGood_false {B : BT} (h : ¬ Good B) : isGood B = false := by simp [isGood, h]

theorem mul64 {a b : Int} (h1 : 1 ≤ a) (h2 : a ≤ 8) (h3 : 1 ≤ b) (h4 : b ≤ 8) : 1 ≤ a * b ∧ a * b ≤ 64 := by
  obtain ⟨x, rfl⟩ := Int.eq_ofNat_of_zero_le (show 0 ≤ a by omega)
  obtain ⟨y, rfl⟩ := Int.eq_ofNat_of_zero_le (show 0 ≤ b by omega)
  have := mul_le_64 (a := x) (b := y) (by omega) (by omega)
  have h : 1 * 1 ≤ x * y := Nat.mul_le_mul (by omega) (by omega)
  rw [← Int.natCast_mul]
  omega

theorem IsBoard_eq (hk : K0 ≤ k) (B : BT) : go_impl_IsBoard k B = some (isGood B) := by
  unfold go_impl_IsBoard go_impl_IsBoard_T go_impl_sized
  simp only [Option.bind_some]
  by_cases hW : 1 ≤ B.1 ∧ B.1 ≤ 8
  · by_cases hH : 1 ≤ B.2.1 ∧ B.2.1 ≤ 8
    · obtain ⟨hm1, hm2⟩ := mul64 hW.1 hW.2 hH.1 hH.2
      simp only [hW.1, hW.2, hH.1, hH.2, decide_true, Bool.and_self, Bool.not_true, Bool.not_false, if_true, Option.bind_some, Bool.false_or, Bool.or_self]
      rw [w64 (by omega) (by omega)]
      by_cases hf : (B.2.2.1.length : Int) < B.1 * B.2.1
      · rw [if_neg (by simpa using hf)]
        unfold go_impl_IsBoard_L0
        have := iter_find (F := fun rec6 x5 => go_impl_IsBoard_L0_G k B rec6 x5) (fun i => (i : Int)) (List.range B.2.2.1.length)
          (fun i => (decide (B.2.2.1.getD i 0 < 0) || decide (B.1 * B.2.1 ≤ B.2.2.1.getD i 0)) || (decide (0 < i) && decide (B.2.2.1.getD i 0 ≤ B.2.2.1.getD (i - 1) 0)))
          (yes := fun _ _ => some false) (no := some true) (m := k) rfl (by simp; unfold K0 at hk; omega)
          (fun i x hx rec => by
            have hi := length_lt hx
            simp at hi
            rw [List.getElem?_range hi] at hx; simp at hx; subst hx
            unfold go_impl_IsBoard_L0_G
            rw [if_pos (by simpa using hi)]
            rw [w64 (n := B.1 * B.2.1) (by omega) (by omega)]
            simp only [inb_lt hi, if_true, Int.toNat_natCast, wsucc (show i < 9223372036854775807 by omega)]
            rcases Nat.eq_zero_or_pos i with h0 | h0
            · subst h0
              simp
            · rw [wpred (by omega) h0, inb_lt (show i - 1 < _ by omega)]
              simp [Int.toNat_natCast, h0])
          (fun rec => by
            unfold go_impl_IsBoard_L0_G
            rw [if_neg (by simp)])
        refine this.trans ?_
        cases hfi : (List.range B.2.2.1.length).findIdx? _ with
        | none =>
          rw [List.findIdx?_eq_none_iff] at hfi
          rw [isGood_true]
          refine ⟨hW.1, hW.2, hH.1, hH.2, hf, fun i hi => ?_, fun i h1 hi => ?_⟩
          · have := hfi i (by simpa using hi)
            simp only [Bool.or_eq_false_iff, decide_eq_false_iff_not] at this
            omega
          · have := hfi i (by simpa using hi)
            simp only [Bool.or_eq_false_iff, Bool.and_eq_false_iff, decide_eq_false_iff_not] at this
            omega
        | some i =>
          rw [List.findIdx?_eq_some_iff_getElem] at hfi
          obtain ⟨hi, hp, _⟩ := hfi
          have hi' : i < B.2.2.1.length := by simpa using hi
          simp only [List.getElem?_range hi']
          rw [isGood_false]
          intro hg
          simp only [List.getElem_range, Bool.or_eq_true, Bool.and_eq_true, decide_eq_true_eq] at hp
          have h1 := hg.inn i hi'
          rcases hp with (hp | hp) | hp
          · omega
          · omega
          · have := hg.up i (by omega) hi'
            omega
      · rw [if_pos (by simpa using hf), isGood_false fun h => hf h.few]
    · rw [isGood_false fun h => hH ⟨h.h1, h.h8⟩]
      have : (decide (1 ≤ B.2.1) && decide (B.2.1 ≤ 8)) = false := by
        by_cases h : 1 ≤ B.2.1 <;> simp [h] <;> omega
      simp [hW.1, hW.2, this]
  · rw [isGood_false fun h => hW ⟨h.w1, h.w8⟩]
    have : (decide (1 ≤ B.1) && decide (B.1 ≤ 8)) = false := by
      by_cases h : 1 ≤ B.1 <;> simp [h] <;> omega
    simp [this]

theorem l1In_eq (a b c : Int) : go_spec_l1In k a b c = some (decide (b ≤ a) && decide (a ≤ c)) := rfl

theorem l1All_eq {l : List Int} {lo hi : Int} (hk : K0 ≤ k) (hl : l.length ≤ 1048576) : go_spec_l1All k l lo hi = some (decide (∀ i, i < l.length → lo ≤ l.getD i 0 ∧ l.getD i 0 ≤ hi)) := by
  unfold go_spec_l1All go_spec_l1All_T go_spec_l1All_L0
  have := iter_find (F := fun rec5 x4 => go_spec_l1All_L0_G k l lo hi rec5 x4) (fun i => (i : Int)) (List.range l.length)
    (fun i => !(decide (lo ≤ l.getD i 0) && decide (l.getD i 0 ≤ hi))) (yes := fun _ _ => some false) (no := some true) (m := k) rfl (by simp; unfold K0 at hk; omega)
    (fun i x hx rec => by
      have hi := length_lt hx
      simp at hi
      rw [List.getElem?_range hi] at hx; simp at hx; subst hx
      unfold go_spec_l1All_L0_G
      rw [if_pos (by simpa using hi)]
      simp only [inb_lt hi, if_true, Int.toNat_natCast, wsucc (show i < 9223372036854775807 by omega), l1In_eq, Option.bind_some])
    (fun rec => by
      unfold go_spec_l1All_L0_G
      rw [if_neg (by simp)])
  refine this.trans ?_
  cases hfi : (List.range l.length).findIdx? _ with
  | none =>
    rw [List.findIdx?_eq_none_iff] at hfi
    have : ∀ i, i < l.length → lo ≤ l.getD i 0 ∧ l.getD i 0 ≤ hi := fun i hi => by
      have := hfi i (by simpa using hi)
      simpa using this
    exact congrArg some (decide_eq_true this).symm
  | some i =>
    rw [List.findIdx?_eq_some_iff_getElem] at hfi
    obtain ⟨hi', hp, _⟩ := hfi
    have hi'' : i < l.length := by simpa using hi'
    simp only [List.getElem?_range hi'']
    have : ¬ ∀ i, i < l.length → lo ≤ l.getD i 0 ∧ l.getD i 0 ≤ hi := fun h => by
      have := h i hi''
      simp only [List.getElem_range, Bool.not_eq_true', Bool.and_eq_false_iff, decide_eq_false_iff_not] at hp
      omega
    exact congrArg some (decide_eq_false this).symm

theorem boGood_eq (hk : K0 ≤ k) (B : BT) : go_spec_boGood k B = some (isGood B) := by
  unfold go_spec_boGood go_spec_boGood_T go_spec_boSize
  simp only [l1In_eq, Option.bind_some]
  by_cases hW : 1 ≤ B.1 ∧ B.1 ≤ 8
  · by_cases hH : 1 ≤ B.2.1 ∧ B.2.1 ≤ 8
    · obtain ⟨hm1, hm2⟩ := mul64 hW.1 hW.2 hH.1 hH.2
      simp only [hW.1, hW.2, hH.1, hH.2, decide_true, Bool.and_self, Bool.not_true, Bool.not_false, if_true, Option.bind_some, Bool.false_or, Bool.or_self]
      rw [w64 (n := B.1 * B.2.1) (by omega) (by omega), w64 (n := B.1 * B.2.1 - 1) (by omega) (by omega)]
      by_cases hf : (B.2.2.1.length : Int) < B.1 * B.2.1
      · have hd : decide (B.1 * B.2.1 ≤ (B.2.2.1.length : Int)) = false := by simpa using hf
        simp only [hd, Bool.not_false, if_true, l1All_eq hk (show B.2.2.1.length ≤ 1048576 by omega), Option.bind_some, Bool.false_or]
        by_cases hall : ∀ i, i < B.2.2.1.length → 0 ≤ B.2.2.1.getD i 0 ∧ B.2.2.1.getD i 0 ≤ B.1 * B.2.1 - 1
        · rw [decide_eq_true hall]
          simp only [Bool.not_true, Bool.false_eq_true, if_false]
          unfold go_spec_boGood_L0
          by_cases hlen : B.2.2.1.length = 0
          · refine (iter_path (F := fun rec6 x5 => go_spec_boGood_L0_G k B rec6 x5) (out := some true) (fun i => (1 : Int)) 0 rfl (by unfold K0 at hk; omega) (fun i hi => by omega) (fun rec => ?_)).trans ?_
            · unfold go_spec_boGood_L0_G
              rw [if_neg (by simp [hlen])]
            · rw [isGood_true]
              exact ⟨hW.1, hW.2, hH.1, hH.2, hf, fun i hi => by omega, fun i h1 hi => by omega⟩
          have := iter_find (F := fun rec6 x5 => go_spec_boGood_L0_G k B rec6 x5) (fun i => ((i + 1 : Nat) : Int)) (List.range (B.2.2.1.length - 1))
            (fun i => decide (B.2.2.1.getD (i + 1) 0 ≤ B.2.2.1.getD i 0))
            (yes := fun _ _ => some false) (no := some true) (m := k) rfl (by simp; unfold K0 at hk; omega)
            (fun i x hx rec => by
              have hi := length_lt hx
              simp at hi
              rw [List.getElem?_range hi] at hx; simp at hx; subst hx
              unfold go_spec_boGood_L0_G
              rw [if_pos (by simp; omega)]
              rw [wpred (by omega) (by omega), wsucc (by omega), inb_lt (show i + 1 < _ by omega), Nat.add_sub_cancel, inb_lt (show i < _ by omega)]
              simp only [if_true, Int.toNat_natCast])
            (fun rec => by
              unfold go_spec_boGood_L0_G
              rw [if_neg (by simp; omega)])
          refine this.trans ?_
          cases hfi : (List.range (B.2.2.1.length - 1)).findIdx? _ with
          | none =>
            rw [List.findIdx?_eq_none_iff] at hfi
            rw [isGood_true]
            refine ⟨hW.1, hW.2, hH.1, hH.2, hf, fun i hi => ?_, fun i h1 hi => ?_⟩
            · have := hall i hi; omega
            · have := hfi (i - 1) (by simp; omega)
              rw [show i - 1 + 1 = i by omega] at this
              simpa using this
          | some i =>
            rw [List.findIdx?_eq_some_iff_getElem] at hfi
            obtain ⟨hi, hp, _⟩ := hfi
            have hi' : i < B.2.2.1.length - 1 := by simpa using hi
            simp only [List.getElem?_range hi']
            rw [isGood_false]
            intro hg
            simp only [List.getElem_range, decide_eq_true_eq] at hp
            have := hg.up (i + 1) (by omega) (by omega)
            rw [Nat.add_sub_cancel] at this
            omega
        · rw [decide_eq_false hall]
          simp only [Bool.not_false, if_true]
          rw [isGood_false fun h => hall fun i hi => by have := h.inn i hi; omega]
      · have hd : decide (B.1 * B.2.1 ≤ (B.2.2.1.length : Int)) = true := by simpa using hf
        simp only [hd, Bool.not_true, Bool.false_eq_true, if_false, Option.bind_some, Bool.true_or, if_true]
        rw [isGood_false fun h => hf h.few]
    · rw [isGood_false fun h => hH ⟨h.h1, h.h8⟩]
      have : (decide (1 ≤ B.2.1) && decide (B.2.1 ≤ 8)) = false := by
        by_cases h : 1 ≤ B.2.1 <;> simp [h] <;> omega
      simp [hW.1, hW.2, this]
  · rw [isGood_false fun h => hW ⟨h.w1, h.w8⟩]
    have : (decide (1 ≤ B.1) && decide (B.1 ≤ 8)) = false := by
      by_cases h : 1 ≤ B.1 <;> simp [h] <;> omega
    simp [this]

/-! ### leapers -/

structure GoodL (L : LT) : Prop where
  a0 : 0 ≤ L.1
  ab : L.1 ≤ L.2.1
  b1 : 1 ≤ L.2.1
  b5 : L.2.1 ≤ 5

noncomputable def isGoodL (L : LT) : Bool := @decide (GoodL L) (Classical.propDecidable _)

theorem isGoodL_iff {L : LT} {b : Bool} (h : b = true ↔ GoodL L) : isGoodL L = b := by
  unfold isGoodL
  cases b with
  | true => simp [h.1 rfl]
  | false =>
    have : ¬ GoodL L := fun hg => by cases h.2 hg
    simp [this]

theorem IsLeaper_eq (L : LT) : go_impl_IsLeaper k L = some (isGoodL L) := by
  unfold go_impl_IsLeaper
  congr 1
  refine (isGoodL_iff ?_).symm
  simp only [Bool.and_eq_true, decide_eq_true_eq]
  exact ⟨fun ⟨⟨⟨h1, h2⟩, h3⟩, h4⟩ => ⟨h1, h2, h3, h4⟩, fun ⟨h1, h2, h3, h4⟩ => ⟨⟨⟨h1, h2⟩, h3⟩, h4⟩⟩

theorem boLeaper_eq (L : LT) : go_spec_boLeaper k L = some (isGoodL L) := by
  unfold go_spec_boLeaper
  simp only [l1In_eq, Option.bind_some]
  by_cases h : 1 ≤ L.2.1 ∧ L.2.1 ≤ 5
  · simp only [h.1, h.2, decide_true, Bool.and_self, if_true, Option.bind_some, Bool.true_and]
    congr 1
    refine (isGoodL_iff ?_).symm
    simp only [Bool.and_eq_true, decide_eq_true_eq]
    exact ⟨fun ⟨h1, h2⟩ => ⟨h1, h2, h.1, h.2⟩, fun ⟨h1, h2, h3, h4⟩ => ⟨h1, h2⟩⟩
  · have : (decide (1 ≤ L.2.1) && decide (L.2.1 ≤ 5)) = false := by
      by_cases h : 1 ≤ L.2.1 <;> simp [h] <;> omega
    simp only [this, Bool.false_eq_true, if_false, Option.bind_some, Bool.false_and]
    congr 1
    exact (isGoodL_iff ⟨fun e => (by cases e), fun hg => absurd (And.intro hg.b1 hg.b5) h⟩).symm

theorem boTwo_eq (hk : K0 ≤ k) (B : BT) (L : LT) : go_spec_boTwo k B L = some (isGood B && isGoodL L) := by
  unfold go_spec_boTwo
  rw [boGood_eq hk]
  simp only [Option.bind_some]
  cases isGood B <;> simp [boLeaper_eq]

/-! ### a good board, in natural numbers -/

@[reducible] def bd (W H : Nat) (hs : List Nat) : BT := ((W : Int), ((H : Int), (zs hs, ())))

structure Gd (W H : Nat) (hs : List Nat) : Prop where
  w1 : 1 ≤ W
  w8 : W ≤ 8
  h1 : 1 ≤ H
  h8 : H ≤ 8
  few : hs.length < W * H
  inn : ∀ h ∈ hs, h < W * H
  up : hs.Pairwise (· < ·)

theorem Good.nat {B : BT} (h : Good B) : ∃ W H hs, B = bd W H hs ∧ Gd W H hs := by
  obtain ⟨b1, b2, l, u⟩ := B
  obtain ⟨h1, h2, h3, h4, h5, h6, h7⟩ := h
  simp only at h1 h2 h3 h4 h5 h6 h7
  obtain ⟨W, rfl⟩ := Int.eq_ofNat_of_zero_le (show 0 ≤ b1 by omega)
  obtain ⟨H, rfl⟩ := Int.eq_ofNat_of_zero_le (show 0 ≤ b2 by omega)
  obtain ⟨hs, rfl⟩ := zs_of_nonneg (l := l) fun x hx => by
    obtain ⟨i, hi⟩ := List.getElem?_of_mem hx
    have := (h6 i (length_lt hi)).1
    simpa [List.getD_eq_getElem?_getD, hi] using this
  refine ⟨W, H, hs, rfl, by omega, by omega, by omega, by omega, ?_, fun x hx => ?_, ?_⟩
  · rw [← Int.natCast_mul] at h5
    simp at h5
    exact_mod_cast h5
  · obtain ⟨i, hi⟩ := List.getElem?_of_mem hx
    have := (h6 i (by simpa using length_lt hi)).2
    rw [zs_get hi, ← Int.natCast_mul] at this
    omega
  · rw [List.pairwise_iff_getElem]
    have : ∀ d i (hi : i + d + 1 < hs.length), hs[i] < hs[i + d + 1] := by
      intro d
      induction d with
      | zero =>
        intro i hi
        have := h7 (i + 1) (by omega) (by simpa using hi)
        rw [Nat.add_sub_cancel, zs_get (List.getElem?_eq_getElem (show i < hs.length by omega)), zs_get (List.getElem?_eq_getElem (show i + 1 < hs.length by omega))] at this
        simpa using this
      | succ d ih =>
        intro i hi
        have h1 := ih i (by omega)
        have := h7 (i + d + 1 + 1) (by omega) (by simp; omega)
        rw [Nat.add_sub_cancel, zs_get (List.getElem?_eq_getElem (show i + d + 1 < hs.length by omega)), zs_get (List.getElem?_eq_getElem (show i + d + 1 + 1 < hs.length by omega))] at this
        simp only [show i + (d + 1) + 1 = i + d + 1 + 1 by omega]
        omega
    intro i j hi hj hij
    have := this (j - i - 1) i (by omega)
    simp only [show i + (j - i - 1) + 1 = j by omega] at this
    exact this

theorem Gd.n64 {W H : Nat} {hs : List Nat} (h : Gd W H hs) : W * H ≤ 64 := mul_le_64 h.w8 h.h8

@[reducible] def ld (a b : Nat) : LT := ((a : Int), ((b : Int), ()))

theorem GoodL.nat {L : LT} (h : GoodL L) : ∃ a b, L = ld a b ∧ a ≤ b ∧ 1 ≤ b ∧ b ≤ 5 := by
  obtain ⟨a, b, u⟩ := L
  obtain ⟨h1, h2, h3, h4⟩ := h
  simp only at h1 h2 h3 h4
  obtain ⟨x, rfl⟩ := Int.eq_ofNat_of_zero_le h1
  obtain ⟨y, rfl⟩ := Int.eq_ofNat_of_zero_le (show 0 ≤ b by omega)
  exact ⟨x, y, rfl, by omega, by omega, by omega⟩

end Go.Lg
