/-
  Plain law: how many pairs of leaps of a path cross.
-/
import Derived.Test.YtfnkdimgmhhpiaaCr
set_option linter.unusedVariables false
set_option linter.unusedSimpArgs false
namespace Go.Lg
open Go.RowKit Go.IntWalk

variable {k : Nat}

/-- How many leaps before the one to the place i cross that one. -/
def crRow (W : Nat) (q : List Nat) (i : Nat) : Nat := (List.range (i - 1)).countP fun t => crX W (q.getD (i - 1) 0) (q.getD i 0) (q.getD t 0) (q.getD (t + 1) 0)
def crTo (W : Nat) (q : List Nat) (i : Nat) : Nat := ((List.range i).map (crRow W q)).sum
def crN (W : Nat) (q : List Nat) : Nat := crTo W q q.length

theorem crTo_succ (W : Nat) (q : List Nat) (i : Nat) : crTo W q (i + 1) = crTo W q i + crRow W q i := by
  unfold crTo
  rw [List.range_succ, List.map_append, List.sum_append]
  simp

theorem crTo_one (W : Nat) (q : List Nat) : crTo W q 1 = 0 := by
  rw [crTo_succ]
  rfl

theorem crRow_le (W : Nat) (q : List Nat) (i : Nat) : crRow W q i ≤ i := by
  have := List.countP_le_length (p := fun t => crX W (q.getD (i - 1) 0) (q.getD i 0) (q.getD t 0) (q.getD (t + 1) 0)) (l := List.range (i - 1))
  rw [List.length_range] at this
  unfold crRow
  omega

theorem crTo_le (W : Nat) (q : List Nat) : ∀ i, i ≤ 100 → crTo W q i ≤ i * 100
  | 0, _ => by simp [crTo]
  | i + 1, h => by
    have := crTo_le W q i (by omega)
    have := crRow_le W q i
    rw [crTo_succ]
    omega

section
variable {W H a b : Nat} {hs : List Nat}

theorem getD_bd {q : List Nat} {m : Nat} (h : ∀ c ∈ q, c ≤ m) (i : Nat) : q.getD i 0 ≤ m := by
  rw [List.getD_eq_getElem?_getD]
  cases hi : q[i]? with
  | none => simp
  | some c => exact h c (List.mem_of_getElem? hi)

/-- The loops of both count in the same way. -/
theorem crCount_eq (hk : K0 ≤ k) (hg : Gd W H hs) {q : List Nat} (hl1 : 1 ≤ q.length) (hl : q.length ≤ 100) (hb : ∀ c ∈ q, c ≤ 1000) : go_spec_crCount k (bd W H hs) (zs q) = some (crN W q : Int) := by
  have hq := fun i => getD_bd hb i
  unfold go_spec_crCount go_spec_crCount_T go_spec_crCount_L0
  refine iter_path (F := fun rec24 x23 => go_spec_crCount_L0_G k (bd W H hs) (zs q) (fun c0 y => go_spec_crCount_L1 k (bd W H hs) (zs q) rec24 c0 y) rec24 x23) (fun t => ((crTo W q (t + 1) : Int), ((t + 1 : Nat) : Int))) (q.length - 1) (by rw [crTo_one]; rfl) (by unfold K0 at hk; omega) (fun t ht rec => ?_) (fun rec => ?_)
  · unfold go_spec_crCount_L0_G
    have e1 : decide (((t + 1 : Nat) : Int) < (q.length : Int)) = true := by simp; omega
    simp only [zs_length, e1, if_true]
    unfold go_spec_crCount_L1
    have hto := crTo_le W q (t + 1) (by omega)
    refine iter_path (F := fun rec32 x31 => go_spec_crCount_L1_G k (bd W H hs) (zs q) ((crTo W q (t + 1) : Int), ((t + 1 : Nat) : Int)) rec rec32 x31)
      (fun j => (((crTo W q (t + 1) + (List.range j).countP fun j => crX W (q.getD t 0) (q.getD (t + 1) 0) (q.getD j 0) (q.getD (j + 1) 0) : Nat) : Int), ((j + 1 : Nat) : Int))) t rfl (by unfold K0 at hk; omega) (fun j hj rec2 => ?_) (fun rec2 => ?_)
    · unfold go_spec_crCount_L1_G
      have e2 : decide (((j + 1 : Nat) : Int) < ((t + 1 : Nat) : Int)) = true := by simp; omega
      have hcp := List.countP_le_length (p := fun j => crX W (q.getD t 0) (q.getD (t + 1) 0) (q.getD j 0) (q.getD (j + 1) 0)) (l := List.range j)
      rw [List.length_range] at hcp
      simp only [zs_length, e2, if_true, wpred (show t + 1 < 9223372036854775807 by omega) (Nat.succ_pos t), wpred (show j + 1 < 9223372036854775807 by omega) (Nat.succ_pos j), Nat.add_sub_cancel, inb_lt (show t < q.length by omega), inb_lt (show t + 1 < q.length by omega), inb_lt (show j < q.length by omega), inb_lt (show j + 1 < q.length by omega), Int.toNat_natCast, zs_getD, crDo_eq hk hg (hq t) (hq (t + 1)) (hq j) (hq (j + 1)), Option.bind_some, wsucc (show j + 1 < 9223372036854775807 by omega),
        wsucc (show crTo W q (t + 1) + (List.range j).countP (fun j => crX W (q.getD t 0) (q.getD (t + 1) 0) (q.getD j 0) (q.getD (j + 1) 0)) < 9223372036854775807 by omega)]
      rw [List.range_succ, List.countP_append, List.countP_singleton]
      cases h : crX W (q.getD t 0) (q.getD (t + 1) 0) (q.getD j 0) (q.getD (j + 1) 0) <;> simp [Nat.add_assoc]
    · unfold go_spec_crCount_L1_G
      have e2 : decide (((t + 1 : Nat) : Int) < ((t + 1 : Nat) : Int)) = false := by simp
      simp only [e2, Bool.false_eq_true, if_false, wsucc (show t + 1 < 9223372036854775807 by omega)]
      rw [crTo_succ W q (t + 1)]
      unfold crRow
      rfl
  · unfold go_spec_crCount_L0_G
    have e1 : decide (((q.length - 1 + 1 : Nat) : Int) < (q.length : Int)) = false := by simp; omega
    simp only [zs_length, e1, Bool.false_eq_true, if_false, crN]
    rw [Nat.sub_add_cancel hl1]

theorem crossings_eq (hk : K0 ≤ k) (hg : Gd W H hs) {q : List Nat} (hl1 : 1 ≤ q.length) (hl : q.length ≤ 100) (hb : ∀ c ∈ q, c ≤ 1000) (hd : ∀ i, i + 1 < q.length → q.getD i 0 ≠ q.getD (i + 1) 0) : go_impl_graph_crossings k (some (graph W H hs a b)) (zs q) = some (crN W q : Int) := by
  have hq := fun i => getD_bd hb i
  unfold go_impl_graph_crossings go_impl_graph_crossings_T go_impl_graph_crossings_L0
  refine iter_path (F := fun rec24 x23 => go_impl_graph_crossings_L0_G k (some (graph W H hs a b)) (zs q) (fun c0 y => go_impl_graph_crossings_L1 k (some (graph W H hs a b)) (zs q) rec24 c0 y) rec24 x23) (fun t => ((crTo W q (t + 1) : Int), ((t + 1 : Nat) : Int))) (q.length - 1) (by rw [crTo_one]; rfl) (by unfold K0 at hk; omega) (fun t ht rec => ?_) (fun rec => ?_)
  · unfold go_impl_graph_crossings_L0_G
    have e1 : decide (((t + 1 : Nat) : Int) < (q.length : Int)) = true := by simp; omega
    simp only [zs_length, e1, if_true]
    unfold go_impl_graph_crossings_L1
    have hto := crTo_le W q (t + 1) (by omega)
    refine iter_path (F := fun rec32 x31 => go_impl_graph_crossings_L1_G k (some (graph W H hs a b)) (zs q) ((crTo W q (t + 1) : Int), ((t + 1 : Nat) : Int)) rec rec32 x31)
      (fun j => (((crTo W q (t + 1) + (List.range j).countP fun j => crX W (q.getD t 0) (q.getD (t + 1) 0) (q.getD j 0) (q.getD (j + 1) 0) : Nat) : Int), ((j + 1 : Nat) : Int))) t rfl (by unfold K0 at hk; omega) (fun j hj rec2 => ?_) (fun rec2 => ?_)
    · unfold go_impl_graph_crossings_L1_G
      have e2 : decide (((j + 1 : Nat) : Int) < ((t + 1 : Nat) : Int)) = true := by simp; omega
      have hcp := List.countP_le_length (p := fun j => crX W (q.getD t 0) (q.getD (t + 1) 0) (q.getD j 0) (q.getD (j + 1) 0)) (l := List.range j)
      rw [List.length_range] at hcp
      simp only [zs_length, e2, if_true, wpred (show t + 1 < 9223372036854775807 by omega) (Nat.succ_pos t), wpred (show j + 1 < 9223372036854775807 by omega) (Nat.succ_pos j), Nat.add_sub_cancel, inb_lt (show t < q.length by omega), inb_lt (show t + 1 < q.length by omega), inb_lt (show j < q.length by omega), inb_lt (show j + 1 < q.length by omega), Int.toNat_natCast, zs_getD, cross_eq hg (hq t) (hq (t + 1)) (hq j) (hq (j + 1)) (hd t (by omega)) (hd j (by omega)), Option.bind_some, wsucc (show j + 1 < 9223372036854775807 by omega),
        wsucc (show crTo W q (t + 1) + (List.range j).countP (fun j => crX W (q.getD t 0) (q.getD (t + 1) 0) (q.getD j 0) (q.getD (j + 1) 0)) < 9223372036854775807 by omega)]
      rw [List.range_succ, List.countP_append, List.countP_singleton]
      cases h : crX W (q.getD t 0) (q.getD (t + 1) 0) (q.getD j 0) (q.getD (j + 1) 0) <;> simp [Nat.add_assoc]
    · unfold go_impl_graph_crossings_L1_G
      have e2 : decide (((t + 1 : Nat) : Int) < ((t + 1 : Nat) : Int)) = false := by simp
      simp only [e2, Bool.false_eq_true, if_false, wsucc (show t + 1 < 9223372036854775807 by omega)]
      rw [crTo_succ W q (t + 1)]
      unfold crRow
      rfl
  · unfold go_impl_graph_crossings_L0_G
    have e1 : decide (((q.length - 1 + 1 : Nat) : Int) < (q.length : Int)) = false := by simp; omega
    simp only [zs_length, e1, Bool.false_eq_true, if_false, crN]
    rw [Nat.sub_add_cancel hl1]

theorem adj_ne {x y : Nat} (hab : a ≤ b) (hb1 : 1 ≤ b) (h : adj W a b x y = true) : x ≠ y := by
  rintro rfl
  have h0 : ∀ x, dist1 x x = 0 := fun x => by unfold dist1; omega
  have hb0 : ¬ 0 = b := by omega
  simp [adj, h0, hb0] at h

theorem PathN.bd {q : List Nat} (hg : Gd W H hs) (h : PathN W H hs a b q) : ∀ c ∈ q, c ≤ 1000 := fun c hc => by
  have := hasW_lt (h.has c hc)
  have := hg.n64
  omega

theorem PathN.ne {q : List Nat} (hab : a ≤ b) (hb1 : 1 ≤ b) (h : PathN W H hs a b q) : ∀ i, i + 1 < q.length → q.getD i 0 ≠ q.getD (i + 1) 0 := fun i hi => adj_ne hab hb1 (h.adj i hi)

end

/-- A board and a leaper, or none. -/
theorem two_cases (hk : K0 ≤ k) (B : BT) (L : LT) :
    (go_spec_boTwo k B L = some false ∧ go_impl_graphOf k B L = some (none, (false, ()))) ∨
    (go_spec_boTwo k B L = some true ∧ ∃ (W H a b : Nat) (hs : List Nat), B = bd W H hs ∧ L = ld a b ∧ Gd W H hs ∧ isGood (bd W H hs) = true ∧ isGoodL (ld a b) = true ∧ a ≤ b ∧ 1 ≤ b ∧ b ≤ 5 ∧ go_impl_graphOf k B L = some (some (graph W H hs a b), (true, ()))) := by
  rw [boTwo_eq hk]
  cases hB : isGood B && isGoodL L with
  | false => exact .inl ⟨rfl, graphOf_none hk hB⟩
  | true =>
    simp only [Bool.and_eq_true] at hB
    obtain ⟨hB, hL⟩ := hB
    obtain ⟨W, H, hs, rfl, hg⟩ := Good.nat (by simpa [isGood] using hB)
    obtain ⟨a, b, rfl, hab, hb1, hb5⟩ := GoodL.nat (by simpa [isGoodL] using hL)
    exact .inr ⟨rfl, W, H, a, b, hs, rfl, rfl, hg, hB, hL, hab, hb1, hb5, graphOf_eq hk hg hB hL hab hb5⟩

theorem IsUncrossed_same (hk : K0 ≤ k) (B : BT) (L : LT) (p : List Int) : ∃ r, go_spec_IsUncrossed k B L p = some r ∧ go_impl_IsUncrossed k B L p = some r := by
  unfold go_spec_IsUncrossed go_impl_IsUncrossed go_impl_walkGraph
  rcases two_cases hk B L with ⟨h1, h2⟩ | ⟨h1, W, H, a, b, hs, rfl, rfl, hg, hG, hL, hab, hb1, hb5, h2⟩
  · rw [h1, h2]; exact ⟨_, rfl, rfl⟩
  · rw [h1, h2]
    simp only [Option.bind_some, Bool.not_true, Bool.not_false, if_true, toWalk_eq hk hg, isWalk_eq hk hg, Bool.false_or]
    cases hw : walkB W H hs a b p with
    | false => exact ⟨_, rfl, rfl⟩
    | true =>
      obtain ⟨q, rfl, hq⟩ := walkB_walk hw
      have hl := hq.len64
      simp only [Bool.not_true, Bool.false_eq_true, if_false, Option.bind_some, crCount_eq hk hg hq.len1 (by omega) (hq.toPathN.bd hg), crossings_eq hk hg hq.len1 (by omega) (hq.toPathN.bd hg) (hq.toPathN.ne hab hb1)]
      exact ⟨_, rfl, rfl⟩

end Go.Lg
