/-
  Regions that draw their order, the first part: an operation that may come up early.
-/
import Derived.Test.YtejfaifipdhecaaEng18
set_option linter.unusedVariables false
set_option linter.unusedSimpArgs false
namespace Go.Lg
open Go.RowKit

/-! ### what an operation waits for -/

inductive Reach (ops : Array Oper) : Nat → Nat → Prop where
  | direct {j : Nat} {o : Oper} {e : Edge} (ho : ops[j]? = some o) (he : e ∈ o.after) (hb : Region.binds .any e = true) : Reach ops j e.on
  | step {j i : Nat} {o : Oper} {e : Edge} (ho : ops[j]? = some o) (he : e ∈ o.after) (hb : Region.binds .any e = true) (h : Reach ops e.on i) : Reach ops j i

def Closed (ops : Array Oper) (L : Nat → Bool) : Prop := ∀ j o, ops[j]? = some o → L j = true → ∀ e ∈ o.after, Region.binds .any e = true → L e.on = true

theorem Reach.listed {ops : Array Oper} {L : Nat → Bool} (hc : Closed ops L) {j i : Nat} (h : Reach ops j i) : L j = true → L i = true := by
  induction h with
  | direct ho he hb => exact fun hj => hc _ _ ho hj _ he hb
  | step ho he hb _ ih => exact fun hj => ih (hc _ _ ho hj _ he hb)

theorem fold_bits {ops : Array Oper} {j i : Nat} {o : Oper} (ho : ops[j]? = some o) {acc : List Nat} (hacc : ∀ q i, Nat.testBit (acc.getD q 0) i = true → Reach ops q i) :
    ∀ (l : List Edge) (b : Nat), (∀ e ∈ l, e ∈ o.after) → (Nat.testBit b i = true → Reach ops j i) →
      Nat.testBit (l.foldl (addEdge acc) b) i = true → Reach ops j i
  | [], b, _, hb, h => hb h
  | e :: r, b, hl, hb, h => by
    simp only [List.foldl_cons] at h
    refine fold_bits ho hacc r _ (fun e' he' => hl e' (List.mem_cons_of_mem _ he')) ?_ h
    intro h2
    unfold addEdge at h2
    split at h2
    · rename_i hbd
      rw [Nat.testBit_or, Nat.testBit_or, Bool.or_eq_true, Bool.or_eq_true] at h2
      rcases h2 with (h2 | h2) | h2
      · exact hb h2
      · rw [Nat.one_shiftLeft, Nat.testBit_two_pow] at h2
        simp only [decide_eq_true_eq] at h2
        subst h2
        exact .direct ho (hl e (by simp)) hbd
      · exact .step ho (hl e (by simp)) hbd (hacc _ _ h2)
    · exact hb h2

theorem depsGo_reach {ops : Array Oper} : ∀ (l : List Oper) (acc : List Nat), (∀ k, l[k]? = ops[acc.length + k]?) → (∀ q i, Nat.testBit (acc.getD q 0) i = true → Reach ops q i) →
    ∀ q i, Nat.testBit ((depsGo l acc).getD q 0) i = true → Reach ops q i
  | [], acc, _, hacc => hacc
  | o :: r, acc, hl, hacc => by
    simp only [depsGo]
    have ho : ops[acc.length]? = some o := by simpa using (hl 0).symm
    refine depsGo_reach r _ (fun k => ?_) fun q i h => ?_
    · have := hl (k + 1)
      rw [List.getElem?_cons_succ] at this
      rw [this]
      congr 1
      simp only [List.length_append, List.length_cons, List.length_nil]
      omega
    · by_cases hq : q < acc.length
      · rw [List.getD_eq_getElem?_getD, List.getElem?_append_left hq, ← List.getD_eq_getElem?_getD] at h
        exact hacc q i h
      · by_cases hq' : q = acc.length
        · subst hq'
          simp only [List.getD_eq_getElem?_getD, List.getElem?_concat_length, Option.getD_some] at h
          refine fold_bits ho ?_ o.after.toList 0 (fun e he => by simpa using he) (fun h => by simp at h) (by simpa only [List.getD_eq_getElem?_getD] using h)
          intro q' i' h'
          exact hacc q' i' h'
        · rw [List.getD_eq_getElem?_getD, List.getElem?_eq_none (by simp only [List.length_append, List.length_cons, List.length_nil]; omega)] at h
          simp at h

theorem alien_spec {x y : Option Nat × List Nat} (h : alien x y = true) : (∀ d, x.1 = some d → d ∉ y.2 ∧ y.1 ≠ some d) ∧ (∀ d, y.1 = some d → d ∉ x.2) := by
  obtain ⟨x1, x2⟩ := x
  obtain ⟨y1, y2⟩ := y
  unfold alien at h
  cases x1 with
  | none =>
    cases y1 with
    | none => exact ⟨by simp, by simp⟩
    | some d' =>
      simp only [Bool.true_and, Bool.not_eq_true'] at h
      exact ⟨by simp, fun d hd => by simp only [Option.some.injEq] at hd; subst hd; exact has_false h⟩
  | some d =>
    cases y1 with
    | none =>
      simp only [Bool.and_true, Bool.not_eq_true'] at h
      exact ⟨fun d' hd => by simp only [Option.some.injEq] at hd; subst hd; exact ⟨has_false h, by simp⟩, by simp⟩
    | some d' =>
      simp only [Bool.and_eq_true, Bool.not_eq_true'] at h
      obtain ⟨⟨h1, h2⟩, h3⟩ := h
      exact ⟨fun d0 hd => by
        simp only [Option.some.injEq] at hd; subst hd
        exact ⟨has_false h1, by simp only [ne_eq, Option.some.injEq]; exact fun e => Nat.ne_of_beq_eq_false h2 e.symm⟩, fun d0 hd => by simp only [Option.some.injEq] at hd; subst hd; exact has_false h3⟩

theorem waits1_spec {y : Option Nat × List Nat} {bits : Nat} : ∀ {l : List (Option Nat × List Nat)} {k : Nat}, waits1 y bits l k = true → ∀ i x, l[i]? = some x → alien x y = true ∨ Nat.testBit bits (k + i) = true
  | [], k, _, i, x, h => by simp at h
  | z :: r, k, hw, i, x, h => by
    simp only [waits1, Bool.and_eq_true, Bool.or_eq_true] at hw
    cases i with
    | zero => simp only [List.getElem?_cons_zero, Option.some.injEq] at h; subst h; exact hw.1
    | succ i =>
      have := waits1_spec hw.2 i x (by simpa using h)
      rwa [show k + 1 + i = k + (i + 1) by omega] at this

theorem waitsGo_spec {ops : Array Oper} : ∀ {l : List Oper} {bs : List Nat} {acc : List (Option Nat × List Nat)}, waitsGo ops l bs acc = true → l.length ≤ bs.length →
    ∀ i j x y, (acc ++ l.map fun o => (o.dst, slotsOf ops o))[i]? = some x → l[j]? = some y → i < acc.length + j → alien x (y.dst, slotsOf ops y) = true ∨ Nat.testBit (bs.getD j 0) i = true
  | [], bs, acc, _, _, i, j, x, y, _, h, _ => by simp at h
  | o :: r, [], acc, _, hl, i, j, x, y, _, h, _ => by simp at hl
  | o :: r, b :: bs, acc, hw, hl, i, j, x, y, h1, h2, h3 => by
    simp only [waitsGo, Bool.and_eq_true] at hw
    cases j with
    | zero =>
      simp only [List.getElem?_cons_zero, Option.some.injEq] at h2
      subst h2
      rw [List.getElem?_append_left (by omega)] at h1
      have := waits1_spec hw.1 i x h1
      simpa using this
    | succ j =>
      have := waitsGo_spec hw.2 (by simpa using hl) i j x y (by simpa using h1) (by simpa using h2) (by simp only [List.length_append, List.length_cons, List.length_nil]; omega)
      simpa using this

theorem depsGo_length : ∀ (l : List Oper) (acc : List Nat), (depsGo l acc).length = acc.length + l.length
  | [], acc => by simp [depsGo]
  | o :: r, acc => by simp only [depsGo, depsGo_length, List.length_append, List.length_cons, List.length_nil]; omega

theorem backGo_spec : ∀ {l : List Oper} {j : Nat}, backGo l j = true → ∀ k o, l[k]? = some o → ∀ e ∈ o.after, Region.binds .any e = true → e.on < j + k
  | [], j, _, k, o, h => by simp at h
  | z :: r, j, hb, k, o, h => by
    simp only [backGo, Bool.and_eq_true, List.all_eq_true, Bool.or_eq_true, Bool.not_eq_true'] at hb
    cases k with
    | zero =>
      simp only [List.getElem?_cons_zero, Option.some.injEq] at h
      subst h
      intro e he hbd
      have := (hb.1 e (by simpa using he)).resolve_left (by simp [hbd])
      rw [Nat.blt_eq] at this
      exact this
    | succ k =>
      have := backGo_spec hb.2 k o (by simpa using h)
      intro e he hbd
      have := this e he hbd
      omega

/-- Two operations of the first n that touch one slot come up in their order. -/
theorem drawOk_order {ops : Array Oper} {n : Nat} {X : List Nat} (h : headOk ops n X = true) {L : Nat → Bool} (hc : Closed ops L) {i j : Nat} {x y : Oper} (hi : ops[i]? = some x) (hj : ops[j]? = some y) (hij : i < j) (hjn : j < n) :
    (L j = true → L i = true) ∨ alien (x.dst, slotsOf ops x) (y.dst, slotsOf ops y) = true := by
  simp only [headOk, Bool.and_eq_true] at h
  have hlen : (ops.toList.take n).length ≤ (depsGo ops.toList []).length := by
    rw [depsGo_length, List.length_take]; simp only [List.length_nil]; omega
  have hi' : (([] : List (Option Nat × List Nat)) ++ (ops.toList.take n).map fun o => (o.dst, slotsOf ops o))[i]? = some (x.dst, slotsOf ops x) := by
    rw [List.nil_append, List.getElem?_map, List.getElem?_take_of_lt (by omega), Array.getElem?_toList, hi]; rfl
  have hj' : (ops.toList.take n)[j]? = some y := by rw [List.getElem?_take_of_lt hjn, Array.getElem?_toList, hj]
  rcases waitsGo_spec h.1.2 hlen i j _ y hi' hj' (by simp only [List.length_nil]; omega) with h1 | h1
  · exact .inr h1
  · exact .inl fun hL => (depsGo_reach ops.toList [] (fun k => by simp) (fun q i h => by simp at h) j i h1).listed hc hL

theorem drawOk_back {ops : Array Oper} {n : Nat} {X : List Nat} (h : headOk ops n X = true) {j : Nat} {o : Oper} (hj : ops[j]? = some o) : ∀ e ∈ o.after, Region.binds .any e = true → e.on < j := by
  simp only [headOk, Bool.and_eq_true] at h
  have := backGo_spec h.1.1 j o (by rw [Array.getElem?_toList, hj])
  intro e he hb
  have := this e he hb
  omega

end Go.Lg
