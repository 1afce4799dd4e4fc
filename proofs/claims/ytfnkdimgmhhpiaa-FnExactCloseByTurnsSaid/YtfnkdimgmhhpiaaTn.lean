/-
  Plain law: tails of walks turned, until a walk closes.
-/
import Derived.Test.YtfnkdimgmhhpiaaJn
set_option linter.unusedVariables false
set_option linter.unusedSimpArgs false
namespace Go.Lg
open Go.RowKit Go.IntWalk

variable {k : Nat}

theorem getD_drop' (q : List Nat) (n i : Nat) : (q.drop n).getD i 0 = q.getD (n + i) 0 := by
  rw [List.getD_eq_getElem?_getD, List.getElem?_drop, ← List.getD_eq_getElem?_getD]
theorem getD_rev (q : List Nat) {i : Nat} (h : i < q.length) : q.reverse.getD i 0 = q.getD (q.length - 1 - i) 0 := by
  rw [List.getD_eq_getElem?_getD, List.getElem?_reverse h, ← List.getD_eq_getElem?_getD]
theorem getD_app (p q : List Nat) (i : Nat) : (p ++ q).getD i 0 = if i < p.length then p.getD i 0 else q.getD (i - p.length) 0 := by
  split
  · next h => rw [List.getD_eq_getElem?_getD, List.getElem?_append_left h, ← List.getD_eq_getElem?_getD]
  · next h => rw [List.getD_eq_getElem?_getD, List.getElem?_append_right (by omega), ← List.getD_eq_getElem?_getD]
theorem getD_take' (q : List Nat) {n i : Nat} (h : i < n) : (q.take n).getD i 0 = q.getD i 0 := by
  rw [List.getD_eq_getElem?_getD, List.getElem?_take_of_lt h, ← List.getD_eq_getElem?_getD]
theorem ext_getD {p q : List Nat} (h : p.length = q.length) (h' : ∀ i, i < p.length → p.getD i 0 = q.getD i 0) : p = q := by
  refine List.ext_getElem h fun i h1 h2 => ?_
  have := h' i h1
  rw [List.getD_eq_getElem?_getD, List.getD_eq_getElem?_getD, List.getElem?_eq_getElem h1, List.getElem?_eq_getElem h2] at this
  exact this
theorem getD_set (q : List Nat) (i j x : Nat) (hi : i < q.length) : (q.set i x).getD j 0 = if i = j then x else q.getD j 0 := by
  rw [List.getD_eq_getElem?_getD, List.getElem?_set]
  split
  · next h => subst h; simp [hi]
  · rw [← List.getD_eq_getElem?_getD]

/-! ### lists backwards -/

/-- A list of which the outer elements are exchanged. -/
def revI (l : List Nat) (i : Nat) : List Nat := (List.range l.length).map fun j => if j < i ∨ l.length - i ≤ j then l.getD (l.length - 1 - j) 0 else l.getD j 0
theorem revI_length (l : List Nat) (i : Nat) : (revI l i).length = l.length := by simp [revI]
theorem revI_getD (l : List Nat) (i : Nat) {j : Nat} (hj : j < l.length) : (revI l i).getD j 0 = if j < i ∨ l.length - i ≤ j then l.getD (l.length - 1 - j) 0 else l.getD j 0 := by
  unfold revI
  rw [List.getD_eq_getElem?_getD, List.getElem?_map, List.getElem?_range hj]
  rfl
theorem revI_zero (l : List Nat) : revI l 0 = l := ext_getD (revI_length _ _) fun i hi => by
  rw [revI_length] at hi
  rw [revI_getD _ _ hi, if_neg (by omega)]
theorem revI_half (l : List Nat) : revI l (l.length / 2) = l.reverse := ext_getD (by rw [revI_length, List.length_reverse]) fun i hi => by
  rw [revI_length] at hi
  rw [revI_getD _ _ hi, getD_rev _ hi]
  split
  · rfl
  · rw [show l.length - 1 - i = i by omega]
theorem revI_step (l : List Nat) {i : Nat} (h : i < l.length - 1 - i) : ((revI l i).set i ((revI l i).getD (l.length - 1 - i) 0)).set (l.length - 1 - i) ((revI l i).getD i 0) = revI l (i + 1) := ext_getD (by simp [revI_length]) fun j hj => by
  rw [List.length_set, List.length_set, revI_length] at hj
  rw [getD_set _ _ _ _ (by rw [List.length_set, revI_length]; omega), getD_set _ _ _ _ (by rw [revI_length]; omega), revI_getD _ _ hj, revI_getD _ _ hj, revI_getD _ _ (show l.length - 1 - i < l.length by omega), revI_getD _ _ (show i < l.length by omega)]
  rw [if_neg (show ¬ (i < i ∨ l.length - i ≤ i) by omega), if_neg (show ¬ (l.length - 1 - i < i ∨ l.length - i ≤ l.length - 1 - i) by omega)]
  by_cases h1 : l.length - 1 - i = j
  · subst h1
    rw [if_pos rfl, if_pos (by omega), show l.length - 1 - (l.length - 1 - i) = i by omega]
  · rw [if_neg h1]
    by_cases h2 : i = j
    · subst h2
      rw [if_pos rfl, if_pos (by omega)]
    · rw [if_neg h2]
      by_cases h3 : j < i ∨ l.length - i ≤ j
      · rw [if_pos h3, if_pos (by omega)]
      · rw [if_neg h3, if_neg (by omega)]

theorem Reverse_eq (hk : K0 ≤ k) {l : List Nat} (h1 : 1 ≤ l.length) (hl : l.length ≤ 1048576) : go_slices_Reverse_int k (zs l) = some ((), (zs l.reverse, ())) := by
  unfold go_slices_Reverse_int go_slices_Reverse_int_T go_slices_Reverse_int_L0
  rw [← revI_half]
  refine iter_path (F := fun rec8 x7 => go_slices_Reverse_int_L0_G k (zs l) rec8 x7) (fun i => ((i : Int), ((l.length - 1 - i : Nat) : Int), zs (revI l i))) (l.length / 2) (by
      rw [revI_zero, zs_length, wpred (by omega) h1]; rfl) (by unfold K0 at hk; omega) (fun i hi rec => ?_) (fun rec => ?_)
  · unfold go_slices_Reverse_int_L0_G
    have e1 : decide ((i : Int) < ((l.length - 1 - i : Nat) : Int)) = true := by rw [decide_eq_true_eq]; omega
    simp only [e1, if_true, zs_length, revI_length, inb_lt (show i < l.length by omega), inb_lt (show l.length - 1 - i < l.length by omega), Int.toNat_natCast, zs_getD, zs_set, wsucc (show i < 9223372036854775807 by omega), wpred (show l.length - 1 - i < 9223372036854775807 by omega) (show 0 < l.length - 1 - i by omega), List.length_set, revI_step l (show i < l.length - 1 - i by omega)]
    rw [show l.length - 1 - i - 1 = l.length - 1 - (i + 1) by omega]
  · unfold go_slices_Reverse_int_L0_G
    have e1 : decide (((l.length / 2 : Nat) : Int) < ((l.length - 1 - l.length / 2 : Nat) : Int)) = false := by rw [decide_eq_false_iff_not]; omega
    simp only [e1, Bool.false_eq_true, if_false]

theorem blBack_eq (hk : K0 ≤ k) {l : List Nat} (hl : l.length ≤ 1048576) : go_spec_blBack k (zs l) = some (zs l.reverse) := by
  unfold go_spec_blBack go_spec_blBack_T go_spec_blBack_L0
  refine iter_path (F := fun rec8 x7 => go_spec_blBack_L0_G k (zs l) rec8 x7) (fun i => ((l.length : Int) - 1 - (i : Int), zs (l.reverse.take i))) l.length (by
      rw [zs_length, w64 (by omega) (by omega)]; simp) (by unfold K0 at hk; omega) (fun i hi rec => ?_) (fun rec => ?_)
  · unfold go_spec_blBack_L0_G
    have e0 : (l.length : Int) - 1 - (i : Int) = ((l.length - 1 - i : Nat) : Int) := by omega
    have e1 : decide ((0 : Int) ≤ ((l.length - 1 - i : Nat) : Int)) = true := by rw [decide_eq_true_eq]; omega
    have e2 : (l.length : Int) - 1 - ((i + 1 : Nat) : Int) = ((l.length - 1 - i : Nat) : Int) - 1 := by omega
    have lt : (l.reverse.take i).length ≤ 1048576 := by rw [List.length_take, List.length_reverse]; omega
    have e3 : l.reverse.take (i + 1) = l.reverse.take i ++ [l.getD (l.length - 1 - i) 0] := by
      rw [List.take_succ_eq_append_getElem (by rw [List.length_reverse]; omega), ← getD_rev _ hi, List.getD_eq_getElem?_getD, List.getElem?_eq_getElem (by rw [List.length_reverse]; omega)]
      rfl
    rw [e2, e3]
    simp only [e0, e1, if_true, zs_length, inb_lt (show l.length - 1 - i < l.length by omega), Int.toNat_natCast, zs_getD, List.length_singleton, lim_le (show (l.reverse.take i).length + 1 ≤ 1099511627776 by omega), zs_single, ← zs_append]
    rw [w64 (by omega) (by omega)]
  · unfold go_spec_blBack_L0_G
    rw [if_neg (by simp only [decide_eq_true_eq]; omega)]
    simp only
    rw [List.take_of_length_le (by rw [List.length_reverse]; omega)]

def tailN (q : List Nat) (t : Nat) : List Nat := q.take t ++ (q.drop t).reverse
theorem tailN_length (q : List Nat) (t : Nat) : (tailN q t).length = q.length := by
  unfold tailN
  rw [List.length_append, List.length_reverse, List.length_take, List.length_drop]
  omega
theorem tailN_getD (q : List Nat) {t i : Nat} (ht : t ≤ q.length) (hi : i < q.length) : (tailN q t).getD i 0 = if i < t then q.getD i 0 else q.getD (q.length - 1 - (i - t)) 0 := by
  unfold tailN
  rw [getD_app, List.length_take]
  by_cases h : i < t
  · rw [if_pos (by omega), if_pos h, getD_take' _ h]
  · rw [if_neg (by omega), if_neg h, Nat.min_eq_left ht, getD_rev _ (by rw [List.length_drop]; omega), getD_drop', List.length_drop]
    congr 1
    omega

theorem tail_eq (hk : K0 ≤ k) {q : List Nat} {t : Nat} (ht : t < q.length) (hl : q.length ≤ 1000) : go_impl_tail k (zs q) (t : Int) = some (zs (tailN q t)) := by
  have e1 : decide ((0 : Int) ≤ (0 : Int) ∧ (0 : Int) ≤ (t : Int) ∧ (t : Int) ≤ (q.length : Int)) = true := by rw [decide_eq_true_eq]; omega
  have e2 : decide ((0 : Int) ≤ (t : Int) ∧ (t : Int) ≤ (q.length : Int) ∧ (q.length : Int) ≤ (q.length : Int)) = true := by rw [decide_eq_true_eq]; omega
  have l1 : (zs (q.take t)).length ≤ 1099511627776 := by rw [zs_length, List.length_take]; omega
  have l2 : (zs (q.drop t)).length ≤ 1099511627776 := by rw [zs_length, List.length_drop]; omega
  have l3 : (q.take t).length + (q.drop t).reverse.length ≤ 1099511627776 := by rw [List.length_take, List.length_reverse, List.length_drop]; omega
  unfold go_impl_tail go_impl_backwards
  simp only [zs_length, e1, e2, if_true, Int.toNat_natCast, Int.toNat_zero, List.drop_zero, zs_take, zs_drop, List.take_length, CloneW_eq l1, CloneW_eq l2, Option.bind_some, Reverse_eq hk (show 1 ≤ (q.drop t).length by rw [List.length_drop]; omega) (show (q.drop t).length ≤ 1048576 by rw [List.length_drop]; omega), lim_le l3, ← zs_append]
  rfl

theorem blTurn_eq (hk : K0 ≤ k) {q : List Nat} {t : Nat} (ht : t < q.length) (hl : q.length ≤ 1000) : go_spec_blTurn k (zs q) (t : Int) = some (zs (tailN q t)) := by
  have e1 : decide ((0 : Int) ≤ (0 : Int) ∧ (0 : Int) ≤ (t : Int) ∧ (t : Int) ≤ (q.length : Int)) = true := by rw [decide_eq_true_eq]; omega
  have e2 : decide ((0 : Int) ≤ (t : Int) ∧ (t : Int) ≤ (q.length : Int) ∧ (q.length : Int) ≤ (q.length : Int)) = true := by rw [decide_eq_true_eq]; omega
  have l1 : (zs (q.take t)).length ≤ 1099511627776 := by rw [zs_length, List.length_take]; omega
  have l3 : (q.take t).length + (q.drop t).reverse.length ≤ 1099511627776 := by rw [List.length_take, List.length_reverse, List.length_drop]; omega
  unfold go_spec_blTurn
  simp only [zs_length, e1, e2, if_true, Int.toNat_natCast, Int.toNat_zero, List.drop_zero, zs_take, zs_drop, List.take_length, l1Own_eq l1, Option.bind_some, blBack_eq hk (show (q.drop t).length ≤ 1048576 by rw [List.length_drop]; omega), lim_le l3, ← zs_append]
  rfl

section
variable {W H a b : Nat} {hs : List Nat}

/-- The places at which a tail can be turned. -/
def turnsN (W a b : Nat) (q : List Nat) : List Nat := ((List.range (q.length - 2)).filter fun i => adj W a b (q.getD i 0) (q.getD (q.length - 1) 0)).map (· + 1)

theorem turnsN_succ (P : Nat → Bool) (i : Nat) : ((List.range (i + 1)).filter P).map (· + 1) = ((List.range i).filter P).map (· + 1) ++ (if P i = true then [i + 1] else []) := by
  rw [List.range_succ, List.filter_append, List.map_append]
  cases h : P i <;> simp [h]

theorem turns_len (P : Nat → Bool) (i : Nat) : (((List.range i).filter P).map (· + 1)).length ≤ i := by
  rw [List.length_map]
  exact Nat.le_trans (List.length_filter_le _ _) (by simp)

theorem blTurns_eq (hk : K0 ≤ k) (hg : Gd W H hs) {q : List Nat} (hq : PathN W H hs a b q) : go_spec_blTurns k (bd W H hs) (ld a b) (zs q) = some (zs (turnsN W a b q)) := by
  have h1 := hq.len1
  have h64 := hq.len64
  have hbd := hq.bdJ hg
  unfold go_spec_blTurns go_spec_blTurns_T go_spec_blTurns_L0 turnsN
  generalize hP : (fun i => adj W a b (q.getD i 0) (q.getD (q.length - 1) 0)) = P
  refine iter_path (F := fun rec11 x10 => go_spec_blTurns_L0_G k (bd W H hs) (ld a b) (zs q) rec11 x10) (fun i => (((i + 1 : Nat) : Int), zs (((List.range i).filter P).map (· + 1)))) (q.length - 2) rfl (by unfold K0 at hk; omega) (fun i hi rec => ?_) (fun rec => ?_)
  · unfold go_spec_blTurns_L0_G go_spec_blCan
    have e1 : decide (((i + 1 + 1 : Nat) : Int) < (q.length : Int)) = true := by rw [decide_eq_true_eq]; omega
    have hlen := turns_len P i
    have hPi : P i = adj W a b (q.getD i 0) (q.getD (q.length - 1) 0) := by rw [← hP]
    simp only [zs_length, wsucc (show i + 1 < 9223372036854775807 by omega), e1, if_true, wpred (show i + 1 < 9223372036854775807 by omega) (Nat.succ_pos i), Nat.add_sub_cancel, inb_lt (show i < q.length by omega), wpred (show q.length < 9223372036854775807 by omega) h1, inb_lt (show q.length - 1 < q.length by omega), Int.toNat_natCast, zs_getD, boIs_eq hg (hbd i) (hbd (q.length - 1)), Option.bind_some, ← hPi, List.length_singleton, lim_le (show (((List.range i).filter P).map (· + 1)).length + 1 ≤ 1099511627776 by omega), turnsN_succ]
    cases P i
    · simp
    · simp only [if_true, zs_append]
      rfl
  · unfold go_spec_blTurns_L0_G
    rw [if_neg (by simp only [zs_length, decide_eq_true_eq]; rw [wsucc (by omega)]; omega)]

theorem turns_eq (hk : K0 ≤ k) (hg : Gd W H hs) {q : List Nat} (hq : PathN W H hs a b q) : go_impl_graph_turns k (some (graph W H hs a b)) (zs q) = some (zs (turnsN W a b q)) := by
  have h1 := hq.len1
  have h64 := hq.len64
  unfold go_impl_graph_turns go_impl_graph_turns_T go_impl_graph_turns_L0 turnsN
  generalize hP : (fun i => adj W a b (q.getD i 0) (q.getD (q.length - 1) 0)) = P
  refine iter_path (F := fun rec11 x10 => go_impl_graph_turns_L0_G k (some (graph W H hs a b)) (zs q) rec11 x10) (fun i => (((i + 1 : Nat) : Int), zs (((List.range i).filter P).map (· + 1)))) (q.length - 2) rfl (by unfold K0 at hk; omega) (fun i hi rec => ?_) (fun rec => ?_)
  · unfold go_impl_graph_turns_L0_G
    have e1 : decide (((i + 1 + 1 : Nat) : Int) < (q.length : Int)) = true := by rw [decide_eq_true_eq]; omega
    have hlen := turns_len P i
    have hPi : P i = adj W a b (q.getD i 0) (q.getD (q.length - 1) 0) := by rw [← hP]
    simp only [zs_length, wsucc (show i + 1 < 9223372036854775807 by omega), e1, if_true, wpred (show i + 1 < 9223372036854775807 by omega) (Nat.succ_pos i), Nat.add_sub_cancel, inb_lt (show i < q.length by omega), wpred (show q.length < 9223372036854775807 by omega) h1, inb_lt (show q.length - 1 < q.length by omega), Int.toNat_natCast, zs_getD, leapsW_eq hk hg (hq.hasJ (show i < q.length by omega)) (hq.hasJ (show q.length - 1 < q.length by omega)), Option.bind_some, ← hPi, List.length_singleton, lim_le (show (((List.range i).filter P).map (· + 1)).length + 1 ≤ 1099511627776 by omega), turnsN_succ]
    cases P i
    · simp
    · simp only [if_true, zs_append]
      rfl
  · unfold go_impl_graph_turns_L0_G
    rw [if_neg (by simp only [zs_length, decide_eq_true_eq]; rw [wsucc (by omega)]; omega)]

theorem turnsN_mem {q : List Nat} {t : Nat} (h : t ∈ turnsN W a b q) : 1 ≤ t ∧ t + 1 < q.length ∧ adj W a b (q.getD (t - 1) 0) (q.getD (q.length - 1) 0) = true := by
  simp only [turnsN, List.mem_map, List.mem_filter, List.mem_range] at h
  obtain ⟨i, ⟨h1, h2⟩, rfl⟩ := h
  exact ⟨by omega, by omega, by rw [Nat.add_sub_cancel]; exact h2⟩

theorem tailN_path {q : List Nat} (hq : PathN W H hs a b q) {t : Nat} (h : t ∈ turnsN W a b q) : PathN W H hs a b (tailN q t) := by
  obtain ⟨h1, h2, h3⟩ := turnsN_mem h
  refine ⟨by rw [tailN_length]; exact hq.len1, by rw [tailN_length]; exact hq.len64, fun c hc => ?_, fun i hi => ?_⟩
  · unfold tailN at hc
    rcases List.mem_append.1 hc with h | h
    · exact hq.has c (List.mem_of_mem_take h)
    · exact hq.has c (List.mem_of_mem_drop (List.mem_reverse.1 h))
  · rw [tailN_length] at hi
    rw [tailN_getD q (by omega) (by omega), tailN_getD q (by omega) hi]
    by_cases e1 : i + 1 < t
    · rw [if_pos (by omega), if_pos e1]
      exact hq.adj i hi
    · by_cases e2 : i < t
      · rw [if_pos e2, if_neg e1, show q.length - 1 - (i + 1 - t) = q.length - 1 by omega, show i = t - 1 by omega]
        exact h3
      · rw [if_neg e2, if_neg e1, adj_comm]
        have := hq.adj (q.length - 1 - (i + 1 - t)) (by omega)
        rw [show q.length - 1 - (i + 1 - t) + 1 = q.length - 1 - (i - t) by omega] at this
        exact this

/-! ### levels -/

def nxt (W a b : Nat) (q : List Nat) : List (List Nat) := (turnsN W a b q).map (tailN q)
theorem nxt_path {q p : List Nat} (hq : PathN W H hs a b q) (h : p ∈ nxt W a b q) : PathN W H hs a b p := by
  obtain ⟨t, ht, rfl⟩ := List.mem_map.1 h
  exact tailN_path hq ht
theorem nxt_len {q : List Nat} (hq : PathN W H hs a b q) : (nxt W a b q).length ≤ 62 := by
  have := turns_len (fun i => adj W a b (q.getD i 0) (q.getD (q.length - 1) 0)) (q.length - 2)
  have h64 := hq.len64
  unfold nxt turnsN
  rw [List.length_map]
  omega

def dig (W a b : Nat) : Nat → List Nat → Option (List Nat)
  | 0, q => if closedB W a b q = true then some q else none
  | t + 1, q => (nxt W a b q).findSome? (dig W a b t)
def lv (W a b : Nat) : Nat → List (List Nat) → List (List Nat)
  | 0, l => l
  | t + 1, l => (lv W a b t l).flatMap (nxt W a b)

theorem findSome_flatMap {α β : Type} (f : α → List β) {γ : Type} (g : β → Option γ) : ∀ l : List α, (l.flatMap f).findSome? g = l.findSome? fun x => (f x).findSome? g
  | [] => rfl
  | x :: l => by
    rw [List.flatMap_cons, List.findSome?_append, findSome_flatMap f g l, List.findSome?_cons]
    cases (f x).findSome? g <;> rfl
theorem find_some {α : Type} (p : α → Bool) : ∀ l : List α, l.find? p = l.findSome? fun x => if p x = true then some x else none
  | [] => rfl
  | x :: l => by
    rw [List.find?_cons, List.findSome?_cons, find_some p l]
    cases p x <;> rfl

theorem dig_lv (s : Nat) : ∀ (t : Nat) (l : List (List Nat)), (lv W a b t l).findSome? (dig W a b s) = l.findSome? (dig W a b (t + s))
  | 0, l => by rw [Nat.zero_add]; rfl
  | t + 1, l => by
    rw [lv, findSome_flatMap]
    have := dig_lv (s + 1) t l
    rw [show t + 1 + s = t + (s + 1) by omega, ← this]
    rfl
theorem lv_find (t : Nat) (q : List Nat) : (lv W a b t [q]).find? (closedB W a b) = dig W a b t q := by
  rw [find_some]
  have := dig_lv (W := W) (a := a) (b := b) 0 t [q]
  rw [List.findSome?_cons, List.findSome?_nil] at this
  refine Eq.trans this ?_
  rw [Nat.add_zero]
  cases dig W a b t q <;> rfl

theorem lv_path {q : List Nat} (hq : PathN W H hs a b q) : ∀ t, ∀ p ∈ lv W a b t [q], PathN W H hs a b p
  | 0, p, h => by rw [List.mem_singleton.1 h]; exact hq
  | t + 1, p, h => by
    obtain ⟨r, hr, hp⟩ := List.mem_flatMap.1 h
    exact nxt_path (lv_path hq t r hr) hp
theorem flat_len {l : List (List Nat)} (h : ∀ p ∈ l, PathN W H hs a b p) : (l.flatMap (nxt W a b)).length ≤ 62 * l.length := by
  induction l with
  | nil => simp
  | cons x l ih =>
    rw [List.flatMap_cons, List.length_append, List.length_cons]
    have := nxt_len (h x (List.mem_cons_self ..))
    have := ih fun p hp => h p (List.mem_cons_of_mem _ hp)
    omega
theorem lv_len {q : List Nat} (hq : PathN W H hs a b q) : ∀ t, t ≤ 3 → (lv W a b t [q]).length ≤ 238328
  | 0, _ => by simp [lv]
  | 1, _ => by have := flat_len (l := [q]) (lv_path hq 0); simp only [lv, List.length_singleton] at this ⊢; omega
  | 2, _ => by
    have h1 := flat_len (l := [q]) (lv_path hq 0)
    have h2 := flat_len (lv_path hq 1)
    simp only [lv, List.length_singleton] at h1 h2 ⊢
    omega
  | 3, _ => by
    have h1 := flat_len (l := [q]) (lv_path hq 0)
    have h2 := flat_len (lv_path hq 1)
    have h3 := flat_len (lv_path hq 2)
    simp only [lv, List.length_singleton] at h1 h2 h3 ⊢
    omega
theorem dig_path {q l : List Nat} : ∀ t, PathN W H hs a b q → dig W a b t q = some l → PathN W H hs a b l
  | 0, hq, h => by
    unfold dig at h
    split at h
    · rw [← Option.some.inj h]; exact hq
    · cases h
  | t + 1, hq, h => by
    obtain ⟨p, hp, h⟩ := List.exists_of_findSome?_eq_some h
    exact dig_path t (nxt_path hq hp) h

theorem findSome_congr_idx {α β γ : Type} (l : List α) (g : α → β) (f : β → Option γ) : (l.map g).findSome? f = l.findSome? fun x => f (g x) := by
  induction l with
  | nil => rfl
  | cons x l ih => rw [List.map_cons, List.findSome?_cons, List.findSome?_cons, ih]

theorem range_findSome {β : Type} (l : List Nat) (f : Nat → Option β) : (List.range l.length).findSome? (fun i => f (l.getD i 0)) = l.findSome? f := by
  have e : (List.range l.length).map (fun i => l.getD i 0) = l := ext_getD (by simp) fun i hi => by
    rw [List.length_map, List.length_range] at hi
    rw [List.getD_eq_getElem?_getD, List.getElem?_map, List.getElem?_range hi]
    rfl
  conv => rhs; rw [← e]
  rw [findSome_congr_idx]

theorem blClose_eq (hk : K0 ≤ k) (hg : Gd W H hs) : ∀ (t : Nat) (q : List Nat), PathN W H hs a b q → t ≤ 3 → ∀ m, t < m → ∃ r, go_spec_blClose_r k m (bd W H hs) (ld a b) (zs q) (t : Int) = some r ∧ r.2.1 = (dig W a b t q).isSome ∧ ∀ l, dig W a b t q = some l → r.1 = zs l := by
  intro t
  induction t with
  | zero =>
    intro q hq _ m hm
    obtain ⟨m, rfl⟩ : ∃ n, m = n + 1 := ⟨m - 1, by omega⟩
    refine ⟨(zs q, (closedB W a b q, ())), ?_, ?_, fun l hl => ?_⟩
    · unfold go_spec_blClose_r go_spec_blClose_b go_spec_blClose_T
      rw [if_pos (by decide), blClosed_eq hg hq]
      rfl
    · unfold dig
      cases closedB W a b q <;> rfl
    · unfold dig at hl
      split at hl
      · rw [← Option.some.inj hl]
      · cases hl
  | succ t ih =>
    intro q hq ht m hm
    obtain ⟨m, rfl⟩ : ∃ n, m = n + 1 := ⟨m - 1, by omega⟩
    have h64 := hq.len64
    have hlen := turns_len (fun i => adj W a b (q.getD i 0) (q.getD (q.length - 1) 0)) (q.length - 2)
    have hlen : (turnsN W a b q).length ≤ q.length - 2 := hlen
    refine ⟨match dig W a b (t + 1) q with | some l => (zs l, (true, ())) | none => ([], (false, ())), ?_, ?_, fun l hl => ?_⟩
    · unfold go_spec_blClose_r go_spec_blClose_b go_spec_blClose_T
      rw [if_neg (by simp only [decide_eq_true_eq]; omega), blTurns_eq hk hg hq]
      simp only [Option.bind_some]
      unfold go_spec_blClose_L0
      have := iter_some (F := fun rec8 x7 => go_spec_blClose_L0_G (go_spec_blClose_r k m) k (bd W H hs) (ld a b) (zs q) ((t + 1 : Nat) : Int) (zs (turnsN W a b q)) rec8 x7) (fun i => (i : Int)) (turnsN W a b q).length (fun i => dig W a b t (tailN q ((turnsN W a b q).getD i 0))) (yes := fun l => some (zs l, (true, ()))) (no := some ([], (false, ()))) (m := k) (x0 := (0 : Int)) rfl (by unfold K0 at hk; omega)
        (fun i hi rec => by
          have hmem : (turnsN W a b q).getD i 0 ∈ turnsN W a b q := by
            rw [List.getD_eq_getElem?_getD, List.getElem?_eq_getElem hi]
            exact List.getElem_mem hi
          have htl := turnsN_mem hmem
          obtain ⟨r, hr1, hr2, hr3⟩ := ih (tailN q ((turnsN W a b q).getD i 0)) (tailN_path hq hmem) (by omega) m (by omega)
          unfold go_spec_blClose_L0_G
          have e1 : decide ((i : Int) < ((turnsN W a b q).length : Int)) = true := by simpa using hi
          simp only [zs_length, e1, inb_lt hi, if_true, Int.toNat_natCast, zs_getD, blTurn_eq hk (show (turnsN W a b q).getD i 0 < q.length by omega) (show q.length ≤ 1000 by omega), Option.bind_some, wpred (show t + 1 < 9223372036854775807 by omega) (Nat.succ_pos t), Nat.add_sub_cancel, hr1, hr2, wsucc (show i < 9223372036854775807 by omega)]
          cases hd : dig W a b t (tailN q ((turnsN W a b q).getD i 0)) with
          | none => simp
          | some l => simp [hr3 l hd])
        (fun rec => by
          unfold go_spec_blClose_L0_G
          rw [if_neg (by simp)])
      refine Eq.trans this ?_
      rw [range_findSome (turnsN W a b q) (fun x => dig W a b t (tailN q x)), ← findSome_congr_idx (turnsN W a b q) (tailN q) (dig W a b t)]
      show _ = some (match (nxt W a b q).findSome? (dig W a b t) with | some l => (zs l, (true, ())) | none => ([], (false, ())))
      unfold nxt
      cases ((turnsN W a b q).map (tailN q)).findSome? (dig W a b t) <;> rfl
    · cases dig W a b (t + 1) q <;> rfl
    · rw [hl]

/-- The first closed walk of so few turns as can be. -/
def closeN (W a b : Nat) (q : List Nat) (most : Nat) : Option (List Nat) := (List.range (most + 1)).findSome? fun t => dig W a b t q

theorem specClose (hk : K0 ≤ k) (hg : Gd W H hs) {q : List Nat} (hq : PathN W H hs a b q) {most : Nat} (hm : most ≤ 3) :
    go_spec_CloseByTurns_L0 k (bd W H hs) (ld a b) (zs q) (most : Int) (0 : Int) = some (match closeN W a b q most with | some l => (zs l, (true, ())) | none => ([], (false, ()))) := by
  unfold go_spec_CloseByTurns_L0
  have := iter_some (F := fun rec8 x7 => go_spec_CloseByTurns_L0_G k (bd W H hs) (ld a b) (zs q) (most : Int) rec8 x7) (fun t => (t : Int)) (most + 1) (fun t => dig W a b t q) (yes := fun l => some (zs l, (true, ()))) (no := some ([], (false, ()))) (m := k) (x0 := (0 : Int)) rfl (by unfold K0 at hk; omega)
    (fun t ht rec => by
      obtain ⟨r, hr1, hr2, hr3⟩ := blClose_eq (k := k) hk hg t q hq (by omega) k (by unfold K0 at hk; omega)
      unfold go_spec_CloseByTurns_L0_G go_spec_blClose
      have e1 : decide ((t : Int) ≤ (most : Int)) = true := by rw [decide_eq_true_eq]; omega
      simp only [e1, if_true, hr1, Option.bind_some, hr2, wsucc (show t < 9223372036854775807 by omega)]
      cases hd : dig W a b t q with
      | none => simp
      | some l =>
        have := (dig_path t hq hd).len64
        simp only [Option.isSome_some, if_true, hr3 l hd, l1Own_eq (show (zs l).length ≤ 1099511627776 by rw [zs_length]; omega), Option.bind_some])
    (fun rec => by
      unfold go_spec_CloseByTurns_L0_G
      rw [if_neg (by simp only [decide_eq_true_eq]; omega)])
  refine Eq.trans this ?_
  unfold closeN
  cases (List.range (most + 1)).findSome? (fun t => dig W a b t q) <;> rfl

theorem map_getD {l : List (List Nat)} {i : Nat} {x : List Nat} (h : l[i]? = some x) : (l.map zs).getD i [] = zs x := by
  rw [List.getD_eq_getElem?_getD, List.getElem?_map, h]
  rfl

theorem nextLevel (hk : K0 ≤ k) (hg : Gd W H hs) {q' : List Int} {most t : Int} {lev : List (List Nat)} (hlev : ∀ p ∈ lev, PathN W H hs a b p) (hll : lev.length ≤ 238328) (r1 : Option GT × (Bool × Unit)) (hr : r1.1 = some (graph W H hs a b)) (rec111 : Int × List (List Int) → Option (List Int × (Bool × Unit))) :
    go_impl_CloseByTurns_L2 k (bd W H hs) (ld a b) q' most rec111 r1 (t, lev.map zs) ((0 : Int), []) = rec111 (IntKind.i64.wrap (t + 1), (lev.flatMap (nxt W a b)).map zs) := by
  unfold go_impl_CloseByTurns_L2
  refine iter_path (F := fun rec145 x144 => go_impl_CloseByTurns_L2_G k (bd W H hs) (ld a b) q' most r1 (t, lev.map zs) (fun c0 c1 y => go_impl_CloseByTurns_L3 k (bd W H hs) (ld a b) q' most rec111 rec145 r1 (t, lev.map zs) c0 c1 y) rec111 rec145 x144) (fun i => ((i : Int), ((lev.take i).flatMap (nxt W a b)).map zs)) lev.length rfl (by unfold K0 at hk; omega) (fun i hi rec => ?_) (fun rec => ?_)
  · unfold go_impl_CloseByTurns_L2_G
    have e1 : decide ((i : Int) < ((lev.map zs).length : Int)) = true := by rw [List.length_map, decide_eq_true_eq]; omega
    have hx : lev[i]? = some lev[i] := List.getElem?_eq_getElem hi
    generalize hxe : lev[i] = x at hx
    have hxp : PathN W H hs a b x := hlev x (by rw [← hxe]; exact List.getElem_mem hi)
    have hx64 := hxp.len64
    have hacc : (lev.take i).length ≤ 238328 := by rw [List.length_take]; omega
    have hacc2 := flat_len (l := lev.take i) (fun p hp => hlev p (List.mem_of_mem_take hp))
    have htl : (turnsN W a b x).length ≤ x.length - 2 := turns_len (fun i => adj W a b (x.getD i 0) (x.getD (x.length - 1) 0)) (x.length - 2)
    have e2 : (lev.take (i + 1)).flatMap (nxt W a b) = (lev.take i).flatMap (nxt W a b) ++ nxt W a b x := by
      rw [List.take_succ_eq_append_getElem hi, hxe, List.flatMap_append]
      simp
    rw [e2]
    simp only [e1, if_true, inb_lt (show i < (lev.map zs).length by rw [List.length_map]; exact hi), Int.toNat_natCast, map_getD hx, hr, turns_eq hk hg hxp, Option.bind_some]
    unfold go_impl_CloseByTurns_L3
    refine iter_path (F := fun rec154 x153 => go_impl_CloseByTurns_L3_G k (bd W H hs) (ld a b) q' most r1 (t, lev.map zs) ((i : Int), ((lev.take i).flatMap (nxt W a b)).map zs) (zs (turnsN W a b x)) rec111 rec rec154 x153) (fun j => ((j : Int), ((lev.take i).flatMap (nxt W a b)).map zs ++ (((turnsN W a b x).take j).map (tailN x)).map zs)) (turnsN W a b x).length (by simp) (by unfold K0 at hk; omega) (fun j hj rec154 => ?_) (fun rec154 => ?_)
    · unfold go_impl_CloseByTurns_L3_G
      have e3 : decide ((j : Int) < ((turnsN W a b x).length : Int)) = true := by rw [decide_eq_true_eq]; omega
      have hmem : (turnsN W a b x).getD j 0 ∈ turnsN W a b x := by
        rw [List.getD_eq_getElem?_getD, List.getElem?_eq_getElem hj]
        exact List.getElem_mem hj
      have hb := turnsN_mem hmem
      have e4 : (turnsN W a b x).take (j + 1) = (turnsN W a b x).take j ++ [(turnsN W a b x).getD j 0] := by
        rw [List.take_succ_eq_append_getElem hj, List.getD_eq_getElem?_getD, List.getElem?_eq_getElem hj]
        rfl
      have hl : (((lev.take i).flatMap (nxt W a b)).map zs ++ (((turnsN W a b x).take j).map (tailN x)).map zs).length + 1 ≤ 1099511627776 := by
        simp only [List.length_append, List.length_map, List.length_take]
        omega
      rw [e4]
      simp only [zs_length, e3, if_true, inb_lt hj, Int.toNat_natCast, zs_getD, map_getD hx, tail_eq hk (show (turnsN W a b x).getD j 0 < x.length by omega) (show x.length ≤ 1000 by omega), Option.bind_some, List.length_singleton, lim_le hl, wsucc (show j < 9223372036854775807 by omega), List.map_append, List.map_cons, List.map_nil, List.append_assoc]
    · unfold go_impl_CloseByTurns_L3_G
      have e3 : decide (((turnsN W a b x).length : Int) < ((turnsN W a b x).length : Int)) = false := by simp
      simp only [zs_length, e3, Bool.false_eq_true, if_false, wsucc (show i < 9223372036854775807 by omega), List.take_length, List.map_append]
      rfl
  · unfold go_impl_CloseByTurns_L2_G
    have e1 : decide ((lev.length : Int) < ((lev.map zs).length : Int)) = false := by rw [List.length_map]; simp
    simp only [e1, Bool.false_eq_true, if_false, List.take_length]

theorem implClose (hk : K0 ≤ k) (hg : Gd W H hs) {q : List Nat} (hq : PathN W H hs a b q) {most : Nat} (hm : most ≤ 3) (r1 : Option GT × (Bool × Unit)) (hr : r1.1 = some (graph W H hs a b)) :
    go_impl_CloseByTurns_L0 k (bd W H hs) (ld a b) (zs q) (most : Int) r1 ((0 : Int), [zs q]) = some (match closeN W a b q most with | some l => (zs l, (true, ())) | none => ([], (false, ()))) := by
  have one : ∀ (rec : Int × List (List Int) → Option (List Int × (Bool × Unit))) (t : Nat), t ≤ 3 → go_impl_CloseByTurns_L0_G k (bd W H hs) (ld a b) (zs q) (most : Int) r1 (fun c0 y => go_impl_CloseByTurns_L1 k (bd W H hs) (ld a b) (zs q) (most : Int) rec r1 c0 y) rec ((t : Int), (lv W a b t [q]).map zs) = match dig W a b t q with | some l => some (zs l, (true, ())) | none => if t = most then some ([], (false, ())) else rec (((t + 1 : Nat) : Int), (lv W a b (t + 1) [q]).map zs) := fun rec t ht => by
    have hlp := lv_path hq t
    have hll := lv_len hq t ht
    unfold go_impl_CloseByTurns_L0_G
    simp only
    unfold go_impl_CloseByTurns_L1
    have := iter_find1 (F := fun rec117 x116 => go_impl_CloseByTurns_L1_G k (bd W H hs) (ld a b) (zs q) (most : Int) r1 ((t : Int), (lv W a b t [q]).map zs) (fun c0 y => go_impl_CloseByTurns_L2 k (bd W H hs) (ld a b) (zs q) (most : Int) rec r1 c0 y) rec rec117 x116) (fun i => (i : Int)) (lv W a b t [q]) (closedB W a b) (yes := fun l => some (zs l, (true, ()))) (no := if t = most then some ([], (false, ())) else rec (((t + 1 : Nat) : Int), (lv W a b (t + 1) [q]).map zs)) (m := k) (x0 := (0 : Int)) rfl (by unfold K0 at hk; omega)
      (fun i x hx rec117 => by
        have hi : i < (lv W a b t [q]).length := length_lt hx
        have hxp : PathN W H hs a b x := hlp x (List.mem_of_getElem? hx)
        have hx64 := hxp.len64
        unfold go_impl_CloseByTurns_L1_G
        have e1 : decide ((i : Int) < (((lv W a b t [q]).map zs).length : Int)) = true := by rw [List.length_map, decide_eq_true_eq]; omega
        have c1 : (decide (3 ≤ x.length) && adj W a b (x.getD (x.length - 1) 0) (x.getD 0 0)) = closedB W a b x := rfl
        simp only [e1, if_true, inb_lt (show i < ((lv W a b t [q]).map zs).length by rw [List.length_map]; exact hi), Int.toNat_natCast, map_getD hx, hr, closes_eq hk hg hxp, c1, Option.bind_some, CloneW_eq (show (zs x).length ≤ 1099511627776 by rw [zs_length]; omega), wsucc (show i < 9223372036854775807 by omega)])
      (fun rec117 => by
        unfold go_impl_CloseByTurns_L1_G
        have e1 : decide (((lv W a b t [q]).length : Int) < (((lv W a b t [q]).map zs).length : Int)) = false := by rw [List.length_map]; simp
        have e2 : decide ((t : Int) = (most : Int)) = decide (t = most) := by rw [decide_eq_decide]; omega
        simp only [e1, Bool.false_eq_true, if_false, e2, nextLevel hk hg hlp hll r1 hr, wsucc (show t < 9223372036854775807 by omega), decide_eq_true_eq]
        rfl)
    refine Eq.trans this ?_
    rw [lv_find]
    cases dig W a b t q <;> rfl
  unfold go_impl_CloseByTurns_L0
  have := iter_some (F := fun rec111 x110 => go_impl_CloseByTurns_L0_G k (bd W H hs) (ld a b) (zs q) (most : Int) r1 (fun c0 y => go_impl_CloseByTurns_L1 k (bd W H hs) (ld a b) (zs q) (most : Int) rec111 r1 c0 y) rec111 x110) (fun t => ((t : Int), (lv W a b t [q]).map zs)) most (fun t => dig W a b t q) (yes := fun l => some (zs l, (true, ()))) (no := match dig W a b most q with | some l => some (zs l, (true, ())) | none => some ([], (false, ()))) (m := k) (x0 := ((0 : Int), [zs q])) rfl (by unfold K0 at hk; omega)
    (fun t ht rec => by
      simp only [one rec t (by omega)]
      rw [if_neg (by omega)]
      cases dig W a b t q <;> rfl)
    (fun rec => by
      simp only [one rec most hm, if_true])
  refine Eq.trans this ?_
  unfold closeN
  rw [List.range_succ, List.findSome?_append]
  cases (List.range most).findSome? (fun t => dig W a b t q) with
  | some l => rfl
  | none =>
    simp only [Option.none_or, List.findSome?_cons, List.findSome?_nil]
    cases dig W a b most q <;> rfl

theorem closeN_len {q l : List Nat} (hq : PathN W H hs a b q) {most : Nat} (h : closeN W a b q most = some l) : l.length ≤ 64 := by
  obtain ⟨t, _, h⟩ := List.exists_of_findSome?_eq_some h
  exact (dig_path t hq h).len64

end

theorem CloseByTurns_same (hk : K0 ≤ k) (B : BT) (L : LT) (p' : List Int) (most : Int) : ∃ r, go_spec_CloseByTurns k B L p' most = some r ∧ go_impl_CloseByTurns k B L p' most = some r ∧ r.1.length ≤ 64 := by
  unfold go_spec_CloseByTurns go_spec_CloseByTurns_T go_impl_CloseByTurns go_impl_CloseByTurns_T
  rcases two_casesJ hk B L with ⟨h1, h2⟩ | ⟨h1, W, H, a, b, hs, rfl, rfl, hg, hG, hL, hab, hb1, hb5, h2⟩
  · rw [blWalk_none h1, walkGraph_none h2]; exact ⟨_, rfl, rfl, by simp⟩
  · rw [blWalk_eq hk hg h1, walkGraph_eq hk hg h2]
    simp only [Option.bind_some]
    cases hp : walkB W H hs a b p' with
    | false => exact ⟨_, rfl, rfl, by simp⟩
    | true =>
      obtain ⟨q, rfl, hqw⟩ := walkB_walk hp
      have hq64 := hqw.len64
      simp only [if_true, Bool.not_true, Bool.not_false, Bool.false_or, l1In_eq, Option.bind_some]
      by_cases hm : 0 ≤ most ∧ most ≤ 3
      · obtain ⟨n, rfl⟩ : ∃ n : Nat, most = (n : Int) := ⟨most.toNat, by omega⟩
        rw [if_neg (by simp; omega), if_neg (by simp; omega), CloneW_eq (show (zs q).length ≤ 1099511627776 by rw [zs_length]; omega)]
        simp only [Option.bind_some]
        rw [specClose hk hg hqw.toPathN (by omega), implClose hk hg hqw.toPathN (by omega) _ rfl]
        refine ⟨_, rfl, rfl, ?_⟩
        cases h : closeN W a b q n with
        | none => simp
        | some l => simpa using closeN_len hqw.toPathN h
      · rw [if_pos (by simp; omega), if_pos (by simp; omega)]
        exact ⟨_, rfl, rfl, by simp⟩

end Go.Lg
