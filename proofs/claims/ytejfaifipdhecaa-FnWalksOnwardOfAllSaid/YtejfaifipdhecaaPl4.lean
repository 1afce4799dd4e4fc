/-
  Plain law: cells and leaps.
-/
import Derived.Test.YtejfaifipdhecaaPl3
set_option linter.unusedVariables false
set_option linter.unusedSimpArgs false
namespace Go.Lg
open Go.RowKit Go.IntWalk

variable {k : Nat}

/-- The board has this cell. -/
def hasN (W H : Nat) (hs : List Nat) (c : Nat) : Bool := decide (c < W * H) && !decide (c ∈ hs)
def hasI (W H : Nat) (hs : List Nat) (c : Int) : Bool := decide (0 ≤ c) && hasN W H hs c.toNat
def cells (W H : Nat) (hs : List Nat) : List Nat := (List.range (W * H)).filter fun c => !decide (c ∈ hs)

theorem hasI_nat (W H : Nat) (hs : List Nat) (c : Nat) : hasI W H hs (c : Int) = hasN W H hs c := by simp [hasI]

theorem mem_cells {W H : Nat} {hs : List Nat} {c : Nat} : c ∈ cells W H hs ↔ hasN W H hs c = true := by
  simp [cells, hasN]

theorem cells_length {W H : Nat} {hs : List Nat} : (cells W H hs).length ≤ W * H := by
  have := List.length_filter_le (fun c => !decide (c ∈ hs)) (List.range (W * H))
  simpa [cells] using this

theorem Contains_eq {hs : List Nat} {c : Nat} (hk : K0 ≤ k) (hl : hs.length ≤ 1048576) : go_slices_Contains_int k (zs hs) (c : Int) = some (decide (c ∈ hs)) := by
  unfold go_slices_Contains_int go_slices_Index_int go_slices_Index_int_T go_slices_Index_int_L0
  have := iter_find (F := fun rec4 x3 => go_slices_Index_int_L0_G k (zs hs) (c : Int) rec4 x3) (fun i => (i : Int)) hs
    (fun x => decide (c = x)) (yes := fun i _ => some (i : Int)) (no := some (-1)) (m := k) rfl (by unfold K0 at hk; omega)
    (fun i x hx rec => by
      have hi := length_lt hx
      unfold go_slices_Index_int_L0_G
      rw [if_pos (by simpa using hi)]
      simp only [inb_lt (show i < (zs hs).length by simpa using hi), if_true, Int.toNat_natCast, wsucc (show i < 9223372036854775807 by omega), zs_get hx]
      by_cases h : c = x
      · subst h; simp
      · rw [if_neg (by simp; omega), if_neg (by simpa using h)])
    (fun rec => by
      unfold go_slices_Index_int_L0_G
      rw [if_neg (by simp)])
  rw [show (fun y => iter k (fun rec4 x3 => go_slices_Index_int_L0_G k (zs hs) (c : Int) rec4 x3) y) 0 = _ from this]
  cases hfi : hs.findIdx? (fun x => decide (c = x)) with
  | none =>
    rw [List.findIdx?_eq_none_iff] at hfi
    have : c ∉ hs := fun h => by have := hfi c h; simp at this
    simp [this]
  | some i =>
    rw [List.findIdx?_eq_some_iff_getElem] at hfi
    obtain ⟨hi, hp, _⟩ := hfi
    have : c ∈ hs := by
      have e : c = hs[i] := by simpa using hp
      rw [e]; exact List.getElem_mem hi
    simp [List.getElem?_eq_getElem hi, this]

theorem has_eq {W H : Nat} {hs : List Nat} (hk : K0 ≤ k) (hg : Gd W H hs) (c : Int) : go_impl_Board_has k (bd W H hs) c = some (hasI W H hs c) := by
  have h64 := hg.n64
  have hfew := hg.few
  unfold go_impl_Board_has
  simp only [wmul (show W ≤ 100 by have := hg.w8; omega) (show H ≤ 100 by have := hg.h8; omega)]
  by_cases h : 0 ≤ c ∧ c < ((W * H : Nat) : Int)
  · obtain ⟨n, rfl⟩ := Int.eq_ofNat_of_zero_le h.1
    rw [Contains_eq hk (by omega), hasI_nat]
    have : n < W * H := by omega
    have h2 : decide ((n : Int) < ((W * H : Nat) : Int)) = true := by simp only [decide_eq_true_eq]; omega
    simp only [h2, hasN, this]
    simp
  · have : (decide (0 ≤ c) && decide (c < ((W * H : Nat) : Int))) = false := by
      by_cases h0 : 0 ≤ c
      · simp [h0]; omega
      · simp [h0]
    simp only [this, Bool.false_eq_true, if_false, Option.bind_some, Bool.false_and]
    congr 1
    unfold hasI hasN
    by_cases h0 : 0 ≤ c
    · have : ¬ c.toNat < W * H := by omega
      simp [this]
    · simp [h0]

theorem l1Has_eq {hs : List Nat} {c : Nat} (hk : K0 ≤ k) (hl : hs.length ≤ 1048576) : go_spec_l1Has k (zs hs) (c : Int) = some (decide (c ∈ hs)) := by
  unfold go_spec_l1Has go_spec_l1Has_T go_spec_l1Has_L0
  have := iter_find (F := fun rec4 x3 => go_spec_l1Has_L0_G k (zs hs) (c : Int) rec4 x3) (fun i => (i : Int)) hs
    (fun x => decide (c = x)) (yes := fun i _ => some true) (no := some false) (m := k) rfl (by unfold K0 at hk; omega)
    (fun i x hx rec => by
      have hi := length_lt hx
      unfold go_spec_l1Has_L0_G
      rw [if_pos (by simpa using hi)]
      simp only [inb_lt (show i < (zs hs).length by simpa using hi), if_true, Int.toNat_natCast, wsucc (show i < 9223372036854775807 by omega), zs_get hx]
      by_cases h : c = x
      · subst h; simp
      · rw [if_neg (by simp; omega), if_neg (by simpa using h)])
    (fun rec => by
      unfold go_spec_l1Has_L0_G
      rw [if_neg (by simp)])
  refine this.trans ?_
  cases hfi : hs.findIdx? (fun x => decide (c = x)) with
  | none =>
    rw [List.findIdx?_eq_none_iff] at hfi
    have : c ∉ hs := fun h => by have := hfi c h; simp at this
    simp [this]
  | some i =>
    rw [List.findIdx?_eq_some_iff_getElem] at hfi
    obtain ⟨hi, hp, _⟩ := hfi
    have : c ∈ hs := by
      have e : c = hs[i] := by simpa using hp
      rw [e]; exact List.getElem_mem hi
    simp [List.getElem?_eq_getElem hi, this]

theorem boHas_eq {W H : Nat} {hs : List Nat} (hk : K0 ≤ k) (hg : Gd W H hs) (c : Int) : go_spec_boHas k (bd W H hs) c = some (hasI W H hs c) := by
  have h64 := hg.n64
  have hfew := hg.few
  unfold go_spec_boHas
  simp only [wmul (show W ≤ 100 by have := hg.w8; omega) (show H ≤ 100 by have := hg.h8; omega), l1In_eq, Option.bind_some]
  rw [w64 (by omega) (by omega)]
  by_cases h : 0 ≤ c ∧ c ≤ ((W * H : Nat) : Int) - 1
  · obtain ⟨n, rfl⟩ := Int.eq_ofNat_of_zero_le h.1
    rw [l1Has_eq hk (by omega), hasI_nat]
    have : n < W * H := by omega
    have h2 : decide ((n : Int) ≤ ((W * H : Nat) : Int) - 1) = true := by simp only [decide_eq_true_eq]; omega
    simp only [h2, hasN, this]
    simp
  · have : (decide (0 ≤ c) && decide (c ≤ ((W * H : Nat) : Int) - 1)) = false := by
      by_cases h0 : 0 ≤ c
      · simp [h0]; omega
      · simp [h0]
    simp only [this, Bool.false_eq_true, if_false, Option.bind_some, Bool.false_and]
    congr 1
    unfold hasI hasN
    by_cases h0 : 0 ≤ c
    · have : ¬ c.toNat < W * H := by omega
      simp [this]
    · simp [h0]

theorem zs_single (i : Nat) : [(i : Int)] = zs [i] := rfl

theorem filter_range_length {n : Nat} (p : Nat → Bool) : ((List.range n).filter p).length ≤ n := by
  have := List.length_filter_le p (List.range n)
  simpa using this

theorem present_eq {W H : Nat} {hs : List Nat} (hk : K0 ≤ k) (hg : Gd W H hs) : go_impl_Board_present k (bd W H hs) = some (zs (cells W H hs)) := by
  have h64 := hg.n64
  have hfew := hg.few
  have hm := wmul (show W ≤ 100 by have := hg.w8; omega) (show H ≤ 100 by have := hg.h8; omega)
  unfold go_impl_Board_present go_impl_Board_present_T go_impl_Board_present_L0
  refine iter_path (F := fun rec11 x10 => go_impl_Board_present_L0_G k (bd W H hs) rec11 x10) (fun i => ((i : Int), zs ((List.range i).filter fun c => !decide (c ∈ hs)))) (W * H) (by simp) (by unfold K0 at hk; omega) (fun i hi rec => ?_) (fun rec => ?_)
  · unfold go_impl_Board_present_L0_G
    have hl := filter_range_length (n := i) fun c => !decide (c ∈ hs)
    simp only [hm]
    rw [if_pos (by simp only [decide_eq_true_eq]; omega), Contains_eq hk (by omega)]
    simp only [Option.bind_some, List.range_succ, List.filter_append, wsucc (show i < 9223372036854775807 by omega)]
    by_cases h : i ∈ hs
    · simp [h]
    · simp only [h, decide_false, Bool.not_false, if_true, zs_length, List.length_singleton]
      rw [if_pos (lim_le (by omega)), zs_single, ← zs_append]
      simp [h]
  · unfold go_impl_Board_present_L0_G
    simp only [hm]
    rw [if_neg (by simp)]
    rfl

theorem boCells_eq {W H : Nat} {hs : List Nat} (hk : K0 ≤ k) (hg : Gd W H hs) : go_spec_boCells k (bd W H hs) = some (zs (cells W H hs)) := by
  have h64 := hg.n64
  have hfew := hg.few
  have hm := wmul (show W ≤ 100 by have := hg.w8; omega) (show H ≤ 100 by have := hg.h8; omega)
  unfold go_spec_boCells go_spec_boCells_T go_spec_boCells_L0
  refine iter_path (F := fun rec11 x10 => go_spec_boCells_L0_G k (bd W H hs) rec11 x10) (fun i => ((i : Int), zs ((List.range i).filter fun c => !decide (c ∈ hs)))) (W * H) (by simp) (by unfold K0 at hk; omega) (fun i hi rec => ?_) (fun rec => ?_)
  · unfold go_spec_boCells_L0_G
    have hl := filter_range_length (n := i) fun c => !decide (c ∈ hs)
    simp only [hm]
    rw [if_pos (by simp only [decide_eq_true_eq]; omega), boHas_eq hk hg, hasI_nat]
    simp only [Option.bind_some, List.range_succ, List.filter_append, wsucc (show i < 9223372036854775807 by omega)]
    by_cases h : i ∈ hs
    · simp [h, hasN]
    · simp only [hasN, hi, h, decide_true, decide_false, Bool.not_false, Bool.and_self, if_true, zs_length, List.length_singleton]
      rw [if_pos (lim_le (by omega)), zs_single, ← zs_append]
      simp [h]
  · unfold go_spec_boCells_L0_G
    simp only [hm]
    rw [if_neg (by simp)]
    rfl

/-! ### leaps -/

def dist1 (x y : Nat) : Nat := (x - y) + (y - x)

def adj (W a b x y : Nat) : Bool := (decide (dist1 (x % W) (y % W) = a) && decide (dist1 (x / W) (y / W) = b)) || (decide (dist1 (x % W) (y % W) = b) && decide (dist1 (x / W) (y / W) = a))

theorem dist1_comm (x y : Nat) : dist1 x y = dist1 y x := by unfold dist1; omega

theorem adj_comm (W a b x y : Nat) : adj W a b x y = adj W a b y x := by unfold adj; rw [dist1_comm (x % W), dist1_comm (x / W)]

theorem l1Abs_eq {x y : Nat} (hx : x ≤ 1000) (hy : y ≤ 1000) : go_spec_l1Abs k (IntKind.i64.wrap ((x : Int) - (y : Int))) = some (dist1 x y : Int) := by
  unfold go_spec_l1Abs go_spec_l1Most dist1
  rw [w64 (n := (x : Int) - y) (by omega) (by omega), w64 (by omega) (by omega)]
  by_cases h : 0 - ((x : Int) - (y : Int)) < (x : Int) - (y : Int)
  · rw [if_pos (by simpa using h)]
    simp only [Option.bind_some]
    congr 1
    omega
  · rw [if_neg (by simpa using h)]
    simp only [Option.bind_some]
    congr 1
    omega

theorem boIs_eq {W H a b x y : Nat} {hs : List Nat} (hg : Gd W H hs) (hx : x ≤ 1000) (hy : y ≤ 1000) : go_spec_boIs k (bd W H hs) (ld a b) (x : Int) (y : Int) = some (adj W a b x y) := by
  have hW : decide ((W : Int) ≠ 0) = true := by have := hg.w1; simp; omega
  have e : ∀ n : Nat, n ≤ 1000 → n % W ≤ 1000 ∧ n / W ≤ 1000 := fun n hn => by
    have := hg.w1
    exact ⟨by have := Nat.mod_lt n this; have := hg.w8; omega, by have := Nat.div_le_self n W; omega⟩
  unfold go_spec_boIs
  simp only [hW, if_true, tmod_nat, tdiv_nat]
  rw [wnat (show x / W < _ by have := (e x hx).2; omega), wnat (show y / W < _ by have := (e y hy).2; omega), l1Abs_eq (e x hx).1 (e y hy).1, l1Abs_eq (e x hx).2 (e y hy).2]
  simp only [Option.bind_some, adj]
  congr 1
  have q : ∀ m n : Nat, decide ((m : Int) = (n : Int)) = decide (m = n) := fun m n => by
    by_cases h : m = n
    · simp [h]
    · have : ¬ (m : Int) = (n : Int) := by omega
      rw [decide_eq_false this, decide_eq_false h]
  simp only [q]

def leaps (W H : Nat) (hs : List Nat) (a b c : Nat) : List Nat := (cells W H hs).filter fun d => adj W a b c d

theorem boLeaps_eq {W H a b c : Nat} {hs : List Nat} (hk : K0 ≤ k) (hg : Gd W H hs) (hc : c ≤ 1000) : go_spec_boLeaps k (bd W H hs) (ld a b) (c : Int) = some (zs (leaps W H hs a b c)) := by
  have h64 := hg.n64
  have hcl := cells_length (W := W) (H := H) (hs := hs)
  unfold go_spec_boLeaps go_spec_boLeaps_T
  rw [boCells_eq hk hg]
  simp only [Option.bind_some]
  unfold go_spec_boLeaps_L0
  refine iter_path (F := fun rec12 x11 => go_spec_boLeaps_L0_G k (bd W H hs) (ld a b) (c : Int) (zs (cells W H hs)) rec12 x11) (fun i => ((i : Int), zs (((cells W H hs).take i).filter fun d => adj W a b c d))) (cells W H hs).length (by simp) (by unfold K0 at hk; omega) (fun i hi rec => ?_) (fun rec => ?_)
  · unfold go_spec_boLeaps_L0_G
    have hl := List.length_filter_le (fun d => adj W a b c d) ((cells W H hs).take i)
    rw [List.length_take] at hl
    have hget := List.getElem?_eq_getElem hi
    have hx : (cells W H hs)[i] ≤ 1000 := by
      have := mem_cells.1 (List.getElem_mem hi)
      simp [hasN] at this
      omega
    simp only [zs_length, zs_get hget, Int.toNat_natCast]
    rw [if_pos (by simpa using hi), inb_lt hi, boIs_eq hg hc hx]
    simp only [if_true, Option.bind_some, List.take_succ_eq_append_getElem hi, List.filter_append, wsucc (show i < 9223372036854775807 by omega)]
    by_cases h : adj W a b c (cells W H hs)[i] = true
    · simp only [h, if_true, List.length_singleton]
      rw [if_pos (lim_le (by omega)), zs_single, ← zs_append]
      simp [h]
    · simp [h]
  · unfold go_spec_boLeaps_L0_G
    rw [if_neg (by simp)]
    simp [leaps]

end Go.Lg
