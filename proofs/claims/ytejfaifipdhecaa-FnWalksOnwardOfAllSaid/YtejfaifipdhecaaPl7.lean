/-
  Plain law: the graph.
-/
import Derived.Test.YtejfaifipdhecaaPl6
set_option linter.unusedVariables false
set_option linter.unusedSimpArgs false
namespace Go.Lg
open Go.RowKit Go.IntWalk

variable {k : Nat}

abbrev GT : Type := BT × (LT × (List Int × (List (List Int) × Unit)))

/-- The neighbours, cell by cell, of those cells that a test lets in. -/
def nearP (n : Nat) (f : Nat → List Int) (p : Nat → Bool) : List (List Int) := (List.range n).map fun c => if p c = true then f c else []

theorem nearP_length (n : Nat) (f : Nat → List Int) (p : Nat → Bool) : (nearP n f p).length = n := by simp [nearP]

theorem map_range_set {α : Type} (n c : Nat) (f : Nat → α) (v : α) : ((List.range n).map f).set c v = (List.range n).map fun x => if x = c then v else f x := by
  refine List.ext_getElem (by simp) fun i h1 h2 => ?_
  simp only [List.getElem_set, List.getElem_map, List.getElem_range]
  by_cases h : c = i
  · simp [h]
  · have : ¬ i = c := fun e => h e.symm
    simp [h, this]

def near (W H : Nat) (hs : List Nat) (a b : Nat) : List (List Int) := nearP (W * H) (fun c => zs (leaps W H hs a b c)) (hasN W H hs)

def graph (W H : Nat) (hs : List Nat) (a b : Nat) : GT := (bd W H hs, (ld a b, (zs (cells W H hs), (near W H hs a b, ()))))

theorem near_length (W H : Nat) (hs : List Nat) (a b : Nat) : (near W H hs a b).length = W * H := by simp [near, nearP]

theorem near_get {W H a b c : Nat} {hs : List Nat} (h : hasN W H hs c = true) : (near W H hs a b).getD c [] = zs (leaps W H hs a b c) := by
  have hc : c < W * H := by simp [hasN] at h; exact h.1
  simp [near, nearP, List.getD_eq_getElem?_getD, List.getElem?_range hc, h]

theorem pl_get {l : List (Int × Int)} {j : Nat} {p : Int × Int} (h : l[j]? = some p) : (l.map pl).getD j [] = [p.1, p.2] := by
  simp [List.getD_eq_getElem?_getD, h, pl]

theorem graphOf_eq {W H a b : Nat} {hs : List Nat} (hk : K0 ≤ k) (hg : Gd W H hs) (hG : isGood (bd W H hs) = true) (hL : isGoodL (ld a b) = true) (hab : a ≤ b) (hb : b ≤ 5) :
    go_impl_graphOf k (bd W H hs) (ld a b) = some (some (graph W H hs a b), (true, ())) := by
  have h64 := hg.n64
  have hm := wmul (show W ≤ 100 by have := hg.w8; omega) (show H ≤ 100 by have := hg.h8; omega)
  have hW1 := hg.w1
  have hW8 := hg.w8
  have hH8 := hg.h8
  have hcl := cells_length (W := W) (H := H) (hs := hs)
  have hstp := (stp_facts a (by omega) b (by omega)).1
  have hW0 : decide ((W : Int) ≠ 0) = true := by simp; omega
  unfold go_impl_graphOf go_impl_graphOf_T
  simp only [IsBoard_eq hk, IsLeaper_eq, hG, hL, Option.bind_some, Bool.not_true, Bool.not_false, if_true, Bool.or_self, Bool.false_eq_true, if_false, present_eq hk hg, hm]
  rw [if_pos (by simp only [decide_eq_true_eq]; constructor; omega; simp [LIM]; omega)]
  unfold go_impl_graphOf_L0
  refine iter_path (F := fun rec31 x30 => go_impl_graphOf_L0_G k (bd W H hs) (ld a b) (zs (cells W H hs)) (fun c0 c1 y => go_impl_graphOf_L1 k (bd W H hs) (ld a b) rec31 (zs (cells W H hs)) c0 c1 y) rec31 x30)
    (fun i => ((i : Int), nearP (W * H) (fun c => zs (leaps W H hs a b c)) fun c => decide (c ∈ (cells W H hs).take i))) (cells W H hs).length ?_ (by unfold K0 at hk; omega) (fun i hi rec => ?_) (fun rec => ?_)
  · simp only [List.take_zero, Prod.mk.injEq]
    refine ⟨rfl, ?_⟩
    rw [Int.toNat_natCast]
    simp [nearP, List.map_const']
  · unfold go_impl_graphOf_L0_G
    have hget := List.getElem?_eq_getElem hi
    generalize hcc : (cells W H hs)[i] = c at hget
    have hcm : hasN W H hs c = true := mem_cells.1 (List.mem_of_getElem? hget)
    have hcN : c < W * H := by simp [hasN] at hcm; exact hcm.1
    have hcnot : c ∉ (cells W H hs).take i := by
      intro hmem
      obtain ⟨j, hj⟩ := List.getElem?_of_mem hmem
      have hji : j < i := by
        have := length_lt hj
        rw [List.length_take] at this
        omega
      rw [List.getElem?_take_of_lt hji] at hj
      have h1 := List.pairwise_iff_getElem.1 (cells_sorted (W := W) (H := H) (hs := hs)) j i (length_lt hj) hi hji
      rw [List.getElem?_eq_getElem (length_lt hj)] at hj
      have := Option.some.inj hj
      omega
    have htake : (cells W H hs).take (i + 1) = (cells W H hs).take i ++ [c] := by rw [List.take_succ_eq_append_getElem hi, hcc]
    simp only [zs_length, Int.toNat_natCast]
    rw [if_pos (by simpa using hi), inb_lt hi, steps_eq hk]
    simp only [if_true, Option.bind_some]
    unfold go_impl_graphOf_L1
    generalize hN : (nearP (W * H) (fun c => zs (leaps W H hs a b c)) fun c => decide (c ∈ (cells W H hs).take i)) = N
    have hNlen : N.length = W * H := by rw [← hN, nearP_length]
    have hNc : N.getD c [] = [] := by
      rw [← hN]
      simp [nearP, List.getD_eq_getElem?_getD, List.getElem?_range hcN, hcnot]
    have hNset : N.set c [] = N := by
      have : N[c]? = some [] := by
        rw [List.getD_eq_getElem?_getD] at hNc
        have h1 := List.getElem?_eq_getElem (show c < N.length by omega)
        rw [h1] at hNc ⊢
        simpa using hNc
      refine List.ext_getElem? fun i => ?_
      rw [List.getElem?_set]
      by_cases hci : c = i
      · subst hci
        rw [if_pos rfl, if_pos (by omega), this]
      · rw [if_neg hci]
    refine iter_path (F := fun rec40 x39 => go_impl_graphOf_L1_G k (bd W H hs) (ld a b) (zs (cells W H hs)) ((i : Int), N) ((stp a b).map pl) rec rec40 x39)
      (fun j => ((j : Int), N.set c (zs (((stp a b).take j).filterMap (tgt W H hs c))))) (stp a b).length (by simp [hNset]) (by unfold K0 at hk; omega) (fun j hj rec2 => ?_) (fun rec2 => ?_)
    · unfold go_impl_graphOf_L1_G
      have hp := List.getElem?_eq_getElem hj
      generalize hpp : (stp a b)[j] = p at hp
      obtain ⟨x, y⟩ := p
      obtain ⟨hx1, hx2, hy1, hy2, _⟩ := mem_stp.1 (List.mem_of_getElem? hp)
      have htk : (stp a b).take (j + 1) = (stp a b).take j ++ [(x, y)] := by rw [List.take_succ_eq_append_getElem hj, hpp]
      have hcW : c % W < W := Nat.mod_lt _ hW1
      have hcH : c / W < H := Nat.div_lt_of_lt_mul hcN
      have hq0 : (0 : Int) ≤ ((c / W : Nat) : Int) := Int.natCast_nonneg _
      have hr0 : (0 : Int) ≤ ((c % W : Nat) : Int) := Int.natCast_nonneg _
      simp only [List.length_map, Int.toNat_natCast, pl_get hp, zs_get hget, hW0, if_true, tmod_nat, tdiv_nat, wnat (show c / W < 9223372036854775808 by omega), wsucc (show j < 9223372036854775807 by omega)]
      rw [if_pos (by simpa using hj), inb_lt hj, if_pos rfl, show inb 0 ([x, y] : List Int).length = true from rfl, show inb 1 ([x, y] : List Int).length = true from rfl, if_pos rfl, if_pos rfl]
      rw [show ([x, y] : List Int).getD (0 : Int).toNat 0 = x from rfl, show ([x, y] : List Int).getD (1 : Int).toNat 0 = y from rfl]
      rw [w64 (n := ((c % W : Nat) : Int) + x) (by omega) (by omega), w64 (n := ((c / W : Nat) : Int) + y) (by omega) (by omega)]
      have hset : (N.set c (zs (((stp a b).take j).filterMap (tgt W H hs c)))).getD c [] = zs (((stp a b).take j).filterMap (tgt W H hs c)) := by
        rw [List.getD_eq_getElem?_getD, List.getElem?_set_self (by omega)]
        rfl
      have hlen1 : (((stp a b).take j).filterMap (tgt W H hs c)).length ≤ 8 := Nat.le_trans (List.length_filterMap_le _ _) (by rw [List.length_take]; omega)
      by_cases hc : (0 ≤ ((c % W : Nat) : Int) + x ∧ ((c % W : Nat) : Int) + x < W) ∧ (0 ≤ ((c / W : Nat) : Int) + y ∧ ((c / W : Nat) : Int) + y < H)
      · obtain ⟨⟨h1, h2⟩, h3, h4⟩ := hc
        obtain ⟨X, hX⟩ := Int.eq_ofNat_of_zero_le h1
        obtain ⟨Y, hY⟩ := Int.eq_ofNat_of_zero_le h3
        have htgt : tgt W H hs c (x, y) = if hasN W H hs (Y * W + X) = true then some (Y * W + X) else none := by
          unfold tgt
          simp only [hX, hY]
          rw [hX] at h2; rw [hY] at h4
          have e' : ((Y : Int) * (W : Int) + (X : Int)) = ((Y * W + X : Nat) : Int) := by simp
          rw [e', hasI_nat]
          simp only [Int.toNat_natCast, h2, h4, Int.natCast_nonneg, true_and]
        rw [hX, hY] 
        rw [hX] at h2; rw [hY] at h4
        have hXW : X < W := by omega
        have hYH : Y < H := by omega
        have hYW : Y * W ≤ 64 := mul_le_64 (by omega) hW8
        rw [← Int.natCast_mul, wnat (show Y * W < 9223372036854775808 by omega), ← Int.natCast_add, wnat (show Y * W + X < 9223372036854775808 by omega)]
        simp only [Int.natCast_nonneg, h2, h4, decide_true, Bool.and_self, if_true, has_eq hk hg, hasI_nat, Option.bind_some, Bool.true_and]
        rw [htk, List.filterMap_append]
        simp only [List.filterMap_cons, List.filterMap_nil, htgt]
        by_cases hh : hasN W H hs (Y * W + X) = true
        · simp only [hh, if_true, List.length_set, hNlen, inb_lt hcN, hset]
          rw [if_pos (lim_le (by simp; omega)), zs_append, List.set_set]
          rfl
        · simp only [hh, if_false, List.append_nil, Bool.false_eq_true]
      · have hf : ((((decide (0 ≤ ((c % W : Nat) : Int) + x)) && decide (((c % W : Nat) : Int) + x < (W : Int))) && decide (0 ≤ ((c / W : Nat) : Int) + y)) && decide (((c / W : Nat) : Int) + y < (H : Int))) = false := by
          rw [← Bool.not_eq_true]
          simp only [Bool.and_eq_true, decide_eq_true_eq]
          intro h
          exact hc ⟨h.1.1, h.1.2, h.2⟩
        have htgt : tgt W H hs c (x, y) = none := by
          unfold tgt
          simp only
          rw [if_neg fun h => hc ⟨⟨h.1, h.2.1⟩, h.2.2.1, h.2.2.2.1⟩]
        simp only [hf, Bool.false_eq_true, if_false, Option.bind_some, Bool.false_and]
        rw [htk, List.filterMap_append]
        simp only [List.filterMap_cons, List.filterMap_nil, htgt, List.append_nil]
    · unfold go_impl_graphOf_L1_G
      simp only [List.length_map, zs_get hget, Int.toNat_natCast, List.take_length, List.length_set, hNlen, inb_lt hcN]
      rw [if_neg (by simp), if_pos trivial]
      rw [List.getD_eq_getElem?_getD, List.getElem?_set_self (by omega), Option.getD_some]
      rw [show (stp a b).filterMap (tgt W H hs c) = raw W H hs a b c from rfl, Sort_eq hk (by have := raw_length (W := W) (H := H) (hs := hs) (c := c) (show a < 6 by omega) (show b < 6 by omega); omega), isort_raw hg hab hb]
      simp only [Option.bind_some, List.set_set, wsucc (show i < 9223372036854775807 by omega)]
      rw [← hN]
      congr 2
      unfold nearP
      rw [map_range_set, htake]
      refine List.map_congr_left fun x hx => ?_
      by_cases hxc : x = c
      · subst hxc; simp
      · simp [hxc]
  · unfold go_impl_graphOf_L0_G
    rw [if_neg (by simp), List.take_length]
    unfold graph near
    have : (nearP (W * H) (fun c => zs (leaps W H hs a b c)) fun c => decide (c ∈ cells W H hs)) = nearP (W * H) (fun c => zs (leaps W H hs a b c)) (hasN W H hs) := by
      unfold nearP
      refine List.map_congr_left fun x hx => ?_
      have : decide (x ∈ cells W H hs) = hasN W H hs x := by
        rw [Bool.eq_iff_iff, decide_eq_true_eq, mem_cells]
      simp only [this]
    rw [this]

theorem graphOf_none {B : BT} {L : LT} (hk : K0 ≤ k) (h : (isGood B && isGoodL L) = false) : go_impl_graphOf k B L = some (none, (false, ())) := by
  unfold go_impl_graphOf go_impl_graphOf_T
  simp only [IsBoard_eq hk, Option.bind_some]
  cases hB : isGood B with
  | false => simp
  | true =>
    rw [hB] at h
    have : isGoodL L = false := by simpa using h
    simp [IsLeaper_eq, this]

end Go.Lg
