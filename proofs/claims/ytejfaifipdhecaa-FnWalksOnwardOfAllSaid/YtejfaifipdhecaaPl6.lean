/-
  Plain law: the leaps' graph.
-/
import Derived.Test.YtejfaifipdhecaaPl5
set_option linter.unusedVariables false
set_option linter.unusedSimpArgs false
namespace Go.Lg
open Go.RowKit Go.IntWalk

variable {k : Nat}

def scond (a b : Nat) (x y : Int) : Bool := decide (min (max x (0 - x)) (max y (0 - y)) = (a : Int)) && decide (max (max x (0 - x)) (max y (0 - y)) = (b : Int))
def stpIn (a b i m : Nat) : List (Int × Int) := ((List.range m).filter fun (j : Nat) => scond a b ((i : Int) - 5) ((j : Int) - 5)).map fun (j : Nat) => ((i : Int) - 5, (j : Int) - 5)
def stpN (a b n : Nat) : List (Int × Int) := (List.range n).flatMap fun i => stpIn a b i 11
def stp (a b : Nat) : List (Int × Int) := stpN a b 11
def pl (p : Int × Int) : List Int := [p.1, p.2]

theorem stpIn_succ (a b i m : Nat) : stpIn a b i (m + 1) = stpIn a b i m ++ if scond a b ((i : Int) - 5) ((m : Int) - 5) = true then [((i : Int) - 5, (m : Int) - 5)] else [] := by
  unfold stpIn
  rw [List.range_succ, List.filter_append, List.map_append]
  congr 1
  by_cases h : scond a b ((i : Int) - 5) ((m : Int) - 5) = true
  · simp [h]
  · simp [h]

theorem stpN_succ (a b n : Nat) : stpN a b (n + 1) = stpN a b n ++ stpIn a b n 11 := by
  unfold stpN
  rw [List.range_succ, List.flatMap_append]
  simp

theorem stpIn_length (a b i m : Nat) : (stpIn a b i m).length ≤ m := by
  unfold stpIn
  rw [List.length_map]
  have := List.length_filter_le (fun (j : Nat) => scond a b ((i : Int) - 5) ((j : Int) - 5)) (List.range m)
  simpa using this

theorem stpN_length (a b n : Nat) : (stpN a b n).length ≤ n * 11 := by
  induction n with
  | zero => simp [stpN]
  | succ n ih =>
    rw [stpN_succ, List.length_append]
    have := stpIn_length a b n 11
    omega

theorem steps_eq {a b : Nat} (hk : K0 ≤ k) : go_impl_Leaper_steps k (ld a b) = some ((stp a b).map pl) := by
  unfold go_impl_Leaper_steps go_impl_Leaper_steps_T go_impl_Leaper_steps_L0
  refine iter_path (F := fun rec28 x27 => go_impl_Leaper_steps_L0_G k (ld a b) (fun c0 y => go_impl_Leaper_steps_L1 k (ld a b) rec28 c0 y) rec28 x27)
    (fun i => ((i : Int) - 5, (stpN a b i).map pl)) 11 rfl (by unfold K0 at hk; omega) (fun i hi rec => ?_) (fun rec => ?_)
  · unfold go_impl_Leaper_steps_L0_G go_impl_Leaper_steps_L1
    rw [if_pos (by simp only [decide_eq_true_eq]; omega)]
    refine iter_path (F := fun rec34 x33 => go_impl_Leaper_steps_L1_G k (ld a b) ((i : Int) - 5, (stpN a b i).map pl) rec rec34 x33)
      (fun j => ((j : Int) - 5, (stpN a b i ++ stpIn a b i j).map pl)) 11 (by simp [stpIn]) (by unfold K0 at hk; omega) (fun j hj rec2 => ?_) (fun rec2 => ?_)
    · unfold go_impl_Leaper_steps_L1_G
      have h1 := stpN_length a b i
      have h2 := stpIn_length a b i j
      rw [if_pos (by simp only [decide_eq_true_eq]; omega), w64 (n := 0 - ((i : Int) - 5)) (by omega) (by omega), w64 (n := 0 - ((j : Int) - 5)) (by omega) (by omega), w64 (n := (j : Int) - 5 + 1) (by omega) (by omega)]
      rw [stpIn_succ]
      have e : ((j + 1 : Nat) : Int) - 5 = (j : Int) - 5 + 1 := by omega
      rw [e]
      by_cases h : scond a b ((i : Int) - 5) ((j : Int) - 5) = true
      · rw [if_pos (by unfold scond at h; exact h)]
        rw [if_pos (lim_le (by simp; omega)), if_pos h, ← List.append_assoc, List.map_append (l₂ := [_])]
        rfl
      · rw [if_neg (by unfold scond at h; exact h), if_neg h, List.append_nil]
    · unfold go_impl_Leaper_steps_L1_G
      rw [if_neg (by simp), w64 (n := (i : Int) - 5 + 1) (by omega) (by omega), stpN_succ]
      have e : ((i + 1 : Nat) : Int) - 5 = (i : Int) - 5 + 1 := by omega
      rw [e]
  · unfold go_impl_Leaper_steps_L0_G
    rw [if_neg (by simp)]
    rfl

theorem stp_facts : ∀ a, a < 6 → ∀ b, b < 6 → (stp a b).length ≤ 8 ∧ (stp a b).Nodup := by decide +kernel

theorem mem_stp {a b : Nat} {x y : Int} : (x, y) ∈ stp a b ↔ -5 ≤ x ∧ x ≤ 5 ∧ -5 ≤ y ∧ y ≤ 5 ∧ scond a b x y = true := by
  unfold stp stpN stpIn
  simp only [List.mem_flatMap, List.mem_range, List.mem_map, List.mem_filter, Prod.mk.injEq]
  constructor
  · rintro ⟨i, hi, j, ⟨hj, hc⟩, rfl, rfl⟩
    exact ⟨by omega, by omega, by omega, by omega, hc⟩
  · rintro ⟨h1, h2, h3, h4, hc⟩
    refine ⟨(x + 5).toNat, by omega, (y + 5).toNat, ⟨by omega, ?_⟩, by omega, by omega⟩
    rw [show (((x + 5).toNat : Nat) : Int) - 5 = x by omega, show (((y + 5).toNat : Nat) : Int) - 5 = y by omega]
    exact hc

/-! ### where a step leads -/

def tgt (W H : Nat) (hs : List Nat) (c : Nat) (p : Int × Int) : Option Nat :=
  let x := ((c % W : Nat) : Int) + p.1
  let y := ((c / W : Nat) : Int) + p.2
  if 0 ≤ x ∧ x < W ∧ 0 ≤ y ∧ y < H ∧ hasI W H hs (y * W + x) = true then some (y * W + x).toNat else none

def raw (W H : Nat) (hs : List Nat) (a b c : Nat) : List Nat := (stp a b).filterMap (tgt W H hs c)

theorem tgt_some {W H : Nat} {hs : List Nat} {c d : Nat} {p : Int × Int} (hW : 1 ≤ W) (h : tgt W H hs c p = some d) :
    ((d % W : Nat) : Int) = ((c % W : Nat) : Int) + p.1 ∧ ((d / W : Nat) : Int) = ((c / W : Nat) : Int) + p.2 ∧ hasN W H hs d = true := by
  unfold tgt at h
  simp only at h
  split at h
  · rename_i hc
    obtain ⟨h1, h2, h3, h4, h5⟩ := hc
    obtain ⟨x, hx⟩ := Int.eq_ofNat_of_zero_le h1
    obtain ⟨y, hy⟩ := Int.eq_ofNat_of_zero_le h3
    rw [hx, hy] at h h5
    rw [hx] at h2
    have e' : ((y : Int) * (W : Int) + (x : Int)) = ((y * W + x : Nat) : Int) := by simp
    rw [e'] at h h5
    simp only [Int.toNat_natCast, Option.some.injEq] at h
    subst h
    rw [hasI_nat] at h5
    have hxW : x < W := by omega
    refine ⟨?_, ?_, h5⟩
    · rw [hx, Nat.mul_comm, Nat.mul_add_mod, Nat.mod_eq_of_lt hxW]
    · rw [hy, Nat.mul_comm, Nat.mul_add_div (by omega), Nat.div_eq_of_lt hxW, Nat.add_zero]
  · cases h

theorem tgt_of {W H : Nat} {hs : List Nat} {c d : Nat} (hW : 1 ≤ W) (hd : hasN W H hs d = true) :
    tgt W H hs c (((d % W : Nat) : Int) - ((c % W : Nat) : Int), ((d / W : Nat) : Int) - ((c / W : Nat) : Int)) = some d := by
  unfold tgt
  simp only
  have e1 : ((c % W : Nat) : Int) + (((d % W : Nat) : Int) - ((c % W : Nat) : Int)) = ((d % W : Nat) : Int) := by omega
  have e2 : ((c / W : Nat) : Int) + (((d / W : Nat) : Int) - ((c / W : Nat) : Int)) = ((d / W : Nat) : Int) := by omega
  have e3 : ((d / W : Nat) : Int) * (W : Int) + ((d % W : Nat) : Int) = (d : Int) := by
    rw [← Int.natCast_mul, ← Int.natCast_add, Nat.mul_comm, Nat.div_add_mod]
  rw [e1, e2, e3, hasI_nat]
  have hm : d % W < W := Nat.mod_lt _ hW
  have hlt : d < W * H := by simp [hasN] at hd; exact hd.1
  have hq : d / W < H := Nat.div_lt_of_lt_mul hlt
  rw [if_pos ⟨Int.natCast_nonneg _, Int.ofNat_lt.2 hm, Int.natCast_nonneg _, Int.ofNat_lt.2 hq, hd⟩]
  simp

theorem scond_iff {a b : Nat} (hab : a ≤ b) {x y : Int} {dx dy : Nat} (hx : (dx : Int) = max x (0 - x)) (hy : (dy : Int) = max y (0 - y)) : scond a b x y = true ↔ (dx = a ∧ dy = b) ∨ (dx = b ∧ dy = a) := by
  unfold scond
  simp only [Bool.and_eq_true, decide_eq_true_eq, ← hx, ← hy]
  omega

theorem adj_iff {W a b c d : Nat} : adj W a b c d = true ↔ (dist1 (c % W) (d % W) = a ∧ dist1 (c / W) (d / W) = b) ∨ (dist1 (c % W) (d % W) = b ∧ dist1 (c / W) (d / W) = a) := by
  simp [adj]

theorem mem_raw {W H a b c d : Nat} {hs : List Nat} (hg : Gd W H hs) (hab : a ≤ b) (hb : b ≤ 5) : d ∈ raw W H hs a b c ↔ hasN W H hs d = true ∧ adj W a b c d = true := by
  unfold raw
  rw [List.mem_filterMap, adj_iff]
  constructor
  · rintro ⟨⟨x, y⟩, hp, ht⟩
    obtain ⟨h1, h2, h3⟩ := tgt_some hg.w1 ht
    obtain ⟨_, _, _, _, hc⟩ := mem_stp.1 hp
    refine ⟨h3, ?_⟩
    refine (scond_iff hab (x := x) (y := y) ?_ ?_).1 hc
    · unfold dist1; simp only at h1; omega
    · unfold dist1; simp only at h2; omega
  · rintro ⟨h1, h2⟩
    refine ⟨_, mem_stp.2 ?_, tgt_of hg.w1 h1⟩
    have hc := (scond_iff hab (x := ((d % W : Nat) : Int) - ((c % W : Nat) : Int)) (y := ((d / W : Nat) : Int) - ((c / W : Nat) : Int)) (dx := dist1 (c % W) (d % W)) (dy := dist1 (c / W) (d / W)) (by unfold dist1; omega) (by unfold dist1; omega)).2 h2
    unfold dist1 at h2
    exact ⟨by omega, by omega, by omega, by omega, hc⟩

theorem raw_nodup {W H a b c : Nat} {hs : List Nat} (hg : Gd W H hs) (ha : a < 6) (hb : b < 6) : (raw W H hs a b c).Nodup := by
  unfold raw
  have := (stp_facts a ha b hb).2
  unfold List.Nodup at this ⊢
  rw [List.pairwise_filterMap]
  refine this.imp ?_
  rintro ⟨x, y⟩ ⟨x', y'⟩ hne d hd d' hd'
  rintro rfl
  obtain ⟨h1, h2, _⟩ := tgt_some hg.w1 hd
  obtain ⟨h3, h4, _⟩ := tgt_some hg.w1 hd'
  simp only at h1 h2 h3 h4
  exact hne (by rw [Prod.mk.injEq]; omega)

theorem cells_sorted {W H : Nat} {hs : List Nat} : (cells W H hs).Pairwise (· < ·) := by
  unfold cells
  exact List.Pairwise.filter _ List.pairwise_lt_range

theorem leaps_sorted {W H a b c : Nat} {hs : List Nat} : (leaps W H hs a b c).Pairwise (· < ·) := List.Pairwise.filter _ cells_sorted

theorem mem_leaps {W H a b c d : Nat} {hs : List Nat} : d ∈ leaps W H hs a b c ↔ hasN W H hs d = true ∧ adj W a b c d = true := by
  unfold leaps
  rw [List.mem_filter, mem_cells]

theorem isort_raw {W H a b c : Nat} {hs : List Nat} (hg : Gd W H hs) (hab : a ≤ b) (hb : b ≤ 5) : isort (raw W H hs a b c) = leaps W H hs a b c := by
  obtain ⟨hp, hs'⟩ := isort_facts (raw W H hs a b c)
  have hlp := leaps_sorted (W := W) (H := H) (a := a) (b := b) (c := c) (hs := hs)
  have hperm : (isort (raw W H hs a b c)).Perm (leaps W H hs a b c) := hp.trans ((List.perm_ext_iff_of_nodup (raw_nodup hg (by omega) (by omega)) (hlp.imp fun h => Nat.ne_of_lt h)).2 fun d => by rw [mem_raw hg hab hb, mem_leaps])
  exact hperm.eq_of_pairwise (fun x y _ _ h1 h2 => Nat.le_antisymm h1 h2) hs' (hlp.imp fun h => Nat.le_of_lt h)

theorem raw_length {W H a b c : Nat} {hs : List Nat} (ha : a < 6) (hb : b < 6) : (raw W H hs a b c).length ≤ 8 :=
  Nat.le_trans (List.length_filterMap_le _ _) (stp_facts a ha b hb).1

end Go.Lg
