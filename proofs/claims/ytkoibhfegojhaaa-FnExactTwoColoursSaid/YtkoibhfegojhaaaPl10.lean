/-
  Plain law: sides, as both make them; FnExactTwoColours.
-/
import Derived.Test.YtkoibhfegojhaaaPl9
import Derived.Test.YtkoibhfegojhaaaRow
set_option linter.unusedVariables false
set_option linter.unusedSimpArgs false
namespace Go.Lg
open Go.RowKit Go.IntWalk

variable {k : Nat}

section
variable {W H a b : Nat} {hs : List Nat}

/-- Colours, partly laid. -/
def layTo (N : Nat) (F out : List Int) (j : Nat) : List Int := (List.range N).map fun x => if x < j ∧ 0 ≤ F.getD x 0 then F.getD x 0 % 2 else out.getD x 0

theorem layTo_length (N : Nat) (F out : List Int) (j : Nat) : (layTo N F out j).length = N := by simp [layTo]

theorem layTo_zero {N : Nat} {F out : List Int} (h : out.length = N) : layTo N F out 0 = out := by
  refine List.ext_getElem (by simp [layTo, h]) fun x h1 h2 => ?_
  simp [layTo, List.getD_eq_getElem?_getD, List.getElem?_eq_getElem h2]

theorem layTo_pos {N : Nat} {F out : List Int} {j : Nat} (h0 : 0 ≤ F.getD j 0) : (layTo N F out j).set j (Int.tmod (F.getD j 0) 2) = layTo N F out (j + 1) := by
  unfold layTo
  rw [map_range_set]
  refine List.map_congr_left fun x hx => ?_
  by_cases hxj : x = j
  · subst hxj
    rw [if_pos rfl, if_pos ⟨by omega, h0⟩, Int.tmod_eq_emod_of_nonneg h0]
  · rw [if_neg hxj]
    by_cases hlt : x < j ∧ 0 ≤ F.getD x 0
    · rw [if_pos hlt, if_pos ⟨by omega, hlt.2⟩]
    · rw [if_neg hlt, if_neg fun h => hlt ⟨by omega, h.2⟩]

theorem layTo_neg {N : Nat} {F out : List Int} {j : Nat} (h0 : ¬ 0 ≤ F.getD j 0) : layTo N F out j = layTo N F out (j + 1) := by
  unfold layTo
  refine List.map_congr_left fun x hx => ?_
  by_cases hlt : x < j ∧ 0 ≤ F.getD x 0
  · rw [if_pos hlt, if_pos ⟨by omega, hlt.2⟩]
  · rw [if_neg hlt, if_neg fun h => ?_]
    rcases Nat.lt_or_ge x j with h' | h'
    · exact hlt ⟨h', h.2⟩
    · have : x = j := by omega
      subst this; exact h0 h.2

theorem layTo_full {nb : Nat → List Nat} {N c : Nat} {out : List Int} : layTo N (bfs nb N c) out N = lay2 nb N out c := by
  unfold layTo lay2
  refine List.map_congr_left fun x hx => ?_
  have := List.mem_range.1 hx
  by_cases h : 0 ≤ (bfs nb N c).getD x 0
  · rw [if_pos ⟨this, h⟩, if_pos h]
  · rw [if_neg fun h' => h h'.2, if_neg h]

theorem foldl_lay2_length {nb : Nat → List Nat} {N : Nat} : ∀ (l : List Nat) (out : List Int), out.length = N → (l.foldl (lay2 nb N) out).length = N
  | [], out, h => h
  | a :: l, out, h => foldl_lay2_length l _ (lay2_length ..)

theorem sides_prog (hk : K0 ≤ k) (hg : Gd W H hs) : go_impl_graph_sides k (some (graph W H hs a b)) = some (sides (leaps W H hs a b) (W * H) (cells W H hs)) := by
  have h64 := hg.n64
  have hcs := cells_cs (W := W) (H := H) (a := a) (b := b) (hs := hs)
  have hcl := cells_length (W := W) (H := H) (hs := hs)
  have hnr : (graph W H hs a b).2.2.2.1 = near W H hs a b := rfl
  have hrl : (reps (leaps W H hs a b) (cells W H hs)).length ≤ W * H := Nat.le_trans (List.length_filter_le _ _) hcl
  unfold go_impl_graph_sides go_impl_graph_sides_T
  simp only [Option.getD_some, Option.isSome_some, if_true, hnr, near_length]
  rw [if_pos (by simp only [decide_eq_true_eq]; constructor; omega; simp [LIM]; omega)]
  unfold go_impl_graph_sides_L0
  refine iter_path (F := fun rec6 x5 => go_impl_graph_sides_L0_G k (some (graph W H hs a b)) (fun c0 y => go_impl_graph_sides_L1 k (some (graph W H hs a b)) c0 y) rec6 x5)
    (fun i => ((i : Int), List.replicate i (-1) ++ List.replicate (W * H - i) 0)) (W * H) (by rw [Int.toNat_natCast]; rfl) (by unfold K0 at hk; omega) (fun i hi rec => ?_) (fun rec => ?_)
  · unfold go_impl_graph_sides_L0_G
    simp only [Option.getD_some, hnr, near_length, List.length_replicate, Int.toNat_natCast, List.length_append, wsucc (show i < 9223372036854775807 by omega)]
    rw [if_pos (by simp only [decide_eq_true_eq]; omega), inb_lt (show i < i + (W * H - i) by omega), fill_eq _ _ _ hi]
    rfl
  · unfold go_impl_graph_sides_L0_G
    simp only [Option.getD_some, hnr, near_length, List.length_replicate, Int.toNat_natCast, Nat.sub_self, List.replicate_zero, List.append_nil, parts_eq hk hg]
    rw [if_neg (by simp)]
    simp only [Option.bind_some]
    unfold go_impl_graph_sides_L1
    have hpl : (partsOf (leaps W H hs a b) (W * H) (cells W H hs)).length = (reps (leaps W H hs a b) (cells W H hs)).length := by simp [partsOf]
    refine iter_path (F := fun rec27 x26 => go_impl_graph_sides_L1_G k (some (graph W H hs a b)) (zzs (partsOf (leaps W H hs a b) (W * H) (cells W H hs))) (fun c0 c1 y => go_impl_graph_sides_L2 k (some (graph W H hs a b)) rec27 (zzs (partsOf (leaps W H hs a b) (W * H) (cells W H hs))) c0 c1 y) rec27 x26)
      (fun i => ((i : Int), ((reps (leaps W H hs a b) (cells W H hs)).take i).foldl (lay2 (leaps W H hs a b) (W * H)) (List.replicate (W * H) (-1)))) (reps (leaps W H hs a b) (cells W H hs)).length rfl (by unfold K0 at hk; omega) (fun i hi rec2 => ?_) (fun rec2 => ?_)
    · have hget := List.getElem?_eq_getElem hi
      generalize hcc : (reps (leaps W H hs a b) (cells W H hs))[i] = c at hget
      have hrm := List.mem_of_getElem? hget
      have ⟨hcm, hrep⟩ := List.mem_filter.1 hrm
      have hch := mem_cells.1 hcm
      have hcN := hasN_lt hch
      have hpg : (partsOf (leaps W H hs a b) (W * H) (cells W H hs))[i]? = some (reach (leaps W H hs a b) (W * H) c) := by simp [partsOf, hget]
      have hhead := hcs.reach_head hcm hrep
      have hF := bfs_far (nb := leaps W H hs a b) leaps_lt hcN
      have hol := foldl_lay2_length (nb := leaps W H hs a b) (N := W * H) ((reps (leaps W H hs a b) (cells W H hs)).take i) (List.replicate (W * H) (-1)) (by simp)
      have htake : (reps (leaps W H hs a b) (cells W H hs)).take (i + 1) = (reps (leaps W H hs a b) (cells W H hs)).take i ++ [c] := by rw [List.take_succ_eq_append_getElem hi, hcc]
      rw [htake, List.foldl_append, List.foldl_cons, List.foldl_nil]
      generalize ((reps (leaps W H hs a b) (cells W H hs)).take i).foldl (lay2 (leaps W H hs a b) (W * H)) (List.replicate (W * H) (-1)) = out at hol
      unfold go_impl_graph_sides_L1_G
      have h0 : (zs (reach (leaps W H hs a b) (W * H) c)).getD (0 : Int).toNat 0 = (c : Int) := zs_get hhead
      simp only [zzs_length, hpl, Int.toNat_natCast, zzs_get hpg, h0, far_eq hk hg hch]
      rw [if_pos (by simpa using hi), inb_lt hi, if_pos rfl, show inb 0 (zs (reach (leaps W H hs a b) (W * H) c)).length = true from inb_lt (i := 0) (by rw [zs_length]; exact length_lt hhead), if_pos rfl]
      simp only [Option.bind_some]
      unfold go_impl_graph_sides_L2
      refine iter_path (F := fun rec34 x33 => go_impl_graph_sides_L2_G k (some (graph W H hs a b)) (zzs (partsOf (leaps W H hs a b) (W * H) (cells W H hs))) ((i : Int), out) (bfs (leaps W H hs a b) (W * H) c) rec2 rec34 x33)
        (fun j => ((j : Int), layTo (W * H) (bfs (leaps W H hs a b) (W * H) c) out j)) (W * H) (by rw [layTo_zero hol]; rfl) (by unfold K0 at hk; omega) (fun j hj rec3 => ?_) (fun rec3 => ?_)
      · unfold go_impl_graph_sides_L2_G
        simp only [hF.len, Int.toNat_natCast, layTo_length, inb_lt hj, wsucc (show j < 9223372036854775807 by omega)]
        rw [if_pos (by simp only [decide_eq_true_eq]; omega)]
        simp only [if_true]
        by_cases h0 : 0 ≤ (bfs (leaps W H hs a b) (W * H) c).getD j 0
        · rw [if_pos (by simpa using h0), layTo_pos h0]
        · rw [if_neg (by simpa using h0), layTo_neg h0]
      · unfold go_impl_graph_sides_L2_G
        rw [if_neg (by simp [hF.len]), wsucc (by omega), layTo_full]
    · unfold go_impl_graph_sides_L1_G
      rw [if_neg (by simp [hpl]), List.take_length]
      rfl

theorem paIs_eq (hk : K0 ≤ k) (hg : Gd W H hs) {out : List Int} (hol : out.length = W * H) (hd : ∀ x, x ∈ cells W H hs → ∀ y, y ∈ leaps W H hs a b x → out.getD x 0 ≠ out.getD y 0) :
    go_spec_paIs k (bd W H hs) (ld a b) out = some true := by
  have h64 := hg.n64
  have hcl := cells_length (W := W) (H := H) (hs := hs)
  unfold go_spec_paIs go_spec_paIs_T
  rw [boCells_eq hk hg]
  simp only [Option.bind_some]
  unfold go_spec_paIs_L0
  refine iter_path (F := fun rec10 x9 => go_spec_paIs_L0_G k (bd W H hs) (ld a b) out (zs (cells W H hs)) (fun c0 c1 y => go_spec_paIs_L1 k (bd W H hs) (ld a b) out rec10 (zs (cells W H hs)) c0 c1 y) rec10 x9)
    (fun i => (i : Int)) (cells W H hs).length rfl (by unfold K0 at hk; omega) (fun i hi rec => ?_) (fun rec => ?_)
  · have hget := List.getElem?_eq_getElem hi
    generalize hcc : (cells W H hs)[i] = c at hget
    have hcm := List.mem_of_getElem? hget
    have hcN := hasN_lt (mem_cells.1 hcm)
    unfold go_spec_paIs_L0_G
    simp only [zs_length, zs_get hget, Int.toNat_natCast]
    rw [if_pos (by simpa using hi), inb_lt hi, if_pos rfl, boLeaps_eq hk hg (by omega)]
    simp only [Option.bind_some]
    unfold go_spec_paIs_L1
    refine iter_path (F := fun rec15 x14 => go_spec_paIs_L1_G k (bd W H hs) (ld a b) out (zs (cells W H hs)) (i : Int) (zs (leaps W H hs a b c)) rec rec15 x14)
      (fun j => (j : Int)) (leaps W H hs a b c).length rfl (by have := leaps_length (W := W) (H := H) (a := a) (b := b) (c := c) (hs := hs); unfold K0 at hk; omega) (fun j hj rec2 => ?_) (fun rec2 => ?_)
    · have hgd := List.getElem?_eq_getElem hj
      generalize hdd : (leaps W H hs a b c)[j] = d at hgd
      have hdm := List.mem_of_getElem? hgd
      have hdN := leaps_lt c hcN d hdm
      have hll := leaps_length (W := W) (H := H) (a := a) (b := b) (c := c) (hs := hs)
      unfold go_spec_paIs_L1_G
      simp only [zs_length, zs_get hget, zs_get hgd, Int.toNat_natCast, hol, inb_lt hcN, inb_lt hdN, inb_lt hj, wsucc (show j < 9223372036854775807 by omega)]
      rw [if_pos (by simpa using hj)]
      simp only [if_true]
      rw [if_neg (by simpa using hd c hcm d hdm)]
    · unfold go_spec_paIs_L1_G
      rw [if_neg (by simp), wsucc (by omega)]
  · unfold go_spec_paIs_L0_G
    rw [if_neg (by simp)]

theorem paTwo_eq (hk : K0 ≤ k) (hg : Gd W H hs) (hab : a ≤ b) (hb1 : 1 ≤ b) (hb5 : b ≤ 5) : go_spec_paTwo k (bd W H hs) (ld a b) = some (sides (leaps W H hs a b) (W * H) (cells W H hs), (true, ())) := by
  have h64 := hg.n64
  have hm := wmul (show W ≤ 100 by have := hg.w8; omega) (show H ≤ 100 by have := hg.h8; omega)
  have hcs := cells_cs (W := W) (H := H) (a := a) (b := b) (hs := hs)
  have hcl := cells_length (W := W) (H := H) (hs := hs)
  unfold go_spec_paTwo go_spec_paTwo_T
  simp only [hm]
  rw [if_pos (by simp only [decide_eq_true_eq]; constructor; omega; simp [LIM]; omega)]
  unfold go_spec_paTwo_L0
  refine iter_path (F := fun rec6 x5 => go_spec_paTwo_L0_G k (bd W H hs) (ld a b) (fun c0 y => go_spec_paTwo_L1 k (bd W H hs) (ld a b) c0 y) rec6 x5)
    (fun i => ((i : Int), List.replicate i (-1) ++ List.replicate (W * H - i) 0)) (W * H) (by rw [Int.toNat_natCast]; rfl) (by unfold K0 at hk; omega) (fun i hi rec => ?_) (fun rec => ?_)
  · unfold go_spec_paTwo_L0_G
    simp only [hm, List.length_replicate, Int.toNat_natCast, List.length_append, wsucc (show i < 9223372036854775807 by omega)]
    rw [if_pos (by simp only [decide_eq_true_eq]; omega), inb_lt (show i < i + (W * H - i) by omega), fill_eq _ _ _ hi]
    rfl
  · unfold go_spec_paTwo_L0_G
    simp only [hm, List.length_replicate, Int.toNat_natCast, Nat.sub_self, List.replicate_zero, List.append_nil, boCells_eq hk hg]
    rw [if_neg (by simp)]
    simp only [Option.bind_some]
    unfold go_spec_paTwo_L1
    refine iter_path (F := fun rec20 x19 => go_spec_paTwo_L1_G k (bd W H hs) (ld a b) (zs (cells W H hs)) (fun c0 c1 y => go_spec_paTwo_L2 k (bd W H hs) (ld a b) rec20 (zs (cells W H hs)) c0 c1 y) rec20 x19)
      (fun i => ((i : Int), sidesTo (leaps W H hs a b) (W * H) (cells W H hs) i)) (cells W H hs).length (by simp [sidesTo]) (by unfold K0 at hk; omega) (fun i hi rec2 => ?_) (fun rec2 => ?_)
    · have hget := List.getElem?_eq_getElem hi
      generalize hcc : (cells W H hs)[i] = c at hget
      have hcm := List.mem_of_getElem? hget
      have hch := mem_cells.1 hcm
      have hcN := hasN_lt hch
      have hF := bfs_far (nb := leaps W H hs a b) leaps_lt hcN
      have hol := sidesTo_length (nb := leaps W H hs a b) (N := W * H) (cs := cells W H hs) i
      have hpos := hcs.sidesTo_pos (i := i) (x := c) (by omega) hcN
      have hseen := hcs.seen_iff hget
      rw [sidesTo_succ hget]
      generalize sidesTo (leaps W H hs a b) (W * H) (cells W H hs) i = out at hol hpos
      unfold go_spec_paTwo_L1_G
      simp only [zs_length, Int.toNat_natCast, zs_get hget, hol, inb_lt hcN, faFrom_eq hk hg hch]
      rw [if_pos (by simpa using hi), inb_lt hi]
      simp only [if_true]
      by_cases h0 : 0 ≤ out.getD c 0
      · rw [if_pos (by simpa using h0), wsucc (by omega), if_neg (by rw [hseen.1 (hpos.1 h0)]; decide)]
      · rw [if_neg (by simpa using h0)]
        have hrep : isRep (leaps W H hs a b) (cells W H hs) c = true := by
          cases hr : isRep (leaps W H hs a b) (cells W H hs) c with
          | true => rfl
          | false => exact absurd (hpos.2 (hseen.2 hr)) h0
        rw [if_pos hrep]
        simp only [Option.bind_some]
        unfold go_spec_paTwo_L2
        refine iter_path (F := fun rec27 x26 => go_spec_paTwo_L2_G k (bd W H hs) (ld a b) (zs (cells W H hs)) ((i : Int), out) (bfs (leaps W H hs a b) (W * H) c) rec2 rec27 x26)
          (fun j => ((j : Int), layTo (W * H) (bfs (leaps W H hs a b) (W * H) c) out j)) (W * H) (by rw [layTo_zero hol]; rfl) (by unfold K0 at hk; omega) (fun j hj rec3 => ?_) (fun rec3 => ?_)
        · unfold go_spec_paTwo_L2_G
          simp only [hF.len, Int.toNat_natCast, layTo_length, inb_lt hj, wsucc (show j < 9223372036854775807 by omega)]
          rw [if_pos (by simp only [decide_eq_true_eq]; omega)]
          simp only [if_true]
          by_cases h0 : 0 ≤ (bfs (leaps W H hs a b) (W * H) c).getD j 0
          · rw [if_pos (by simpa using h0), layTo_pos h0]
          · rw [if_neg (by simpa using h0), layTo_neg h0]
        · unfold go_spec_paTwo_L2_G
          rw [if_neg (by simp [hF.len]), wsucc (by omega), layTo_full]
    · unfold go_spec_paTwo_L1_G
      obtain ⟨col, hcol⟩ := leaper_col (W := W) hab hb1 hb5
      rw [if_neg (by simp), ← sides_eq, paIs_eq hk hg (by rw [sides_eq]; exact sidesTo_length _) fun x hx y hy => hcs.sides_differ col (fun u _ d hd => hcol u d (mem_leaps.1 hd).2) hx hy]
      rfl

end

theorem TwoColours_same (hk : K0 ≤ k) (B : BT) (L : LT) : ∃ r, go_spec_TwoColours k B L = some r ∧ go_impl_TwoColours k B L = some r ∧ r.1.length ≤ 64 := by
  unfold go_spec_TwoColours go_impl_TwoColours
  rw [boTwo_eq hk]
  simp only [Option.bind_some]
  cases hB : isGood B && isGoodL L with
  | false =>
    rw [graphOf_none hk hB]
    exact ⟨_, rfl, rfl, by simp⟩
  | true =>
    simp only [Bool.and_eq_true] at hB
    obtain ⟨hB, hL⟩ := hB
    obtain ⟨W, H, hs, rfl, hg⟩ := Good.nat (by simpa [isGood] using hB)
    obtain ⟨a, b, rfl, hab, hb1, hb5⟩ := GoodL.nat (by simpa [isGoodL] using hL)
    rw [paTwo_eq hk hg hab hb1 hb5, graphOf_eq hk hg hB hL hab hb5]
    simp only [Option.bind_some]
    rw [sides_prog hk hg]
    refine ⟨_, rfl, rfl, ?_⟩
    show (sides (leaps W H hs a b) (W * H) (cells W H hs)).length ≤ 64
    rw [sides_eq, sidesTo_length]
    exact hg.n64

theorem law_TwoColours (hk : K0 ≤ k) (B : BT) (L : LT) (hB : B.2.2.1.length ≤ 140737488351232) : go_laws_FnExactTwoColours k B L = some true := by
  unfold go_laws_FnExactTwoColours go_laws_szBoard
  rw [szIntS_eq hB (by omega) (by omega)]
  simp only [Option.bind_some]
  by_cases hlen : (1048576 : Int) < B.2.2.1.length
  · simp [hlen]
  · have hl : B.2.2.1.length ≤ 1048576 := by omega
    rw [if_neg hlen, if_neg (by simp only [decide_eq_true_eq]; omega)]
    simp only [Option.bind_some]
    rw [if_neg (by simp only [decide_eq_true_eq]; omega)]
    have htb : go_laws_toBoard k B = some B := by unfold go_laws_toBoard; rw [toIntS_eq hk hl]; rfl
    have htl : go_laws_toLeaper k L = some L := rfl
    have hB' : (B.1, (B.2.1, (B.2.2.1, ()))) = B := rfl
    obtain ⟨r, hr1, hr2, hrl⟩ := TwoColours_same hk B L
    obtain ⟨m, hm1, hm2⟩ := markBoard_eq hk (B := B) hl
    simp only [htb, htl, Option.bind_some, hB', hr1, hr2, eqIntS_eq hk (show r.1.length ≤ 1048576 by omega), eqBoard_refl hk hl, hm1, markIntS_eq hk (show r.1.length ≤ 1048576 by omega) (show (0 : Int) ≤ 1 by omega) (show (1 : Int) ≤ 1099511627776 by omega), heldIntS_eq hk (show r.1.length ≤ 1048576 by omega) (show (0 : Int) ≤ 1 by omega) (show (1 : Int) ≤ 1099511627776 by omega)]
    have h1 : decide (m.1 < 0) = false := by simp; omega
    have h2 : decide (1 + (r.1.length : Int) < 0) = false := by simp; omega
    simp [h1, h2]

theorem law_FnExactTwoColours_pure (x : (insOf [.pair I (.pair I (.pair (.sl I) .unit)), .pair I (.pair I .unit)]).T) (h : insOk _ x) : ∃ k, go_laws_FnExactTwoColours k x.1 x.2.1 = some true :=
  ⟨K0, law_TwoColours (Nat.le_refl _) x.1 x.2.1 (by have := h.1.2.2.1.1; simpa [reachBytes] using this)⟩

end Go.Lg
