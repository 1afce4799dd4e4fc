/-
  Plain law: the reference's parts; greatest and least values.
-/
import Derived.Test.YtjnpogjniihmcaaPl9
import Derived.Test.YtjnpogjniihmcaaGenC
set_option linter.unusedVariables false
set_option linter.unusedSimpArgs false
namespace Go.Lg
open Go.RowKit Go.IntWalk

variable {k : Nat}

section
variable {W H a b : Nat} {hs : List Nat}

theorem faParts_eq (hk : K0 ≤ k) (hg : Gd W H hs) : go_spec_faParts k (bd W H hs) (ld a b) = some (zzs (partsOf (leaps W H hs a b) (W * H) (cells W H hs))) := by
  have h64 := hg.n64
  have hcs := cells_cs (W := W) (H := H) (a := a) (b := b) (hs := hs)
  have hcl := cells_length (W := W) (H := H) (hs := hs)
  have hm := wmul (show W ≤ 100 by have := hg.w8; omega) (show H ≤ 100 by have := hg.h8; omega)
  unfold go_spec_faParts go_spec_faParts_T
  simp only [hm]
  rw [if_pos (by simp only [decide_eq_true_eq]; constructor; omega; simp [LIM]; omega), boCells_eq hk hg]
  simp only [Option.bind_some]
  unfold go_spec_faParts_L0
  refine iter_path (F := fun rec42 x41 => go_spec_faParts_L0_G k (bd W H hs) (ld a b) (zs (cells W H hs)) (fun c0 c1 y => go_spec_faParts_L1 k (bd W H hs) (ld a b) rec42 (zs (cells W H hs)) c0 c1 y) rec42 x41)
    (fun i => ((i : Int), seenTo (W * H) (leaps W H hs a b) (cells W H hs) i, zzs ((((cells W H hs).take i).filter (isRep (leaps W H hs a b) (cells W H hs))).map (reach (leaps W H hs a b) (W * H))))) (cells W H hs).length ?_ (by unfold K0 at hk; omega) (fun i hi rec => ?_) (fun rec => ?_)
  · simp [seenTo, zzs, List.map_const', Int.toNat_natCast, cdec]
    rw [← Int.natCast_mul, Int.toNat_natCast]
  · have hget := List.getElem?_eq_getElem hi
    generalize hcc : (cells W H hs)[i] = c at hget
    have hcm := List.mem_of_getElem? hget
    have hch := mem_cells.1 hcm
    have hcN := hasN_lt hch
    have htake : (cells W H hs).take (i + 1) = (cells W H hs).take i ++ [c] := by rw [List.take_succ_eq_append_getElem hi, hcc]
    have hslen : (seenTo (W * H) (leaps W H hs a b) (cells W H hs) i).length = W * H := by simp [seenTo]
    have hsget : (seenTo (W * H) (leaps W H hs a b) (cells W H hs) i).getD c false = !isRep (leaps W H hs a b) (cells W H hs) c := by
      have : (seenTo (W * H) (leaps W H hs a b) (cells W H hs) i).getD c false = cdec (∃ d ∈ (cells W H hs).take i, Conn (leaps W H hs a b) d c) := by
        simp [seenTo, List.getD_eq_getElem?_getD, List.getElem?_range hcN]
      rw [this]
      cases hr : isRep (leaps W H hs a b) (cells W H hs) c with
      | false =>
        have := (hcs.seen_iff hget).2 hr
        rw [cdec_iff.2 this]; rfl
      | true =>
        have : ¬ ∃ d ∈ (cells W H hs).take i, Conn (leaps W H hs a b) d c := fun h => by
          have := (hcs.seen_iff hget).1 h
          rw [hr] at this; cases this
        rw [Bool.not_true, ← Bool.not_eq_true, cdec_iff]; exact this
    unfold go_spec_faParts_L0_G
    simp only [zs_length, zs_get hget, Int.toNat_natCast, hslen, inb_lt hcN, hsget]
    rw [if_pos (by simpa using hi), inb_lt hi, if_pos rfl, if_pos trivial]
    by_cases hr : isRep (leaps W H hs a b) (cells W H hs) c = true
    · rw [hr, if_neg (by decide), faFrom_eq hk hg hch]
      simp only [Option.bind_some]
      have hF := bfs_far (nb := leaps W H hs a b) leaps_lt hcN
      have hmr := fun x => hcs.mem_reach hcm (x := x)
      have hbc := fun x hx => hcs.bfs_conn hcm (x := x) hx
      unfold go_spec_faParts_L1
      refine iter_path (F := fun rec51 x50 => go_spec_faParts_L1_G k (bd W H hs) (ld a b) (zs (cells W H hs)) ((i : Int), seenTo (W * H) (leaps W H hs a b) (cells W H hs) i, zzs ((((cells W H hs).take i).filter (isRep (leaps W H hs a b) (cells W H hs))).map (reach (leaps W H hs a b) (W * H)))) (bfs (leaps W H hs a b) (W * H) c) rec rec51 x50)
        (fun j => ((j : Int), (List.range (W * H)).map (fun x => (seenTo (W * H) (leaps W H hs a b) (cells W H hs) i).getD x false || (decide (x < j) && decide (0 ≤ (bfs (leaps W H hs a b) (W * H) c).getD x 0))), zs ((List.range j).filter fun x => decide (0 ≤ (bfs (leaps W H hs a b) (W * H) c).getD x 0)))) (W * H) ?_ (by unfold K0 at hk; omega) (fun j hj rec2 => ?_) (fun rec2 => ?_)
      · simp only [List.range_zero, List.filter_nil, zs_nil, Prod.mk.injEq, and_true]
        refine ⟨rfl, ?_⟩
        refine List.ext_getElem (by simp [hslen]) fun x h1 h2 => ?_
        simp [List.getD_eq_getElem?_getD, List.getElem?_eq_getElem h1]
      · unfold go_spec_faParts_L1_G
        have hpl := filter_range_length (n := j) fun x => decide (0 ≤ (bfs (leaps W H hs a b) (W * H) c).getD x 0)
        simp only [hF.len, Int.toNat_natCast, List.length_map, List.length_range, inb_lt hj, wsucc (show j < 9223372036854775807 by omega), zs_length]
        rw [if_pos (by simp only [decide_eq_true_eq]; omega)]
        simp only [if_true, List.range_succ, List.filter_append]
        by_cases h0 : 0 ≤ (bfs (leaps W H hs a b) (W * H) c).getD j 0
        · rw [if_pos (by simpa using h0), if_pos (lim_le (by simp only [List.length_singleton]; omega)), map_range_set]
          congr 2
          · have e : (List.filter (fun x => decide (0 ≤ (bfs (leaps W H hs a b) (W * H) c).getD x 0)) [j]) = [j] := by simp only [List.filter_cons, h0, decide_true, if_true, List.filter_nil]
            rw [e, zs_single, ← zs_append]
            congr 1
            refine List.map_congr_left fun x hx => ?_
            by_cases hxj : x = j
            · subst hxj
              have : x < x + 1 := by omega
              simp only [if_true, this, decide_true, Bool.true_and, h0, Bool.or_true]
            · rw [if_neg hxj]
              have : (decide (x < j)) = decide (x < j + 1) := by
                rw [Bool.eq_iff_iff, decide_eq_true_eq, decide_eq_true_eq]; omega
              rw [this]
        · rw [if_neg (by simpa using h0)]
          have e : (List.filter (fun x => decide (0 ≤ (bfs (leaps W H hs a b) (W * H) c).getD x 0)) [j]) = [] := by simp only [List.filter_cons, h0, decide_false, Bool.false_eq_true, if_false, List.filter_nil]
          rw [e, List.append_nil]
          congr 2
          congr 1
          refine List.map_congr_left fun x hx => ?_
          by_cases hxj : x = j
          · subst hxj
            simp only [h0, decide_false, Bool.and_false]
          · have : (decide (x < j)) = decide (x < j + 1) := by
              rw [Bool.eq_iff_iff, decide_eq_true_eq, decide_eq_true_eq]; omega
            rw [this]
      · unfold go_spec_faParts_L1_G
        rw [if_neg (by simp [hF.len])]
        have hpl : ((((cells W H hs).take i).filter (isRep (leaps W H hs a b) (cells W H hs))).map (reach (leaps W H hs a b) (W * H))).length ≤ W * H := by
          rw [List.length_map]
          refine Nat.le_trans (List.length_filter_le _ _) ?_
          rw [List.length_take]; omega
        rw [if_pos (lim_le (by simp only [zzs_length, List.length_singleton]; omega)), wsucc (by omega), htake, List.filter_append, List.map_append, zzs_append]
        congr 2
        have e : (List.filter (isRep (leaps W H hs a b) (cells W H hs)) [c]) = [c] := by simp [hr]
        rw [e]
        congr 1
        unfold seenTo
        refine List.map_congr_left fun x hx => ?_
        have hxN := List.mem_range.1 hx
        have e1 : ((List.range (W * H)).map fun x => cdec (∃ c ∈ (cells W H hs).take i, Conn (leaps W H hs a b) c x)).getD x false = cdec (∃ c ∈ (cells W H hs).take i, Conn (leaps W H hs a b) c x) := by
          simp [List.getD_eq_getElem?_getD, List.getElem?_range hxN]
        rw [e1, htake]
        rw [Bool.eq_iff_iff, Bool.or_eq_true, Bool.and_eq_true, decide_eq_true_eq, decide_eq_true_eq, cdec_iff, cdec_iff, hbc x hxN]
        constructor
        · rintro (⟨d, hd, h⟩ | ⟨_, h⟩)
          · exact ⟨d, List.mem_append.2 (.inl hd), h⟩
          · exact ⟨c, by simp, h⟩
        · rintro ⟨d, hd, h⟩
          rcases List.mem_append.1 hd with hd | hd
          · exact .inl ⟨d, hd, h⟩
          · simp at hd; subst hd; exact .inr ⟨hxN, h⟩
    · have hrf : isRep (leaps W H hs a b) (cells W H hs) c = false := by simpa using hr
      rw [hrf, if_pos (by decide), wsucc (by omega), htake, List.filter_append]
      have e : (List.filter (isRep (leaps W H hs a b) (cells W H hs)) [c]) = [] := by simp [hrf]
      rw [e, List.append_nil]
      congr 3
      unfold seenTo
      refine List.map_congr_left fun x hx => ?_
      rw [Bool.eq_iff_iff, cdec_iff, cdec_iff, htake]
      constructor
      · rintro ⟨d, hd, h⟩
        exact ⟨d, List.mem_append.2 (.inl hd), h⟩
      · rintro ⟨d, hd, h⟩
        rcases List.mem_append.1 hd with hd | hd
        · exact ⟨d, hd, h⟩
        · simp at hd; subst hd
          obtain ⟨d', hd', h'⟩ := (hcs.seen_iff hget).2 hrf
          exact ⟨d', hd', h'.trans h⟩
  · unfold go_spec_faParts_L0_G
    simp only [zs_length]
    rw [if_neg (by simp), List.take_length]
    rfl


end

/-! ### the greatest, the least -/

def lmax (l : List Int) : Int := l.foldl max (l.getD 0 0)
def lmin (l : List Int) : Int := l.foldl min (l.getD 0 0)

theorem foldl_max_ge : ∀ (l : List Int) (m x : Int), (x ∈ l ∨ x ≤ m) → x ≤ l.foldl max m
  | [], m, x, h => by rcases h with h | h; cases h; exact h
  | a :: l, m, x, h => by
    rw [List.foldl_cons]
    refine foldl_max_ge l _ x ?_
    rcases h with h | h
    · rcases List.mem_cons.1 h with rfl | h
      · right; omega
      · exact .inl h
    · right; omega

theorem foldl_max_mem : ∀ (l : List Int) (m : Int), l.foldl max m = m ∨ l.foldl max m ∈ l
  | [], m => .inl rfl
  | a :: l, m => by
    rw [List.foldl_cons]
    rcases foldl_max_mem l (max m a) with h | h
    · rw [h]
      rcases Int.le_total m a with h' | h'
      · rw [Int.max_eq_right h']; exact .inr (List.mem_cons_self ..)
      · rw [Int.max_eq_left h']; exact .inl rfl
    · exact .inr (List.mem_cons_of_mem _ h)

theorem foldl_min_le : ∀ (l : List Int) (m x : Int), (x ∈ l ∨ m ≤ x) → l.foldl min m ≤ x
  | [], m, x, h => by rcases h with h | h; cases h; exact h
  | a :: l, m, x, h => by
    rw [List.foldl_cons]
    refine foldl_min_le l _ x ?_
    rcases h with h | h
    · rcases List.mem_cons.1 h with rfl | h
      · right; omega
      · exact .inl h
    · right; omega

theorem foldl_min_mem : ∀ (l : List Int) (m : Int), l.foldl min m = m ∨ l.foldl min m ∈ l
  | [], m => .inl rfl
  | a :: l, m => by
    rw [List.foldl_cons]
    rcases foldl_min_mem l (min m a) with h | h
    · rw [h]
      rcases Int.le_total m a with h' | h'
      · rw [Int.min_eq_left h']; exact .inl rfl
      · rw [Int.min_eq_right h']; exact .inr (List.mem_cons_self ..)
    · exact .inr (List.mem_cons_of_mem _ h)

theorem getD_mem {l : List Int} {i : Nat} (h : i < l.length) : l.getD i 0 ∈ l := by
  rw [List.getD_eq_getElem?_getD, List.getElem?_eq_getElem h]; exact List.getElem_mem h

theorem lmax_ge {l : List Int} {x : Int} (h : x ∈ l) : x ≤ lmax l := foldl_max_ge l _ x (.inl h)
theorem lmax_mem {l : List Int} (h : 0 < l.length) : lmax l ∈ l := by
  rcases foldl_max_mem l (l.getD 0 0) with e | e
  · unfold lmax; rw [e]; exact getD_mem h
  · exact e
theorem lmin_le {l : List Int} {x : Int} (h : x ∈ l) : lmin l ≤ x := foldl_min_le l _ x (.inl h)
theorem lmin_mem {l : List Int} (h : 0 < l.length) : lmin l ∈ l := by
  rcases foldl_min_mem l (l.getD 0 0) with e | e
  · unfold lmin; rw [e]; exact getD_mem h
  · exact e

theorem Max_eq {l : List Int} (hk : K0 ≤ k) (h0 : 0 < l.length) (hl : l.length ≤ 1048576) : go_slices_Max_int k l = some (lmax l) := by
  unfold go_slices_Max_int go_slices_Max_int_T
  rw [if_neg (by simp only [decide_eq_true_eq]; omega), show inb 0 l.length = true from inb_lt (i := 0) h0, if_pos rfl]
  unfold go_slices_Max_int_L0
  refine iter_path (F := fun rec6 x5 => go_slices_Max_int_L0_G k l rec6 x5) (fun j => ((l.take (j + 1)).foldl max (l.getD 0 0), ((j + 1 : Nat) : Int))) (l.length - 1) ?_ (by unfold K0 at hk; omega) (fun j hj rec => ?_) (fun rec => ?_)
  · have : l.take 1 = [l.getD 0 0] := by
      cases l with
      | nil => simp at h0
      | cons a l => rfl
    rw [Nat.zero_add, this]
    simp
  · unfold go_slices_Max_int_L0_G
    have hj1 : j + 1 < l.length := by omega
    rw [if_pos (by simp only [decide_eq_true_eq]; omega), inb_lt hj1, if_pos rfl, Int.toNat_natCast, wsucc (by omega), List.take_succ_eq_append_getElem hj1, List.foldl_append]
    simp [List.getD_eq_getElem?_getD, List.getElem?_eq_getElem hj1]
  · unfold go_slices_Max_int_L0_G
    rw [if_neg (by simp only [decide_eq_true_eq]; omega), show l.length - 1 + 1 = l.length by omega, List.take_length]
    rfl

theorem Min_eq {l : List Int} (hk : K0 ≤ k) (h0 : 0 < l.length) (hl : l.length ≤ 1048576) : go_slices_Min_int k l = some (lmin l) := by
  unfold go_slices_Min_int go_slices_Min_int_T
  rw [if_neg (by simp only [decide_eq_true_eq]; omega), show inb 0 l.length = true from inb_lt (i := 0) h0, if_pos rfl]
  unfold go_slices_Min_int_L0
  refine iter_path (F := fun rec6 x5 => go_slices_Min_int_L0_G k l rec6 x5) (fun j => ((l.take (j + 1)).foldl min (l.getD 0 0), ((j + 1 : Nat) : Int))) (l.length - 1) ?_ (by unfold K0 at hk; omega) (fun j hj rec => ?_) (fun rec => ?_)
  · have : l.take 1 = [l.getD 0 0] := by
      cases l with
      | nil => simp at h0
      | cons a l => rfl
    rw [Nat.zero_add, this]
    simp
  · unfold go_slices_Min_int_L0_G
    have hj1 : j + 1 < l.length := by omega
    rw [if_pos (by simp only [decide_eq_true_eq]; omega), inb_lt hj1, if_pos rfl, Int.toNat_natCast, wsucc (by omega), List.take_succ_eq_append_getElem hj1, List.foldl_append]
    simp [List.getD_eq_getElem?_getD, List.getElem?_eq_getElem hj1]
  · unfold go_slices_Min_int_L0_G
    rw [if_neg (by simp only [decide_eq_true_eq]; omega), show l.length - 1 + 1 = l.length by omega, List.take_length]
    rfl

/-- The first place of the greatest value that isn't below nought. -/
def mostIx (l : List Int) : Nat → Int
  | 0 => -1
  | j + 1 => if 0 ≤ l.getD j 0 ∧ (mostIx l j < 0 ∨ l.getD (mostIx l j).toNat 0 < l.getD j 0) then (j : Int) else mostIx l j

theorem mostIx_facts (l : List Int) : ∀ j, (mostIx l j = -1 ∧ ∀ i, i < j → l.getD i 0 < 0) ∨ (0 ≤ mostIx l j ∧ mostIx l j < j ∧ 0 ≤ l.getD (mostIx l j).toNat 0 ∧ ∀ i, i < j → l.getD i 0 ≤ l.getD (mostIx l j).toNat 0)
  | 0 => .inl ⟨rfl, fun i h => by omega⟩
  | j + 1 => by
    unfold mostIx
    rcases mostIx_facts l j with ⟨h1, h2⟩ | ⟨h1, h2, h3, h4⟩
    · by_cases h : 0 ≤ l.getD j 0
      · rw [if_pos ⟨h, .inl (by omega)⟩]
        refine .inr ⟨by omega, by omega, by rw [Int.toNat_natCast]; exact h, fun i hi => ?_⟩
        rw [Int.toNat_natCast]
        rcases Nat.lt_or_ge i j with h' | h'
        · have := h2 i h'; omega
        · have : i = j := by omega
          rw [this]; omega
      · rw [if_neg fun h' => h h'.1]
        refine .inl ⟨h1, fun i hi => ?_⟩
        rcases Nat.lt_or_ge i j with h' | h'
        · exact h2 i h'
        · have : i = j := by omega
          rw [this]; omega
    · by_cases h : l.getD (mostIx l j).toNat 0 < l.getD j 0
      · rw [if_pos ⟨by omega, .inr h⟩]
        refine .inr ⟨by omega, by omega, by rw [Int.toNat_natCast]; omega, fun i hi => ?_⟩
        rw [Int.toNat_natCast]
        rcases Nat.lt_or_ge i j with h' | h'
        · have := h4 i h'; omega
        · have : i = j := by omega
          rw [this]; omega
      · rw [if_neg fun h' => by rcases h'.2 with h'' | h'' <;> omega]
        refine .inr ⟨h1, by omega, h3, fun i hi => ?_⟩
        rcases Nat.lt_or_ge i j with h' | h'
        · exact h4 i h'
        · have : i = j := by omega
          rw [this]; omega

theorem faMost_eq {l : List Int} (hk : K0 ≤ k) (hl : l.length ≤ 1048576) (hpos : ∃ i, i < l.length ∧ 0 ≤ l.getD i 0) : go_spec_faMost k l = some (mostIx l l.length, (lmax l, ())) := by
  obtain ⟨i0, hi0, hp0⟩ := hpos
  unfold go_spec_faMost go_spec_faMost_T go_spec_faMost_L0
  refine iter_path (F := fun rec6 x5 => go_spec_faMost_L0_G k l rec6 x5) (fun j => (mostIx l j, (j : Int))) l.length rfl (by unfold K0 at hk; omega) (fun j hj rec => ?_) (fun rec => ?_)
  · unfold go_spec_faMost_L0_G
    rw [if_pos (by simp only [decide_eq_true_eq]; omega), inb_lt hj, if_pos rfl, Int.toNat_natCast, wsucc (by omega)]
    have hin : (!((!(decide (mostIx l j < (0 : Int)))) && (decide ((0 : Int) ≤ l.getD j 0))) || (inb (mostIx l j) l.length)) = true := by
      rcases mostIx_facts l j with ⟨h1, _⟩ | ⟨h1, h2, _, _⟩
      · rw [h1]; rfl
      · have : inb (mostIx l j) l.length = true := by simp [inb]; omega
        rw [this, Bool.or_true]
    rw [if_pos hin]
    show _ = rec (mostIx l (j + 1), _)
    conv => rhs; unfold mostIx
    by_cases h : 0 ≤ l.getD j 0 ∧ (mostIx l j < 0 ∨ l.getD (mostIx l j).toNat 0 < l.getD j 0)
    · rw [if_pos h, if_pos (by simp only [Bool.and_eq_true, Bool.or_eq_true, decide_eq_true_eq]; exact h)]
    · rw [if_neg h, if_neg (by simp only [Bool.and_eq_true, Bool.or_eq_true, decide_eq_true_eq]; exact h)]
  · unfold go_spec_faMost_L0_G
    rcases mostIx_facts l l.length with ⟨h1, h2⟩ | ⟨h1, h2, h3, h4⟩
    · have := h2 i0 hi0; omega
    · rw [if_neg (by simp), if_pos (by simp [inb]; omega)]
      congr 2
      congr 1
      refine Int.le_antisymm (lmax_ge (getD_mem (by omega))) ?_
      obtain ⟨i, hi, hie⟩ := List.mem_iff_getElem.1 (lmax_mem (l := l) (by omega))
      have := h4 i hi
      rw [List.getD_eq_getElem?_getD, List.getElem?_eq_getElem hi] at this
      rw [← hie]
      exact this

end Go.Lg
