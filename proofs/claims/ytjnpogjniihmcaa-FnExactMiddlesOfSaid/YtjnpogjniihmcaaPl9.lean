/-
  Plain law: parts and sides, as the program makes them.
-/
import Derived.Test.YtjnpogjniihmcaaPart
set_option linter.unusedVariables false
set_option linter.unusedSimpArgs false
namespace Go.Lg
open Go.RowKit Go.IntWalk

variable {k : Nat}

def zzs (l : List (List Nat)) : List (List Int) := l.map zs

noncomputable def cdec (p : Prop) : Bool := @decide p (Classical.propDecidable _)
theorem cdec_iff {p : Prop} : cdec p = true ↔ p := by simp [cdec]

theorem zzs_append (l m : List (List Nat)) : zzs (l ++ m) = zzs l ++ zzs m := by simp [zzs]
theorem zzs_get {l : List (List Nat)} {i : Nat} {x : List Nat} (h : l[i]? = some x) : (zzs l).getD i [] = zs x := by simp [zzs, List.getD_eq_getElem?_getD, h]
@[simp] theorem zzs_length (l : List (List Nat)) : (zzs l).length = l.length := by simp [zzs]

section
variable {W H a b : Nat} {hs : List Nat}

noncomputable abbrev bfar (W H : Nat) (hs : List Nat) (a b c : Nat) : List Int := bfs (leaps W H hs a b) (W * H) c

theorem bfar_length {c : Nat} (hc : hasN W H hs c = true) : (bfar W H hs a b c).length = W * H := (bfs_far leaps_lt (hasN_lt hc)).len

/-- What was seen after the first i cells. -/
noncomputable def seenTo (N : Nat) (nb : Nat → List Nat) (cs : List Nat) (i : Nat) : List Bool := (List.range N).map fun x => cdec (∃ c ∈ cs.take i, Conn nb c x)

theorem map_range_set_lt {α : Type} (n c : Nat) (f : Nat → α) (v : α) : ((List.range n).map f).set c v = (List.range n).map fun x => if x = c then v else f x := map_range_set n c f v

theorem parts_eq (hk : K0 ≤ k) (hg : Gd W H hs) : go_impl_graph_parts k (some (graph W H hs a b)) = some (zzs (partsOf (leaps W H hs a b) (W * H) (cells W H hs))) := by
  have h64 := hg.n64
  have hcs := cells_cs (W := W) (H := H) (a := a) (b := b) (hs := hs)
  have hcl := cells_length (W := W) (H := H) (hs := hs)
  have hc3 : (graph W H hs a b).2.2.1 = zs (cells W H hs) := rfl
  have hnr : (graph W H hs a b).2.2.2.1 = near W H hs a b := rfl
  unfold go_impl_graph_parts go_impl_graph_parts_T
  simp only [Option.getD_some, Option.isSome_some, if_true, hnr, near_length]
  rw [if_pos (by simp only [decide_eq_true_eq]; constructor; omega; simp [LIM]; omega)]
  unfold go_impl_graph_parts_L0
  refine iter_path (F := fun rec41 x40 => go_impl_graph_parts_L0_G k (some (graph W H hs a b)) (fun c0 c1 y => go_impl_graph_parts_L1 k (some (graph W H hs a b)) rec41 c0 c1 y) rec41 x40)
    (fun i => ((i : Int), zzs ((((cells W H hs).take i).filter (isRep (leaps W H hs a b) (cells W H hs))).map (reach (leaps W H hs a b) (W * H))), seenTo (W * H) (leaps W H hs a b) (cells W H hs) i)) (cells W H hs).length ?_ (by unfold K0 at hk; omega) (fun i hi rec => ?_) (fun rec => ?_)
  · simp [seenTo, zzs, List.map_const', Int.toNat_natCast, cdec]
    rw [← Int.natCast_mul, Int.toNat_natCast]
  · have hget := List.getElem?_eq_getElem hi
    generalize hcc : (cells W H hs)[i] = c at hget
    have hcm := List.mem_of_getElem? hget
    have hch := mem_cells.1 hcm
    have hcN := hasN_lt hch
    have htake : (cells W H hs).take (i + 1) = (cells W H hs).take i ++ [c] := by rw [List.take_succ_eq_append_getElem hi, hcc]
    have hslen : (seenTo (W * H) (leaps W H hs a b) (cells W H hs) i).length = W * H := by simp [seenTo]
    have hsget : (seenTo (W * H) (leaps W H hs a b) (cells W H hs) i).getD c false = !isRep (leaps W H hs a b) (cells W H hs) c := by
      have : (seenTo (W * H) (leaps W H hs a b) (cells W H hs) i).getD c false = cdec (∃ d ∈ (cells W H hs).take i, Conn (leaps W H hs a b) d c) := by
        simp [seenTo, List.getD_eq_getElem?_getD, List.getElem?_range hcN]
      rw [this]
      cases hr : isRep (leaps W H hs a b) (cells W H hs) c with
      | false =>
        have := (hcs.seen_iff hget).2 hr
        rw [cdec_iff.2 this]; rfl
      | true =>
        have : ¬ ∃ d ∈ (cells W H hs).take i, Conn (leaps W H hs a b) d c := fun h => by
          have := (hcs.seen_iff hget).1 h
          rw [hr] at this; cases this
        rw [Bool.not_true, ← Bool.not_eq_true, cdec_iff]; exact this
    unfold go_impl_graph_parts_L0_G
    simp only [Option.getD_some, hc3, zs_length, zs_get hget, Int.toNat_natCast, hslen, inb_lt hcN, hsget]
    rw [if_pos (by simpa using hi), inb_lt hi, if_pos rfl, if_pos trivial]
    by_cases hr : isRep (leaps W H hs a b) (cells W H hs) c = true
    · rw [hr, if_neg (by decide), far_eq hk hg hch]
      simp only [Option.bind_some]
      have hF := bfs_far (nb := leaps W H hs a b) leaps_lt hcN
      have hmr := fun x => hcs.mem_reach hcm (x := x)
      have hbc := fun x hx => hcs.bfs_conn hcm (x := x) hx
      unfold go_impl_graph_parts_L1
      refine iter_path (F := fun rec50 x49 => go_impl_graph_parts_L1_G k (some (graph W H hs a b)) ((i : Int), zzs ((((cells W H hs).take i).filter (isRep (leaps W H hs a b) (cells W H hs))).map (reach (leaps W H hs a b) (W * H))), seenTo (W * H) (leaps W H hs a b) (cells W H hs) i) (bfs (leaps W H hs a b) (W * H) c) rec rec50 x49)
        (fun j => ((j : Int), (List.range (W * H)).map (fun x => (seenTo (W * H) (leaps W H hs a b) (cells W H hs) i).getD x false || (decide (x < j) && decide (0 ≤ (bfs (leaps W H hs a b) (W * H) c).getD x 0))), zs ((List.range j).filter fun x => decide (0 ≤ (bfs (leaps W H hs a b) (W * H) c).getD x 0)))) (W * H) ?_ (by unfold K0 at hk; omega) (fun j hj rec2 => ?_) (fun rec2 => ?_)
      · simp only [List.range_zero, List.filter_nil, zs_nil, Prod.mk.injEq, and_true]
        refine ⟨rfl, ?_⟩
        refine List.ext_getElem (by simp [hslen]) fun x h1 h2 => ?_
        simp [List.getD_eq_getElem?_getD, List.getElem?_eq_getElem h1]
      · unfold go_impl_graph_parts_L1_G
        have hpl := filter_range_length (n := j) fun x => decide (0 ≤ (bfs (leaps W H hs a b) (W * H) c).getD x 0)
        simp only [hF.len, Int.toNat_natCast, List.length_map, List.length_range, inb_lt hj, wsucc (show j < 9223372036854775807 by omega), zs_length]
        rw [if_pos (by simp only [decide_eq_true_eq]; omega)]
        simp only [if_true, List.range_succ, List.filter_append]
        by_cases h0 : 0 ≤ (bfs (leaps W H hs a b) (W * H) c).getD j 0
        · rw [if_pos (by simpa using h0), if_pos (lim_le (by simp only [List.length_singleton]; omega)), map_range_set]
          congr 2
          · have e : (List.filter (fun x => decide (0 ≤ (bfs (leaps W H hs a b) (W * H) c).getD x 0)) [j]) = [j] := by simp only [List.filter_cons, h0, decide_true, if_true, List.filter_nil]
            rw [e, zs_single, ← zs_append]
            congr 1
            refine List.map_congr_left fun x hx => ?_
            by_cases hxj : x = j
            · subst hxj
              have : x < x + 1 := by omega
              simp only [if_true, this, decide_true, Bool.true_and, h0, Bool.or_true]
            · rw [if_neg hxj]
              have : (decide (x < j)) = decide (x < j + 1) := by
                rw [Bool.eq_iff_iff, decide_eq_true_eq, decide_eq_true_eq]; omega
              rw [this]
        · rw [if_neg (by simpa using h0)]
          have e : (List.filter (fun x => decide (0 ≤ (bfs (leaps W H hs a b) (W * H) c).getD x 0)) [j]) = [] := by simp only [List.filter_cons, h0, decide_false, Bool.false_eq_true, if_false, List.filter_nil]
          rw [e, List.append_nil]
          congr 2
          congr 1
          refine List.map_congr_left fun x hx => ?_
          by_cases hxj : x = j
          · subst hxj
            simp only [h0, decide_false, Bool.and_false]
          · have : (decide (x < j)) = decide (x < j + 1) := by
              rw [Bool.eq_iff_iff, decide_eq_true_eq, decide_eq_true_eq]; omega
            rw [this]
      · unfold go_impl_graph_parts_L1_G
        rw [if_neg (by simp [hF.len])]
        have hpl : ((((cells W H hs).take i).filter (isRep (leaps W H hs a b) (cells W H hs))).map (reach (leaps W H hs a b) (W * H))).length ≤ W * H := by
          rw [List.length_map]
          refine Nat.le_trans (List.length_filter_le _ _) ?_
          rw [List.length_take]; omega
        rw [if_pos (lim_le (by simp only [zzs_length, List.length_singleton]; omega)), wsucc (by omega), htake, List.filter_append, List.map_append, zzs_append]
        congr 2
        have e : (List.filter (isRep (leaps W H hs a b) (cells W H hs)) [c]) = [c] := by simp [hr]
        rw [e]
        congr 1
        unfold seenTo
        refine List.map_congr_left fun x hx => ?_
        have hxN := List.mem_range.1 hx
        have e1 : ((List.range (W * H)).map fun x => cdec (∃ c ∈ (cells W H hs).take i, Conn (leaps W H hs a b) c x)).getD x false = cdec (∃ c ∈ (cells W H hs).take i, Conn (leaps W H hs a b) c x) := by
          simp [List.getD_eq_getElem?_getD, List.getElem?_range hxN]
        rw [e1, htake]
        rw [Bool.eq_iff_iff, Bool.or_eq_true, Bool.and_eq_true, decide_eq_true_eq, decide_eq_true_eq, cdec_iff, cdec_iff, hbc x hxN]
        constructor
        · rintro (⟨d, hd, h⟩ | ⟨_, h⟩)
          · exact ⟨d, List.mem_append.2 (.inl hd), h⟩
          · exact ⟨c, by simp, h⟩
        · rintro ⟨d, hd, h⟩
          rcases List.mem_append.1 hd with hd | hd
          · exact .inl ⟨d, hd, h⟩
          · simp at hd; subst hd; exact .inr ⟨hxN, h⟩
    · have hrf : isRep (leaps W H hs a b) (cells W H hs) c = false := by simpa using hr
      rw [hrf, if_pos (by decide), wsucc (by omega), htake, List.filter_append]
      have e : (List.filter (isRep (leaps W H hs a b) (cells W H hs)) [c]) = [] := by simp [hrf]
      rw [e, List.append_nil]
      congr 3
      unfold seenTo
      refine List.map_congr_left fun x hx => ?_
      rw [Bool.eq_iff_iff, cdec_iff, cdec_iff, htake]
      constructor
      · rintro ⟨d, hd, h⟩
        exact ⟨d, List.mem_append.2 (.inl hd), h⟩
      · rintro ⟨d, hd, h⟩
        rcases List.mem_append.1 hd with hd | hd
        · exact ⟨d, hd, h⟩
        · simp at hd; subst hd
          obtain ⟨d', hd', h'⟩ := (hcs.seen_iff hget).2 hrf
          exact ⟨d', hd', h'.trans h⟩
  · unfold go_impl_graph_parts_L0_G
    simp only [Option.getD_some, hc3, zs_length]
    rw [if_neg (by simp), List.take_length]
    rfl

end
end Go.Lg
