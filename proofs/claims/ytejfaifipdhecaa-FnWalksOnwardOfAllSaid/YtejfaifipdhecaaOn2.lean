/-
  Plain law: numbers of walks, and back.
-/
import Derived.Test.YtejfaifipdhecaaOn
set_option linter.unusedVariables false
set_option linter.unusedSimpArgs false
namespace Go.Lg
open Go.RowKit Go.IntWalk

variable {k : Nat}

section
variable {W H a b : Nat} {hs : List Nat}

theorem onward_cases (hk : K0 ≤ k) (B : BT) (L : LT) (start : Int) :
    (go_impl_FewestOnward k B L start = some ([], (false, ())) ∧ go_spec_FewestOnward k B L start = some ([], (false, ()))) ∨
    (∃ (W H a b : Nat) (hs r : List Nat), B = bd W H hs ∧ L = ld a b ∧ Gd W H hs ∧ go_impl_graphOf k B L = some (some (graph W H hs a b), (true, ())) ∧ WalkN W H hs a b r ∧ ((r.getD 0 0 : Nat) : Int) = start ∧ (∀ d ∈ leaps W H hs a b (r.getD (r.length - 1) 0), d ∈ r) ∧
      go_impl_FewestOnward k B L start = some (zs r, (true, ())) ∧ go_spec_FewestOnward k B L start = some (zs r, (true, ()))) := by
  unfold go_impl_FewestOnward go_spec_FewestOnward go_spec_FewestOnward_T go_impl_two
  rcases two_casesJ hk B L with ⟨h1, h2⟩ | ⟨h1, W, H, a, b, hs, rfl, rfl, hg, hG, hL, hab, hb1, hb5, h2⟩
  · rw [h1, h2]; exact .inl ⟨rfl, rfl⟩
  · rw [h1, h2]
    simp only [Option.bind_some, Bool.not_true, Bool.not_false, if_true, has_eq hk hg, boHas_eq hk hg, Bool.false_or]
    cases hh : hasI W H hs start with
    | false => exact .inl ⟨rfl, rfl⟩
    | true =>
      obtain ⟨c1, c2⟩ := hasI_some hh
      have hw : WalkN W H hs a b [start.toNat] := by
        refine ⟨⟨by simp, by simp, fun c hc => ?_, fun i hi => ?_⟩, by simp⟩
        · rw [List.mem_singleton.1 hc]; exact c2
        · simp at hi
      obtain ⟨r, r1, r2, r3, r4, r5⟩ := onward_all (k := k) hk hg start 64 [start.toNat] hw (by simp)
      have z1 : zs [start.toNat] = [start] := by rw [← zs_single, ← c1]
      rw [z1] at r4 r5
      have e1 := r4 k (by unfold K0 at hk; omega)
      have e2 := r5 k (by unfold K0 at hk; omega)
      simp only [if_true, Option.bind_some, Bool.not_true, Bool.false_eq_true, if_false, Bool.or_self]
      refine .inr ⟨W, H, a, b, hs, r, rfl, rfl, hg, rfl, r1, by rw [r2]; exact c1.symm, r3, ?_, ?_⟩
      · unfold go_impl_graph_onward go_impl_graph_onward_T go_impl_graph_onward_L0
        exact congrArg (fun o : Option (List Int) => o.bind fun r2 => some (r2, (true, ()))) e1
      · unfold go_spec_FewestOnward_L0
        exact e2

/-! ### numbers of a walk -/

def setN (q : List Nat) (l : List Nat) (j : Nat) : List Nat := l.set (q.getD j 0) (j + 1)
def numsN (N : Nat) (q : List Nat) : List Nat := (List.range q.length).foldl (setN q) (List.replicate N 0)

/-- A list of numbers and a walk tell the same. -/
structure NumInv (N : Nat) (z p : List Nat) : Prop where
  len : z.length = N
  fw : ∀ j, j < p.length → p.getD j 0 < N ∧ z.getD (p.getD j 0) 0 = j + 1
  bw : ∀ c, c < N → z.getD c 0 = 0 ∨ (1 ≤ z.getD c 0 ∧ z.getD c 0 ≤ p.length ∧ p.getD (z.getD c 0 - 1) 0 = c)

theorem getD_out {l : List Nat} {i : Nat} (h : l.length ≤ i) : l.getD i 0 = 0 := by
  rw [List.getD_eq_getElem?_getD, List.getElem?_eq_none h]; rfl

theorem nums_inv {N : Nat} {q : List Nat} (hn : q.Nodup) (hb : ∀ j, j < q.length → q.getD j 0 < N) : ∀ i, i ≤ q.length → NumInv N ((List.range i).foldl (setN q) (List.replicate N 0)) (q.take i)
  | 0, _ => by
    refine ⟨by simp, fun j hj => by simp at hj, fun c hc => .inl ?_⟩
    simp [List.getD_eq_getElem?_getD, List.getElem?_replicate, hc]
  | i + 1, hi => by
    have ih := nums_inv hn hb i (by omega)
    rw [List.range_succ, List.foldl_append]
    simp only [List.foldl_cons, List.foldl_nil]
    generalize (List.range i).foldl (setN q) (List.replicate N 0) = l at ih
    have hql : q.getD i 0 < N := hb i (by omega)
    have hlen : (q.take (i + 1)).length = i + 1 := by rw [List.length_take]; omega
    have hlen0 : (q.take i).length = i := by rw [List.length_take]; omega
    have inj : ∀ j, j < i → q.getD j 0 ≠ q.getD i 0 := fun j hj e => by
      rw [List.Nodup, List.pairwise_iff_getElem] at hn
      have := hn j i (by omega) (by omega) hj
      rw [List.getD_eq_getElem?_getD, List.getD_eq_getElem?_getD, List.getElem?_eq_getElem (show j < q.length by omega), List.getElem?_eq_getElem (show i < q.length by omega)] at e
      exact this e
    unfold setN
    refine ⟨by rw [List.length_set]; exact ih.len, fun j hj => ?_, fun c hc => ?_⟩
    · rw [hlen] at hj
      rw [getD_take' _ hj]
      refine ⟨hb j (by omega), ?_⟩
      rw [getD_set _ _ _ _ (by rw [ih.len]; exact hql)]
      by_cases e : q.getD i 0 = q.getD j 0
      · rw [if_pos e]
        by_cases e2 : j < i
        · exact absurd e.symm (inj j e2)
        · omega
      · rw [if_neg e]
        have hji : j < i := by
          by_cases e2 : j = i
          · exact absurd (by rw [e2]) e
          · omega
        have := (ih.fw j (by rw [hlen0]; exact hji)).2
        rw [getD_take' _ hji] at this
        exact this
    · rw [getD_set _ _ _ _ (by rw [ih.len]; exact hql)]
      by_cases e : q.getD i 0 = c
      · rw [if_pos e]
        exact .inr ⟨by omega, by rw [hlen]; omega, by rw [Nat.add_sub_cancel, getD_take' _ (by omega)]; exact e⟩
      · rw [if_neg e]
        rcases ih.bw c hc with h | ⟨h1, h2, h3⟩
        · exact .inl h
        · rw [hlen0] at h2
          rw [getD_take' _ (by omega)] at h3
          exact .inr ⟨h1, by rw [hlen]; omega, by rw [getD_take' _ (by omega)]; exact h3⟩

theorem numsN_inv {N : Nat} {q : List Nat} (hn : q.Nodup) (hb : ∀ j, j < q.length → q.getD j 0 < N) : NumInv N (numsN N q) q := by
  have := nums_inv hn hb q.length (Nat.le_refl _)
  rw [List.take_length] at this
  exact this

theorem NumInv.uniq_z {N : Nat} {z z' p : List Nat} (h : NumInv N z p) (h' : NumInv N z' p) : z = z' := by
  have key : ∀ {z z' : List Nat}, NumInv N z p → NumInv N z' p → ∀ c, c < N → z.getD c 0 ≠ 0 → z'.getD c 0 = z.getD c 0 := fun {z z'} h h' c hc hne => by
    rcases h.bw c hc with e | ⟨h1, h2, h3⟩
    · exact absurd e hne
    · have := (h'.fw (z.getD c 0 - 1) (by omega)).2
      rw [h3] at this
      omega
  refine ext_getD (by rw [h.len, h'.len]) fun c hc => ?_
  rw [h.len] at hc
  by_cases e : z.getD c 0 = 0
  · by_cases e' : z'.getD c 0 = 0
    · rw [e, e']
    · rw [key h' h c hc e']
  · rw [key h h' c hc e]

theorem NumInv.len_le {N : Nat} {z p p' : List Nat} (h : NumInv N z p) (h' : NumInv N z p') : p.length ≤ p'.length := by
  by_cases hlt : p'.length < p.length
  · have h1 := h.fw p'.length hlt
    rcases h'.bw _ h1.1 with e | ⟨e1, e2, e3⟩ <;> omega
  · omega
theorem NumInv.uniq_p {N : Nat} {z p p' : List Nat} (h : NumInv N z p) (h' : NumInv N z p') : p = p' := by
  have l1 := h.len_le h'
  have l2 := h'.len_le h
  refine ext_getD (by omega) fun j hj => ?_
  have h1 := h.fw j hj
  rcases h'.bw _ h1.1 with e | ⟨e1, e2, e3⟩
  · omega
  · rw [h1.2, Nat.add_sub_cancel] at e3
    exact e3.symm

theorem NumInv.nodup {N : Nat} {z p : List Nat} (h : NumInv N z p) : p.Nodup := by
  rw [List.Nodup, List.pairwise_iff_getElem]
  intro i j hi hj hij e
  have h1 := (h.fw i hi).2
  have h2 := (h.fw j hj).2
  rw [List.getD_eq_getElem?_getD (l := p), List.getElem?_eq_getElem hi] at h1
  rw [List.getD_eq_getElem?_getD (l := p), List.getElem?_eq_getElem hj] at h2
  simp only [Option.getD_some] at h1 h2
  rw [e] at h1
  omega

theorem NumInv.count {N : Nat} {z p : List Nat} (h : NumInv N z p) : z.countP (fun x => decide (0 < x)) = p.length := by
  have e : z = (List.range N).map fun c => z.getD c 0 := ext_getD (by rw [List.length_map, List.length_range, h.len]) fun i hi => by
    rw [h.len] at hi
    rw [List.getD_eq_getElem?_getD (l := (List.range N).map _), List.getElem?_map, List.getElem?_range hi]
    rfl
  rw [e, List.countP_map, List.countP_eq_length_filter]
  have n1 : ((List.range N).filter ((fun x => decide (0 < x)) ∘ fun c => z.getD c 0)).Nodup := (List.nodup_range).filter _
  have s1 : ∀ x ∈ (List.range N).filter ((fun x => decide (0 < x)) ∘ fun c => z.getD c 0), x ∈ p := fun c hc => by
    rw [List.mem_filter] at hc
    obtain ⟨hc1, hc2⟩ := hc
    simp only [Function.comp, decide_eq_true_eq] at hc2
    rcases h.bw c (List.mem_range.1 hc1) with e | ⟨e1, e2, e3⟩
    · omega
    · rw [← e3, List.getD_eq_getElem?_getD, List.getElem?_eq_getElem (by omega)]
      exact List.getElem_mem _
  have s2 : ∀ x ∈ p, x ∈ (List.range N).filter ((fun x => decide (0 < x)) ∘ fun c => z.getD c 0) := fun c hc => by
    obtain ⟨j, hj⟩ := List.getElem?_of_mem hc
    have := h.fw j (length_lt hj)
    rw [List.getD_eq_getElem?_getD (l := p), hj, Option.getD_some] at this
    rw [List.mem_filter]
    refine ⟨List.mem_range.2 this.1, ?_⟩
    simp only [Function.comp, decide_eq_true_eq]
    omega
  have l1 := nodup_length_le n1 s1
  have l2 := nodup_length_le h.nodup s2
  omega

theorem WalkN.inv {q : List Nat} (hq : WalkN W H hs a b q) : NumInv (W * H) (numsN (W * H) q) q := numsN_inv hq.nodup fun j hj => hasW_lt (hq.toPathN.hasJ hj)

theorem wWH (hg : Gd W H hs) : IntKind.i64.wrap ((W : Int) * (H : Int)) = ((W * H : Nat) : Int) := by
  have := hg.n64
  rw [← Int.natCast_mul]
  exact wnat (by omega)

theorem repl_zs (n : Nat) : List.replicate n (0 : Int) = zs (List.replicate n 0) := by simp [zs]

theorem numbers_eq (hk : K0 ≤ k) (hg : Gd W H hs) {q : List Nat} (hq : WalkN W H hs a b q) : go_impl_Board_numbers k (bd W H hs) (zs q) = some (zs (numsN (W * H) q)) := by
  have h64 := hg.n64
  have hq64 := hq.len64
  have w1 : (bd W H hs).1 = (W : Int) := rfl
  have w2 : (bd W H hs).2.1 = (H : Int) := rfl
  unfold go_impl_Board_numbers go_impl_Board_numbers_T
  rw [w1, w2, wWH hg, if_pos (by rw [decide_eq_true_eq]; unfold LIM; omega), Int.toNat_natCast, repl_zs]
  unfold go_impl_Board_numbers_L0
  refine iter_list (F := fun rec6 x5 => go_impl_Board_numbers_L0_G k (bd W H hs) (zs q) rec6 x5) (fun i l => ((i : Int), zs l)) (setN q) q.length (out := fun l => some (zs l)) (List.replicate (W * H) 0) rfl (by unfold K0 at hk; omega) (fun _ l => l.length = W * H) (by simp) (fun i l hi hl => ⟨fun rec => ?_, by rw [setN, List.length_set]; exact hl⟩) (fun l _ rec => ?_)
  · unfold go_impl_Board_numbers_L0_G
    have e1 : decide ((i : Int) < (q.length : Int)) = true := by simpa using hi
    have hb := hasW_lt (hq.toPathN.hasJ hi)
    simp only [zs_length, e1, if_true, inb_lt hi, Int.toNat_natCast, zs_getD, hl, inb_lt hb, wsucc (show i < 9223372036854775807 by omega), zs_set, setN]
  · unfold go_impl_Board_numbers_L0_G
    have e1 : decide ((q.length : Int) < (q.length : Int)) = false := by simp
    simp only [zs_length, e1, Bool.false_eq_true, if_false]

theorem specNumbers_eq (hk : K0 ≤ k) (hg : Gd W H hs) {q : List Nat} (hq : WalkN W H hs a b q) : go_spec_NumbersOfWalk_L0 k (bd W H hs) (ld a b) (zs q) ((0 : Int), zs (List.replicate (W * H) 0)) = some (zs (numsN (W * H) q), (true, ())) := by
  have h64 := hg.n64
  have hq64 := hq.len64
  unfold go_spec_NumbersOfWalk_L0
  refine iter_list (F := fun rec8 x7 => go_spec_NumbersOfWalk_L0_G k (bd W H hs) (ld a b) (zs q) rec8 x7) (fun i l => ((i : Int), zs l)) (setN q) q.length (out := fun l => some (zs l, (true, ()))) (List.replicate (W * H) 0) rfl (by unfold K0 at hk; omega) (fun _ l => l.length = W * H) (by simp) (fun i l hi hl => ⟨fun rec => ?_, by rw [setN, List.length_set]; exact hl⟩) (fun l _ rec => ?_)
  · unfold go_spec_NumbersOfWalk_L0_G
    have e1 : decide ((i : Int) < (q.length : Int)) = true := by simpa using hi
    have hb := hasW_lt (hq.toPathN.hasJ hi)
    simp only [zs_length, e1, if_true, inb_lt hi, Int.toNat_natCast, zs_getD, hl, inb_lt hb, wsucc (show i < 9223372036854775807 by omega), zs_set, setN]
  · unfold go_spec_NumbersOfWalk_L0_G
    have e1 : decide ((q.length : Int) < (q.length : Int)) = false := by simp
    simp only [zs_length, e1, Bool.false_eq_true, if_false]

theorem numsN_length (N : Nat) (q : List Nat) : (numsN N q).length = N := by
  have key : ∀ i, ((List.range i).foldl (setN q) (List.replicate N 0)).length = N := fun i => by
    induction i with
    | zero => simp
    | succ i ih => rw [List.range_succ, List.foldl_append]; simp only [List.foldl_cons, List.foldl_nil, setN, List.length_set]; exact ih
  exact key _

end

/-- What is told about a walk: numbers, whether it is one, whether it is a tour. -/
theorem walk_cases (hk : K0 ≤ k) (B : BT) (L : LT) (p : List Int) :
    (go_impl_NumbersOfWalk k B L p = some ([], (false, ())) ∧ go_spec_NumbersOfWalk k B L p = some ([], (false, ())) ∧ ∃ w t : Bool × (Bool × Unit), go_impl_IsWalk k B L p = some w ∧ go_spec_IsWalk k B L p = some w ∧ go_impl_IsTour k B L p = some t ∧ go_spec_IsTour k B L p = some t ∧ (w.2.1 && w.1) = false ∧ t.1 = false) ∨
    (∃ (W H a b : Nat) (hs q : List Nat), B = bd W H hs ∧ L = ld a b ∧ p = zs q ∧ Gd W H hs ∧ isGood (bd W H hs) = true ∧ WalkN W H hs a b q ∧ go_impl_graphOf k B L = some (some (graph W H hs a b), (true, ())) ∧ go_spec_boTwo k B L = some true ∧ go_impl_NumbersOfWalk k B L p = some (zs (numsN (W * H) q), (true, ())) ∧ go_spec_NumbersOfWalk k B L p = some (zs (numsN (W * H) q), (true, ())) ∧
      go_impl_IsWalk k B L p = some (true, (true, ())) ∧ go_spec_IsWalk k B L p = some (true, (true, ())) ∧ go_impl_IsTour k B L p = some (decide (q.length = (cells W H hs).length), (true, ())) ∧ go_spec_IsTour k B L p = some (decide (q.length = (cells W H hs).length), (true, ()))) := by
  unfold go_impl_NumbersOfWalk go_spec_NumbersOfWalk go_spec_NumbersOfWalk_T go_impl_IsWalk go_spec_IsWalk go_impl_IsTour go_spec_IsTour go_impl_graph_isTour go_spec_toTour
  rcases two_casesJ hk B L with ⟨h1, h2⟩ | ⟨h1, W, H, a, b, hs, rfl, rfl, hg, hG, hL, hab, hb1, hb5, h2⟩
  · rw [h1, h2]
    exact .inl ⟨rfl, rfl, (false, (false, ())), (false, (false, ())), rfl, rfl, rfl, rfl, rfl, rfl⟩
  · rw [h1, h2]
    simp only [Option.bind_some, Bool.not_true, Bool.not_false, if_true, isWalk_eq hk hg, toWalk_eq hk hg, Bool.false_or, Bool.false_eq_true, if_false, Option.isSome_some, Bool.or_true, Option.getD_some, gW_cells, zs_length]
    cases hw : walkB W H hs a b p with
    | false =>
      exact .inl ⟨rfl, rfl, (false, (true, ())), (false, (true, ())), rfl, rfl, rfl, rfl, rfl, rfl⟩
    | true =>
      obtain ⟨q, rfl, hq⟩ := walkB_walk hw
      have h64 := hg.n64
      have w1 : (bd W H hs).1 = (W : Int) := rfl
      have w2 : (bd W H hs).2.1 = (H : Int) := rfl
      have ec : decide ((q.length : Int) = ((cells W H hs).length : Int)) = decide (q.length = (cells W H hs).length) := by rw [decide_eq_decide]; omega
      have el : decide ((0 : Int) ≤ ((W * H : Nat) : Int) ∧ ((W * H : Nat) : Int) ≤ (LIM : Int)) = true := by rw [decide_eq_true_eq]; unfold LIM; omega
      simp only [Bool.not_true, Bool.false_eq_true, if_false, if_true, numbers_eq hk hg hq, Option.bind_some, w1, w2, wWH hg, el, Int.toNat_natCast, repl_zs, specNumbers_eq hk hg hq, boCells_eq hk hg, zs_length, ec, Bool.true_and]
      exact .inr ⟨W, H, a, b, hs, q, rfl, rfl, rfl, hg, hG, hq, (by first | rfl | trivial), (by first | rfl | trivial), (by first | rfl | trivial), (by first | rfl | trivial), (by first | rfl | trivial), (by first | rfl | trivial), (by first | rfl | trivial), (by first | rfl | trivial)⟩

end Go.Lg
