/-
  Plain law: the program's search for a painting at one and two leaps.
-/
import Derived.Test.YtjnpogjniihmcaaPl12
set_option linter.unusedVariables false
set_option linter.unusedSimpArgs false
namespace Go.Lg
open Go.RowKit Go.IntWalk

variable {k : Nat}

section
variable {W H a b : Nat} {hs : List Nat}

/-- The cell at a place of the list; behind its end: the number of all cells. -/
def posN (W H : Nat) (hs : List Nat) (i : Nat) : Nat := ((cells W H hs)[i]?).getD (W * H)

theorem posN_some {i c : Nat} (h : (cells W H hs)[i]? = some c) : posN W H hs i = c := by simp [posN, h]
theorem posN_none {i : Nat} (h : (cells W H hs).length ≤ i) : posN W H hs i = W * H := by simp [posN, List.getElem?_eq_none h]

theorem posN_le (i : Nat) : posN W H hs i ≤ W * H := by
  unfold posN
  cases h : (cells W H hs)[i]? with
  | none => simp
  | some c => have := hasN_lt (mem_cells.1 (List.mem_of_getElem? h)); simp; omega

/-- Between a cell of the list and the next one there are holes. -/
theorem between {i c : Nat} (hi : (cells W H hs)[i]? = some c) : c < posN W H hs (i + 1) ∧ ∀ y, c < y → y < posN W H hs (i + 1) → hasN W H hs y = false := by
  have hlt := length_lt hi
  have hcs := cells_cs (W := W) (H := H) (a := 0) (b := 1) (hs := hs)
  have hcN := hasN_lt (mem_cells.1 (List.mem_of_getElem? hi))
  have htake : (cells W H hs).take (i + 1) = (cells W H hs).take i ++ [c] := by
    rw [List.take_succ_eq_append_getElem hlt]
    rw [List.getElem?_eq_getElem hlt] at hi
    rw [Option.some.inj hi]
  cases hn : (cells W H hs)[i + 1]? with
  | none =>
    have : posN W H hs (i + 1) = W * H := by simp [posN, hn]
    rw [this]
    refine ⟨hcN, fun y h1 h2 => ?_⟩
    rw [← Bool.not_eq_true]
    intro hy
    have hm := mem_cells.2 hy
    have hlen : (cells W H hs).length ≤ i + 1 := List.getElem?_eq_none_iff.1 hn
    have : y ∈ (cells W H hs).take (i + 1) := by rw [List.take_of_length_le hlen]; exact hm
    rw [htake] at this
    rcases List.mem_append.1 this with h | h
    · have := ((hcs.before hi y).1 h).2; omega
    · simp at h; omega
  | some c' =>
    rw [posN_some hn]
    have h1 := (hcs.before hn c).1 (by rw [htake]; simp)
    refine ⟨h1.2, fun y h2 h3 => ?_⟩
    rw [← Bool.not_eq_true]
    intro hy
    have hm := mem_cells.2 hy
    have := (hcs.before hn y).2 ⟨hm, h3⟩
    rw [htake] at this
    rcases List.mem_append.1 this with h | h
    · have := ((hcs.before hi y).1 h).2; omega
    · simp at h; omega

theorem before_first : ∀ y, y < posN W H hs 0 → hasN W H hs y = false := by
  intro y hy
  rw [← Bool.not_eq_true]
  intro hh
  have hm := mem_cells.2 hh
  obtain ⟨j, hj⟩ := List.getElem?_of_mem hm
  have h0 : 0 < (cells W H hs).length := by have := length_lt hj; omega
  rw [posN_some (List.getElem?_eq_getElem h0)] at hy
  rcases Nat.eq_zero_or_pos j with e | e
  · subst e
    rw [List.getElem?_eq_getElem h0] at hj
    have := Option.some.inj hj; omega
  · have h1 := List.pairwise_iff_getElem.1 (cells_sorted (W := W) (H := H) (hs := hs)) 0 j h0 (length_lt hj) e
    rw [List.getElem?_eq_getElem (length_lt hj)] at hj
    have := Option.some.inj hj; omega

theorem foldl_max_filter (f : Nat → Int) (p : Nat → Bool) : ∀ (l : List Nat) (m : Int), -1 ≤ m → (∀ d ∈ l, p d = false → f d = -1) → (l.filter p).foldl (fun m d => max m (f d)) m = l.foldl (fun m d => max m (f d)) m
  | [], m, _, _ => rfl
  | x :: l, m, hm, h => by
    rw [List.filter_cons, List.foldl_cons]
    cases hp : p x with
    | true =>
      simp only [if_true]
      rw [List.foldl_cons]
      exact foldl_max_filter f p l _ (by omega) fun d hd => h d (List.mem_cons_of_mem _ hd)
    | false =>
      simp only [Bool.false_eq_true, if_false]
      rw [h x (by simp) hp, Int.max_eq_left hm]
      exact foldl_max_filter f p l m hm fun d hd => h d (List.mem_cons_of_mem _ hd)

theorem take_cells {i c : Nat} (hi : (cells W H hs)[i]? = some c) : (cells W H hs).take i = (List.range c).filter (hasN W H hs) := by
  have hcs := cells_cs (W := W) (H := H) (a := 0) (b := 1) (hs := hs)
  have h1 : ((cells W H hs).take i).Pairwise (· < ·) := List.Pairwise.sublist (List.take_sublist _ _) cells_sorted
  have h2 : ((List.range c).filter (hasN W H hs)).Pairwise (· < ·) := List.Pairwise.filter _ List.pairwise_lt_range
  have hp : ((cells W H hs).take i).Perm ((List.range c).filter (hasN W H hs)) := (List.perm_ext_iff_of_nodup (h1.imp fun h => Nat.ne_of_lt h) (h2.imp fun h => Nat.ne_of_lt h)).2 fun d => by
    rw [hcs.before hi d, List.mem_filter, List.mem_range, mem_cells]
    exact And.comm
  exact hp.eq_of_pairwise (fun x y _ _ h1 h2 => absurd h1 (Nat.lt_asymm h2)) h1 h2

theorem foldl_congr_mem {α β : Type} {f g : α → β → α} : ∀ (l : List β) (m : α), (∀ m d, d ∈ l → f m d = g m d) → l.foldl f m = l.foldl g m
  | [], _, _ => rfl
  | x :: l, m, h => by
    rw [List.foldl_cons, List.foldl_cons, h m x (by simp)]
    exact foldl_congr_mem l _ fun m d hd => h m d (List.mem_cons_of_mem _ hd)

theorem foldl_range_getD (P : List Int) (m : Int) : (List.range P.length).foldl (fun m d => max m (P.getD d 0)) m = P.foldl max m := by
  have : P = (List.range P.length).map fun d => P.getD d 0 := by
    refine List.ext_getElem (by simp) fun i h1 h2 => ?_
    simp [List.getD_eq_getElem?_getD, List.getElem?_eq_getElem h1]
  conv => rhs; rw [this]
  rw [List.foldl_map]

theorem used_cells {i c : Nat} (hi : (cells W H hs)[i]? = some c) {P : List Int} (hP : P.length = c) (hneg : ∀ y, y < c → hasN W H hs y = false → P.getD y 0 = -1) :
    ((cells W H hs).take i).foldl (fun m d => max m (P.getD d 0)) (-1) = used P := by
  rw [take_cells hi, foldl_max_filter _ _ _ _ (by omega) (fun d hd => hneg d (List.mem_range.1 hd)), ← hP, foldl_range_getD]
  rfl

theorem getD_append_left' {P Q : List Int} {i : Nat} (h : i < P.length) : (P ++ Q).getD i 0 = P.getD i 0 := by
  rw [List.getD_eq_getElem?_getD, List.getElem?_append_left h, ← List.getD_eq_getElem?_getD]

/-- The colours of the cells so far, and none behind. -/
def pad (N : Nat) (P : List Int) : List Int := P ++ List.replicate (N - P.length) (-1)

theorem pad_length {N : Nat} {P : List Int} (h : P.length ≤ N) : (pad N P).length = N := by simp [pad]; omega

theorem pad_set {N c : Nat} {P : List Int} (h : P.length = c) (hc : c < N) (x : Int) : (pad N P).set c x = pad N (P ++ [x]) := by
  unfold pad
  rw [List.set_append_right _ _ (by omega), h, Nat.sub_self]
  have : List.replicate (N - c) (-1 : Int) = -1 :: List.replicate (N - (c + 1)) (-1) := by
    rw [← List.replicate_succ]; congr 1; omega
  rw [this, List.set_cons_zero, List.length_append, h, List.length_singleton]
  simp

theorem pad_holes {N d : Nat} {P : List Int} (h : P.length + d ≤ N) : pad N (P ++ List.replicate d (-1)) = pad N P := by
  unfold pad
  rw [List.append_assoc, List.replicate_append_replicate, List.length_append, List.length_replicate]
  congr 2
  omega

theorem pad_unset {N c : Nat} {P : List Int} (h : P.length = c) (hc : c < N) (x : Int) : (pad N (P ++ [x])).set c (-1) = pad N P := by
  rw [← pad_set h hc, List.set_set, pad_set h hc]
  have := pad_holes (N := N) (P := P) (d := 1) (by omega)
  simpa using this

theorem used_le {P : List Int} {v : Int} (hv : -1 ≤ v) (h : ∀ x ∈ P, x ≤ v) : used P ≤ v := by
  have : ∀ (P : List Int) (m : Int), m ≤ v → (∀ x ∈ P, x ≤ v) → P.foldl max m ≤ v := by
    intro P
    induction P with
    | nil => intro m h _; exact h
    | cons a P ih =>
      intro m h1 h2
      rw [List.foldl_cons]
      exact ih _ (by have := h2 a (by simp); omega) fun x hx => h2 x (List.mem_cons_of_mem _ hx)
  exact this P (-1) hv h

theorem unl_lt {c y : Nat} (h : y ∈ unl W H hs a b c) : y < W * H := by
  unfold unl at h
  exact List.mem_range.1 (List.mem_filter.1 h).1

theorem unl_length {c : Nat} : (unl W H hs a b c).length ≤ W * H := filter_range_length _

theorem paint_sr (hk : K0 ≤ k) (hg : Gd W H hs) (hab : a ≤ b) (hb1 : 1 ≤ b) {many : Nat} (hmany : many ≤ 9) : ∀ (d n i : Nat) (P : List Int), i + d = (cells W H hs).length → d < n → P.length = posN W H hs i → (∀ y, y < P.length → hasN W H hs y = false → P.getD y 0 = -1) → (∀ x ∈ P, x ≤ 9) →
    ∃ r, go_impl_graph_paint_r k n (some (graph W H hs a b)) (unlike W H hs a b) (pad (W * H) P) (i : Int) (many : Int) = some r ∧
      ((r.1 = true ∧ srT (holeN W H hs) (twoNear W H hs a b) many (W * H - P.length) P = some r.2.2.2.1) ∨ (r.1 = false ∧ srT (holeN W H hs) (twoNear W H hs a b) many (W * H - P.length) P = none ∧ r.2.2.2.1 = pad (W * H) P)) := by
  have h64 := hg.n64
  have hcl := cells_length (W := W) (H := H) (hs := hs)
  have hc3 : (graph W H hs a b).2.2.1 = zs (cells W H hs) := rfl
  have hull : (unlike W H hs a b).length = W * H := nearP_length _ _ _
  intro d
  induction d with
  | zero =>
    intro n i P hi hn hP hneg hlow
    cases n with
    | zero => omega
    | succ n =>
      show ∃ r, go_impl_graph_paint_b (go_impl_graph_paint_r k n) k (some (graph W H hs a b)) (unlike W H hs a b) (pad (W * H) P) (i : Int) (many : Int) = some r ∧ _
      unfold go_impl_graph_paint_b go_impl_graph_paint_T
      simp only [Option.getD_some, Option.isSome_some, if_true, hc3, zs_length]
      rw [if_pos (by simp only [decide_eq_true_eq]; omega)]
      refine ⟨_, rfl, .inl ⟨rfl, ?_⟩⟩
      rw [posN_none (by omega)] at hP
      rw [hP, Nat.sub_self]
      unfold srT pad
      rw [hP, Nat.sub_self]
      simp
  | succ d ih =>
    intro n i P hi hn hP hneg hlow
    cases n with
    | zero => omega
    | succ n =>
      have hil : i < (cells W H hs).length := by omega
      have hget := List.getElem?_eq_getElem hil
      generalize hcc : (cells W H hs)[i] = c at hget
      have hch := mem_cells.1 (List.mem_of_getElem? hget)
      have hcN := hasN_lt hch
      rw [posN_some hget] at hP
      obtain ⟨hnx, hbt⟩ := between hget
      have hpl := posN_le (W := W) (H := H) (hs := hs) (i + 1)
      have hpadl := pad_length (N := W * H) (P := P) (by omega)
      show ∃ r, go_impl_graph_paint_b (go_impl_graph_paint_r k n) k (some (graph W H hs a b)) (unlike W H hs a b) (pad (W * H) P) (i : Int) (many : Int) = some r ∧ _
      unfold go_impl_graph_paint_b go_impl_graph_paint_T
      simp only [Option.getD_some, Option.isSome_some, if_true, hc3, zs_length, inb_lt hil]
      rw [if_neg (by simp only [decide_eq_true_eq]; omega), if_pos (by simp only [decide_eq_true_eq]; omega)]
      -- the greatest colour so far
      have hused : go_impl_graph_paint_L0 (go_impl_graph_paint_r k n) k (some (graph W H hs a b)) (unlike W H hs a b) (pad (W * H) P) (i : Int) (many : Int) ((-1 : Int), (0 : Int)) =
          go_impl_graph_paint_L1 (go_impl_graph_paint_r k n) k (some (graph W H hs a b)) (unlike W H hs a b) (pad (W * H) P) (i : Int) (many : Int) (used P, (i : Int)) ((0 : Int), pad (W * H) P) := by
        unfold go_impl_graph_paint_L0
        refine iter_path (F := fun rec6 x5 => go_impl_graph_paint_L0_G (go_impl_graph_paint_r k n) k (some (graph W H hs a b)) (unlike W H hs a b) (pad (W * H) P) (i : Int) (many : Int) (fun c0 y => go_impl_graph_paint_L1 (go_impl_graph_paint_r k n) k (some (graph W H hs a b)) (unlike W H hs a b) (pad (W * H) P) (i : Int) (many : Int) c0 y) rec6 x5)
          (fun j => (((cells W H hs).take j).foldl (fun m d => max m ((pad (W * H) P).getD d 0)) (-1), (j : Int))) i rfl (by unfold K0 at hk; omega) (fun j hj rec => ?_) (fun rec => ?_)
        · unfold go_impl_graph_paint_L0_G
          have hjl : j < (cells W H hs).length := by omega
          have hgj := List.getElem?_eq_getElem hjl
          generalize hdd : (cells W H hs)[j] = e at hgj
          have heN := hasN_lt (mem_cells.1 (List.mem_of_getElem? hgj))
          have htk : (cells W H hs).take (j + 1) = (cells W H hs).take j ++ [e] := by rw [List.take_succ_eq_append_getElem hjl, hdd]
          have hz : (((zs (cells W H hs)).take i).drop (0 : Int).toNat) = zs ((cells W H hs).take i) := by simp [zs, List.map_take]
          have hgz : (zs ((cells W H hs).take i)).getD j 0 = (e : Int) := zs_get (by rw [List.getElem?_take_of_lt hj]; exact hgj)
          simp only [Option.getD_some, hc3, Int.toNat_natCast, hz, zs_length, List.length_take, hgz, hpadl, inb_lt heN]
          rw [if_pos (by simp only [decide_eq_true_eq]; omega), inb_lt (show j < min i (cells W H hs).length by omega), if_pos rfl, if_pos trivial, wsucc (by omega), htk, List.foldl_append]
          rfl
        · unfold go_impl_graph_paint_L0_G
          have hz : (((zs (cells W H hs)).take i).drop (0 : Int).toNat) = zs ((cells W H hs).take i) := by simp [zs, List.map_take]
          simp only [Option.getD_some, hc3, Int.toNat_natCast, hz, zs_length, List.length_take]
          rw [if_neg (by simp only [decide_eq_true_eq]; omega)]
          have : ((cells W H hs).take i).foldl (fun m d => max m ((pad (W * H) P).getD d 0)) (-1) = used P := by
            rw [← used_cells hget hP (by rw [← hP]; exact hneg)]
            refine foldl_congr_mem _ _ fun m d hd => ?_
            have hdc := (take_cells hget ▸ hd : d ∈ (List.range c).filter (hasN W H hs))
            have hdlt := List.mem_range.1 (List.mem_filter.1 hdc).1
            unfold pad
            rw [getD_append_left' (by omega)]
          rw [this]
      rw [hused]
      have huge := used_ge P
      have hule := used_le (v := 9) (by omega) hlow
      have hsr : srT (holeN W H hs) (twoNear W H hs a b) many (W * H - P.length) P = (List.range (min many (used P + 2).toNat)).findSome? fun (x : Nat) => if okx (twoNear W H hs a b) P (x : Int) = true then srT (holeN W H hs) (twoNear W H hs a b) many (W * H - posN W H hs (i + 1)) (P ++ [(x : Int)] ++ List.replicate (posN W H hs (i + 1) - c - 1) (-1)) else none := by
        rw [hP, show W * H - c = (W * H - c - 1) + 1 by omega]
        conv => lhs; unfold srT
        rw [hP, if_neg (by unfold holeN; rw [hch]; decide)]
        congr 1
        funext x
        by_cases hx : okx (twoNear W H hs a b) P (x : Int) = true
        · rw [if_pos hx, if_pos hx]
          have := srT_holes (hole := holeN W H hs) (cf := twoNear W H hs a b) (most := many) (posN W H hs (i + 1) - c - 1) (W * H - posN W H hs (i + 1)) (P ++ [(x : Int)]) (fun j hj => by
            unfold holeN
            rw [List.length_append, hP, List.length_singleton, hbt (c + 1 + j) (by omega) (by omega)]
            rfl)
          rw [← this]
          congr 1
          omega
        · rw [if_neg hx, if_neg hx]
      rw [hsr]
      unfold go_impl_graph_paint_L1
      have hmul := fun y => mem_unl (W := W) (H := H) (hs := hs) (c := c) (y := y) hch hab hb1
      have hull2 := unl_length (W := W) (H := H) (hs := hs) (a := a) (b := b) (c := c)
      have hug := unlike_get (W := W) (H := H) (hs := hs) (a := a) (b := b) hch
      have hol := fun (x : Int) => okx_list (W := W) (H := H) (hs := hs) (a := a) (b := b) (l := unl W H hs a b c) (c := c) (C := pad (W * H) P) (x := x) (fun y hy => by rw [hmul y]; exact ⟨fun h => h.2, fun h => ⟨by omega, h⟩⟩) (by omega) (fun y hy => (twoNear_iff.1 ((hmul y).1 hy).2).1)
      have hpt : (pad (W * H) P).take c = P := by unfold pad; rw [List.take_left' hP]
      rw [hpt] at hol
      have hult := fun y hy => unl_lt (W := W) (H := H) (hs := hs) (a := a) (b := b) (c := c) (y := y) hy
      refine (iter_try (F := fun rec25 x24 => go_impl_graph_paint_L1_G (go_impl_graph_paint_r k n) k (some (graph W H hs a b)) (unlike W H hs a b) (pad (W * H) P) (i : Int) (many : Int) (used P, (i : Int)) (fun c0 y => go_impl_graph_paint_L2 (go_impl_graph_paint_r k n) k (some (graph W H hs a b)) (unlike W H hs a b) (pad (W * H) P) (i : Int) (many : Int) rec25 (used P, (i : Int)) c0 y) rec25 x24)
        (fun x (_ : Unit) => ((x : Int), pad (W * H) P)) (fun _ => True) (fun (x : Nat) => if okx (twoNear W H hs a b) P (x : Int) = true then srT (holeN W H hs) (twoNear W H hs a b) many (W * H - posN W H hs (i + 1)) (P ++ [(x : Int)] ++ List.replicate (posN W H hs (i + 1) - c - 1) (-1)) else none) (min many (used P + 2).toNat)
        (fun o r => (r.1 = true ∧ o = some r.2.2.2.1) ∨ (r.1 = false ∧ o = none ∧ r.2.2.2.1 = pad (W * H) P))
        (fun x _ hx _ => ?_) (fun _ _ => ?_) (s := ()) trivial (by unfold K0 at hk; omega) rfl)
      · have hxm : x < many := by omega
        have hxu : (x : Int) ≤ used P + 1 := by omega
        have hok : ∀ rec, go_impl_graph_paint_L1_G (go_impl_graph_paint_r k n) k (some (graph W H hs a b)) (unlike W H hs a b) (pad (W * H) P) (i : Int) (many : Int) (used P, (i : Int)) (fun c0 y => go_impl_graph_paint_L2 (go_impl_graph_paint_r k n) k (some (graph W H hs a b)) (unlike W H hs a b) (pad (W * H) P) (i : Int) (many : Int) rec (used P, (i : Int)) c0 y) rec ((x : Int), pad (W * H) P) =
            if okx (twoNear W H hs a b) P (x : Int) = true then
              (go_impl_graph_paint_r k n (some (graph W H hs a b)) (unlike W H hs a b) ((pad (W * H) P).set c (x : Int)) ((i + 1 : Nat) : Int) (many : Int)).bind fun r32 =>
              if r32.1 = true then some (true, (some (graph W H hs a b), (unlike W H hs a b, (r32.2.2.2.1, ((i : Int), ((many : Int), ()))))))
              else if inb (c : Int) r32.2.2.2.1.length = true then rec (((x + 1 : Nat) : Int), (r32.2.2.2.1.set c (-1))) else none
            else rec (((x + 1 : Nat) : Int), pad (W * H) P) := fun rec => by
          unfold go_impl_graph_paint_L1_G
          simp only [Option.getD_some, hc3, Int.toNat_natCast, zs_get hget, hull, inb_lt hcN]
          rw [w64 (n := used P + 1) (by omega) (by omega), if_pos (by simp only [Bool.and_eq_true, decide_eq_true_eq]; omega), if_pos trivial]
          unfold go_impl_graph_paint_L2
          rw [← hol (x : Int)]
          have hug' := hug
          generalize unl W H hs a b c = l at hug' hult hull2
          refine iter_path (F := fun rec31 x30 => go_impl_graph_paint_L2_G (go_impl_graph_paint_r k n) k (some (graph W H hs a b)) (unlike W H hs a b) (pad (W * H) P) (i : Int) (many : Int) (used P, (i : Int)) ((x : Int), pad (W * H) P) rec rec31 x30)
            (fun j => ((l.take j).all (fun d => decide ((c : Int) < (d : Int)) || !decide ((pad (W * H) P).getD d 0 = (x : Int))), (j : Int))) l.length (by simp) (by unfold K0 at hk; omega) (fun j hj rec2 => ?_) (fun rec2 => ?_)
          · unfold go_impl_graph_paint_L2_G
            have hgd := List.getElem?_eq_getElem hj
            generalize hdd : l[j] = y at hgd
            have hyN := hult y (List.mem_of_getElem? hgd)
            have htk : l.take (j + 1) = l.take j ++ [y] := by rw [List.take_succ_eq_append_getElem hj, hdd]
            simp only [Option.getD_some, hc3, Int.toNat_natCast, zs_get hget, hug', zs_length, zs_get hgd, hpadl, inb_lt hyN, inb_lt hj, wsucc (show j < 9223372036854775807 by omega), Bool.or_true, if_true]
            rw [if_pos (by simpa using hj), htk, List.all_append]
            simp
          · unfold go_impl_graph_paint_L2_G
            simp only [Option.getD_some, hc3, Int.toNat_natCast, zs_get hget, hug', zs_length, hpadl, inb_lt hcN, wsucc (show i < 9223372036854775807 by omega), wsucc (show x < 9223372036854775807 by omega)]
            rw [if_neg (by simp), List.take_length]
            cases l.all (fun d => decide ((c : Int) < (d : Int)) || !decide ((pad (W * H) P).getD d 0 = (x : Int))) <;> simp
        by_cases hx1 : okx (twoNear W H hs a b) P (x : Int) = true
        · simp only [if_pos hx1] at hok ⊢
          have hP'l : (P ++ [(x : Int)] ++ List.replicate (posN W H hs (i + 1) - c - 1) (-1)).length = posN W H hs (i + 1) := by simp; omega
          obtain ⟨r, h1, h2⟩ := ih n (i + 1) (P ++ [(x : Int)] ++ List.replicate (posN W H hs (i + 1) - c - 1) (-1)) (by omega) (by omega) hP'l (fun y hy hh => by
            rw [hP'l] at hy
            rcases Nat.lt_trichotomy y c with h | h | h
            · rw [List.append_assoc, getD_append_left' (by omega)]
              exact hneg y (by omega) hh
            · subst h; rw [hch] at hh; cases hh
            · rw [List.getD_eq_getElem?_getD, List.getElem?_append_right (by simp; omega), List.getElem?_replicate]
              rw [if_pos (by simp; omega)]
              rfl) (fun z hz => by
            rcases List.mem_append.1 hz with hz | hz
            · rcases List.mem_append.1 hz with hz | hz
              · exact hlow z hz
              · simp at hz; subst hz; omega
            · have := List.eq_of_mem_replicate hz
              omega)
          rw [pad_holes (by simp; omega), ← pad_set hP hcN] at h1
          rw [h1] at hok
          rw [hP'l, pad_holes (by simp; omega)] at h2
          rcases h2 with ⟨e1, e2⟩ | ⟨e1, e2, e3⟩
          · refine .inl ⟨(true, (some (graph W H hs a b), (unlike W H hs a b, (r.2.2.2.1, ((i : Int), ((many : Int), ())))))), _, e2, .inl ⟨rfl, rfl⟩, fun rec => ?_⟩
            rw [hok rec]
            simp only [Option.bind_some, e1, if_true]
          · refine .inr ⟨e2, (), trivial, fun rec => ?_⟩
            rw [hok rec]
            have hl2 : (pad (W * H) (P ++ [(x : Int)])).length = W * H := pad_length (by simp; omega)
            simp only [Option.bind_some, e1, Bool.false_eq_true, if_false, e3, hl2, inb_lt hcN, if_true, pad_unset hP hcN]
        · simp only [if_neg hx1] at hok ⊢
          exact .inr ⟨trivial, (), trivial, hok⟩
      · refine ⟨(false, (some (graph W H hs a b), (unlike W H hs a b, (pad (W * H) P, ((i : Int), ((many : Int), ())))))), .inr ⟨rfl, rfl, rfl⟩, fun rec => ?_⟩
        unfold go_impl_graph_paint_L1_G
        rw [w64 (n := used P + 1) (by omega) (by omega), if_neg (by simp only [Bool.and_eq_true, decide_eq_true_eq]; omega)]

/-- The first number of colours that will do, and the painting. -/
def farPaint (W H : Nat) (hs : List Nat) (a b : Nat) : Option (Nat × List Int) := (List.range 9).findSome? fun i => (srS (holeN W H hs) (twoNear W H hs a b) (i + 1) (W * H) []).map fun q => (i + 1, q)

theorem paFar_eq (hk : K0 ≤ k) (hg : Gd W H hs) (hab : a ≤ b) (hb1 : 1 ≤ b) : go_spec_paFar k (bd W H hs) (ld a b) = match farPaint W H hs a b with | some (n, q) => some (q, ((n : Int), ())) | none => some ([], ((0 : Int), ())) := by
  have h64 := hg.n64
  have hm := wmul (show W ≤ 100 by have := hg.w8; omega) (show H ≤ 100 by have := hg.h8; omega)
  unfold go_spec_paFar go_spec_paFar_T go_spec_paFar_L0
  obtain ⟨r, h1, h2⟩ := iter_try (F := fun rec5 x4 => go_spec_paFar_L0_G k (bd W H hs) (ld a b) rec5 x4) (fun i (_ : Unit) => ((i + 1 : Nat) : Int)) (fun _ => True) (fun i => (srS (holeN W H hs) (twoNear W H hs a b) (i + 1) (W * H) []).map fun q => (i + 1, q)) 9
    (fun o r => r = match o with | some (n, q) => (q, ((n : Int), ())) | none => ([], ((0 : Int), ())))
    (fun i _ hi _ => by
      obtain ⟨r, e1, e2, e3, e4⟩ := paFirst_sr (most := i + 1) hk hg hab hb1 (by omega) (W * H) k 0 (List.replicate (W * H) 0) (by omega) (by unfold K0 at hk; omega) (by simp)
      have hF : ∀ rec, go_spec_paFar_L0_G k (bd W H hs) (ld a b) rec ((i + 1 : Nat) : Int) = if r.1 = true then some (r.2.2.2.2.2.1, (((i + 1 : Nat) : Int), ())) else rec (((i + 1 + 1 : Nat) : Int)) := fun rec => by
        unfold go_spec_paFar_L0_G go_spec_paFirst
        simp only [hm, Int.toNat_natCast]
        rw [if_pos (by simp only [decide_eq_true_eq]; omega), if_pos (by simp only [decide_eq_true_eq]; constructor; omega; simp [LIM]; omega)]
        have e1' : go_spec_paFirst_r k k (bd W H hs) (ld a b) ((i + 1 : Nat) : Int) (0 : Int) (List.replicate (W * H) 0) = some r := e1
        rw [e1', wsucc (by omega)]
        rfl
      rw [List.take_zero] at e4
      rcases e4 with ⟨e5, e6⟩ | ⟨e5, e6⟩
      · refine .inl ⟨(r.2.2.2.2.2.1, (((i + 1 : Nat) : Int), ())), _, by rw [e6]; rfl, rfl, fun rec => ?_⟩
        rw [hF rec, e5, if_pos rfl]
      · refine .inr ⟨by rw [e6]; rfl, (), trivial, fun rec => ?_⟩
        rw [hF rec, e5, if_neg (by decide)])
    (fun _ _ => ⟨([], ((0 : Int), ())), rfl, fun rec => by
      unfold go_spec_paFar_L0_G
      rw [if_neg (by simp)]⟩) (s := ()) trivial (m := k) (by unfold K0 at hk; omega) (x0 := (1 : Int)) rfl
  refine h1.trans ?_
  rw [h2]
  unfold farPaint
  cases (List.range 9).findSome? fun i => (srS (holeN W H hs) (twoNear W H hs a b) (i + 1) (W * H) []).map fun q => (i + 1, q) <;> rfl

theorem farPainting_eq (hk : K0 ≤ k) (hg : Gd W H hs) (hG : isGood (bd W H hs) = true) (hL : isGoodL (ld a b) = true) (hab : a ≤ b) (hb1 : 1 ≤ b) (hb5 : b ≤ 5) (hfew : (cells W H hs).length ≤ 16) :
    go_impl_farPainting k (bd W H hs) (ld a b) = match farPaint W H hs a b with | some (n, q) => some (q, ((n : Int), (true, ()))) | none => some ([], ((0 : Int), (false, ()))) := by
  have h64 := hg.n64
  have hc3 : (graph W H hs a b).2.2.1 = zs (cells W H hs) := rfl
  have hnr : (graph W H hs a b).2.2.2.1 = near W H hs a b := rfl
  have hp0 := posN_le (W := W) (H := H) (hs := hs) 0
  have htg : go_impl_tourGraph k (bd W H hs) (ld a b) 16 = some (some (graph W H hs a b), (true, ())) := by
    unfold go_impl_tourGraph
    rw [graphOf_eq hk hg hG hL hab hb5]
    simp only [Option.bind_some, Option.getD_some, Option.isSome_some, hc3, zs_length, Bool.or_true, if_true, Bool.not_true, Bool.false_or]
    rw [if_neg (by simp only [decide_eq_true_eq]; omega)]
  unfold go_impl_farPainting go_impl_farPainting_T
  rw [htg]
  simp only [Option.bind_some, Bool.not_true, Bool.false_eq_true, if_false, unlike_eq hk hg]
  unfold go_impl_farPainting_L0
  obtain ⟨r, h1, h2⟩ := iter_try (F := fun rec13 x12 => go_impl_farPainting_L0_G k (bd W H hs) (ld a b) (some (graph W H hs a b), (true, ())) (unlike W H hs a b) (fun c0 y => go_impl_farPainting_L1 k (bd W H hs) (ld a b) rec13 (some (graph W H hs a b), (true, ())) (unlike W H hs a b) c0 y) rec13 x12) (fun i (_ : Unit) => ((i + 1 : Nat) : Int)) (fun _ => True) (fun i => (srS (holeN W H hs) (twoNear W H hs a b) (i + 1) (W * H) []).map fun q => (i + 1, q)) 9
    (fun o r => r = match o with | some (n, q) => (q, ((n : Int), (true, ()))) | none => ([], ((0 : Int), (false, ()))))
    (fun i _ hi _ => by
      obtain ⟨r, e1, e4⟩ := paint_sr (many := i + 1) hk hg hab hb1 (by omega) (cells W H hs).length k 0 (List.replicate (posN W H hs 0) (-1)) (by omega) (by unfold K0 at hk; omega) (by simp) (fun y hy hh => by
        simp at hy
        rw [List.getD_eq_getElem?_getD, List.getElem?_replicate, if_pos hy]; rfl) (fun x hx => by have := List.eq_of_mem_replicate hx; omega)
      have hpad : pad (W * H) (List.replicate (posN W H hs 0) (-1)) = List.replicate (W * H) (-1) := by
        unfold pad
        rw [List.replicate_append_replicate, List.length_replicate]; congr 1; omega
      rw [hpad] at e1 e4
      have hsr : srT (holeN W H hs) (twoNear W H hs a b) (i + 1) (W * H - (List.replicate (posN W H hs 0) (-1 : Int)).length) (List.replicate (posN W H hs 0) (-1)) = srS (holeN W H hs) (twoNear W H hs a b) (i + 1) (W * H) [] := by
        rw [srS_srT]
        have := srT_holes (hole := holeN W H hs) (cf := twoNear W H hs a b) (most := i + 1) (posN W H hs 0) (W * H - posN W H hs 0) [] (fun j hj => by
          unfold holeN
          rw [List.length_nil, Nat.zero_add, before_first j hj]; rfl)
        rw [Nat.sub_add_cancel hp0, List.nil_append] at this
        rw [this, List.length_replicate]
      rw [hsr] at e4
      have hF : ∀ rec, go_impl_farPainting_L0_G k (bd W H hs) (ld a b) (some (graph W H hs a b), (true, ())) (unlike W H hs a b) (fun c0 y => go_impl_farPainting_L1 k (bd W H hs) (ld a b) rec (some (graph W H hs a b), (true, ())) (unlike W H hs a b) c0 y) rec ((i + 1 : Nat) : Int) = if r.1 = true then some (r.2.2.2.1, (((i + 1 : Nat) : Int), (true, ()))) else rec (((i + 1 + 1 : Nat) : Int)) := fun rec => by
        unfold go_impl_farPainting_L0_G
        simp only [Option.getD_some, Option.isSome_some, hnr, near_length, if_true, Int.toNat_natCast]
        rw [if_pos (by simp only [decide_eq_true_eq]; omega), if_pos (by simp only [decide_eq_true_eq]; constructor; omega; simp [LIM]; omega)]
        unfold go_impl_farPainting_L1
        refine iter_path (F := fun rec19 x18 => go_impl_farPainting_L1_G k (bd W H hs) (ld a b) (some (graph W H hs a b), (true, ())) (unlike W H hs a b) ((i + 1 : Nat) : Int) rec rec19 x18)
          (fun i => ((i : Int), List.replicate i (-1) ++ List.replicate (W * H - i) 0)) (W * H) rfl (by unfold K0 at hk; omega) (fun j hj rec2 => ?_) (fun rec2 => ?_)
        · unfold go_impl_farPainting_L1_G
          simp only [Option.getD_some, hnr, near_length, List.length_replicate, Int.toNat_natCast, List.length_append, wsucc (show j < 9223372036854775807 by omega)]
          rw [if_pos (by simp only [decide_eq_true_eq]; omega), inb_lt (show j < j + (W * H - j) by omega), fill_eq _ _ _ hj]
          rfl
        · unfold go_impl_farPainting_L1_G go_impl_graph_paint
          simp only [Option.getD_some, hnr, near_length, List.length_replicate, Int.toNat_natCast, Nat.sub_self, List.replicate_zero, List.append_nil]
          have e1' : go_impl_graph_paint_r k k (some (graph W H hs a b)) (unlike W H hs a b) (List.replicate (W * H) (-1)) (0 : Int) ((i + 1 : Nat) : Int) = some r := e1
          rw [if_neg (by simp), e1', wsucc (by omega)]
          rfl
      rcases e4 with ⟨e5, e6⟩ | ⟨e5, e6, _⟩
      · refine .inl ⟨(r.2.2.2.1, (((i + 1 : Nat) : Int), (true, ()))), _, by rw [e6]; rfl, rfl, fun rec => ?_⟩
        rw [hF rec, e5, if_pos rfl]
      · refine .inr ⟨by rw [e6]; rfl, (), trivial, fun rec => ?_⟩
        rw [hF rec, e5, if_neg (by decide)])
    (fun _ _ => ⟨([], ((0 : Int), (false, ()))), rfl, fun rec => by
      unfold go_impl_farPainting_L0_G
      rw [if_neg (by simp)]⟩) (s := ()) trivial (m := k) (by unfold K0 at hk; omega) (x0 := (1 : Int)) rfl
  refine h1.trans ?_
  rw [h2]
  unfold farPaint
  cases (List.range 9).findSome? fun i => (srS (holeN W H hs) (twoNear W H hs a b) (i + 1) (W * H) []).map fun q => (i + 1, q) <;> rfl

end

end Go.Lg
