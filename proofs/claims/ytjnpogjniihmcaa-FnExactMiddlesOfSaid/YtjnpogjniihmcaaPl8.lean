/-
  Plain law: both searches are the one.
-/
import Derived.Test.YtjnpogjniihmcaaPl7
import Derived.Test.YtjnpogjniihmcaaBfs
set_option linter.unusedVariables false
set_option linter.unusedSimpArgs false
namespace Go.Lg
open Go.RowKit Go.IntWalk

variable {k : Nat}

theorem bst_closed {nb : Nat → List Nat} {N c : Nat} (hnb : ∀ u, u < N → ∀ d ∈ nb u, d < N) (hc : c < N) {Q : Nat → Prop} (h0 : Q c) (h1 : ∀ u, Q u → ∀ d ∈ nb u, Q d) :
    ∀ i x, x ∈ (bst nb N c i).done ++ (bst nb N c i).pend → Q x
  | 0, x, h => by
    have : x = c := by simpa [bst, binit] using h
    subst this; exact h0
  | i + 1, x, h => by
    have ih := bst_closed hnb hc h0 h1 i
    have hb := binv hnb hc i
    change x ∈ (bstep nb (bst nb N c i)).done ++ (bstep nb (bst nb N c i)).pend at h
    generalize bst nb N c i = s at h ih hb
    obtain ⟨far, done, pend⟩ := s
    cases pend with
    | nil => exact ih x h
    | cons u rest =>
      have huN : u < N := hb.seen.bd u (by simp)
      have hu0 : 0 ≤ far.getD u 0 := (hb.seen.mem u huN).1 (by simp)
      have hseen : Seen N far ((done ++ [u]) ++ rest) := by have := hb.seen; simpa using this
      obtain ⟨_, h2⟩ := relax_facts (v := far.getD u 0 + 1) (by omega) (nb u) hseen (hnb u huN)
      unfold bstep at h
      simp only at h
      obtain ⟨n, hn, hn'⟩ := h2.new
      rw [hn] at h
      simp only [List.mem_append, List.mem_singleton] at h
      rcases h with (h | h) | (h | h)
      · exact ih x (by simp [h])
      · exact ih x (by simp [h])
      · exact ih x (by simp [h])
      · exact h1 u (ih u (by simp)) x (hn' x h).1

theorem leaps_lt {W H a b : Nat} {hs : List Nat} : ∀ u, u < W * H → ∀ d ∈ leaps W H hs a b u, d < W * H := fun u _ d hd => by
  have := (mem_leaps.1 hd).1
  simp [hasN] at this
  exact this.1

theorem leaps_has {W H a b u d : Nat} {hs : List Nat} (hd : d ∈ leaps W H hs a b u) : hasN W H hs d = true := (mem_leaps.1 hd).1

theorem leaps_length {W H a b c : Nat} {hs : List Nat} : (leaps W H hs a b c).length ≤ W * H :=
  Nat.le_trans (List.length_filter_le _ _) cells_length

theorem hasN_lt {W H c : Nat} {hs : List Nat} (h : hasN W H hs c = true) : c < W * H := by simp [hasN] at h; exact h.1

/-- One cell's neighbours, the first j of them. -/
theorem relax_take {nb : Nat → List Nat} {N c i : Nat} (hnb : ∀ u, u < N → ∀ d ∈ nb u, d < N) (hc : c < N) {far : List Int} {done rest : List Nat} {u : Nat} (hs : bst nb N c i = ⟨far, done, u :: rest⟩) (j : Nat) :
    u < N ∧ 0 ≤ far.getD u 0 ∧ far.getD u 0 ≤ done.length ∧ Seen N (((nb u).take j).foldl (relax (far.getD u 0 + 1)) (far, rest)).1 ((done ++ [u]) ++ (((nb u).take j).foldl (relax (far.getD u 0 + 1)) (far, rest)).2) ∧
    (((nb u).take j).foldl (relax (far.getD u 0 + 1)) (far, rest)).1.getD u 0 = far.getD u 0 := by
  have hb := binv hnb hc i
  rw [hs] at hb
  have huN : u < N := hb.seen.bd u (by simp)
  have hu0 : 0 ≤ far.getD u 0 := (hb.seen.mem u huN).1 (by simp)
  have hseen : Seen N far ((done ++ [u]) ++ rest) := by have := hb.seen; simpa using this
  obtain ⟨h1, h2⟩ := relax_facts (v := far.getD u 0 + 1) (by omega) ((nb u).take j) hseen fun d hd => hnb u huN d (List.mem_of_mem_take hd)
  refine ⟨huN, hu0, hb.high u huN, h1, ?_⟩
  rcases h2.val u huN with h | ⟨h, _⟩
  · exact h
  · omega

theorem fill_eq (n i : Nat) (v : Int) (hi : i < n) : (List.replicate i v ++ List.replicate (n - i) (0 : Int)).set i v = List.replicate (i + 1) v ++ List.replicate (n - (i + 1)) 0 := by
  rw [List.set_append_right _ _ (by simp), List.length_replicate, Nat.sub_self]
  have : List.replicate (n - i) (0 : Int) = 0 :: List.replicate (n - (i + 1)) 0 := by
    rw [← List.replicate_succ]; congr 1; omega
  rw [this, List.set_cons_zero, List.replicate_succ']
  simp

theorem faFrom_eq {W H a b c : Nat} {hs : List Nat} (hk : K0 ≤ k) (hg : Gd W H hs) (hc : hasN W H hs c = true) : go_spec_faFrom k (bd W H hs) (ld a b) (c : Int) = some (bfs (leaps W H hs a b) (W * H) c) := by
  have h64 := hg.n64
  have hm := wmul (show W ≤ 100 by have := hg.w8; omega) (show H ≤ 100 by have := hg.h8; omega)
  have hcN := hasN_lt hc
  obtain ⟨n, hnN, hpn, hbefore, hfar⟩ := bfs_ends (nb := leaps W H hs a b) leaps_lt hcN
  unfold go_spec_faFrom go_spec_faFrom_T
  simp only [hm]
  rw [if_pos (by simp only [decide_eq_true_eq]; constructor; omega; simp [LIM]; omega)]
  unfold go_spec_faFrom_L0
  refine iter_path (F := fun rec6 x5 => go_spec_faFrom_L0_G k (bd W H hs) (ld a b) (c : Int) (fun y => go_spec_faFrom_L1 k (bd W H hs) (ld a b) (c : Int) y) rec6 x5)
    (fun i => ((i : Int), List.replicate i (-1) ++ List.replicate (W * H - i) 0)) (W * H) (by rw [Int.toNat_natCast]; rfl) (by unfold K0 at hk; omega) (fun i hi rec => ?_) (fun rec => ?_)
  · unfold go_spec_faFrom_L0_G
    simp only [hm, List.length_replicate, Int.toNat_natCast, List.length_append, wsucc (show i < 9223372036854775807 by omega)]
    rw [if_pos (by simp only [decide_eq_true_eq]; omega), inb_lt (show i < i + (W * H - i) by omega), fill_eq _ _ _ hi]
    rfl
  · unfold go_spec_faFrom_L0_G
    simp only [hm, List.length_replicate, Int.toNat_natCast, List.length_append, Nat.sub_self, List.replicate_zero, List.append_nil, Nat.add_zero]
    rw [if_neg (by simp), inb_lt hcN, if_pos rfl]
    unfold go_spec_faFrom_L1
    refine iter_path (F := fun rec41 x40 => go_spec_faFrom_L1_G k (bd W H hs) (ld a b) (c : Int) (fun c0 c1 y => go_spec_faFrom_L2 k (bd W H hs) (ld a b) (c : Int) rec41 c0 c1 y) rec41 x40)
      (fun i => ((i : Int), (bst (leaps W H hs a b) (W * H) c i).far, zs ((bst (leaps W H hs a b) (W * H) c i).done ++ (bst (leaps W H hs a b) (W * H) c i).pend))) n rfl (by unfold K0 at hk; omega) (fun i hi rec2 => ?_) (fun rec2 => ?_)
    · have hcl := bst_closed (nb := leaps W H hs a b) leaps_lt hcN (Q := fun x => hasN W H hs x = true) hc (fun u _ d hd => leaps_has hd) i
      have hdl := done_length (nb := leaps W H hs a b) (N := W * H) (c := c) (i := i) fun j hj => hbefore j (by omega)
      have hne := hbefore i hi
      have hrel := fun far done rest u hs' j => relax_take (nb := leaps W H hs a b) (N := W * H) (c := c) (i := i) leaps_lt hcN (far := far) (done := done) (rest := rest) (u := u) hs' j
      show _ = rec2 (((i + 1 : Nat) : Int), (bstep (leaps W H hs a b) (bst (leaps W H hs a b) (W * H) c i)).far, zs ((bstep (leaps W H hs a b) (bst (leaps W H hs a b) (W * H) c i)).done ++ (bstep (leaps W H hs a b) (bst (leaps W H hs a b) (W * H) c i)).pend))
      generalize bst (leaps W H hs a b) (W * H) c i = s at hcl hdl hne hrel
      obtain ⟨far, done, pend⟩ := s
      cases pend with
      | nil => exact absurd rfl hne
      | cons u rest =>
        have hrel := fun j => hrel far done rest u rfl j
        have hu : hasN W H hs u = true := hcl u (by simp)
        have huN := hasN_lt hu
        simp only at hdl
        have hqu : (zs (done ++ u :: rest)).getD i 0 = (u : Int) := zs_get (by rw [List.getElem?_append_right (by omega), hdl, Nat.sub_self]; rfl)
        unfold go_spec_faFrom_L1_G
        simp only [zs_length, List.length_append, List.length_cons, Int.toNat_natCast, hqu]
        rw [if_pos (by simp only [decide_eq_true_eq]; omega), inb_lt (show i < done.length + (rest.length + 1) by omega), if_pos rfl, boLeaps_eq hk hg (by omega)]
        simp only [Option.bind_some]
        unfold go_spec_faFrom_L2
        refine iter_path (F := fun rec50 x49 => go_spec_faFrom_L2_G k (bd W H hs) (ld a b) (c : Int) ((i : Int), far, zs (done ++ u :: rest)) (zs (leaps W H hs a b u)) rec2 rec50 x49)
          (fun j => ((j : Int), (((leaps W H hs a b u).take j).foldl (relax (far.getD u 0 + 1)) (far, rest)).1, zs (done ++ u :: (((leaps W H hs a b u).take j).foldl (relax (far.getD u 0 + 1)) (far, rest)).2))) (leaps W H hs a b u).length rfl (by have := leaps_length (W := W) (H := H) (a := a) (b := b) (c := u) (hs := hs); unfold K0 at hk; omega) (fun j hj rec3 => ?_) (fun rec3 => ?_)
        · obtain ⟨_, hu0, huh, hsj, hju⟩ := hrel j
          have hd := List.getElem?_eq_getElem hj
          generalize hdd : (leaps W H hs a b u)[j] = d at hd
          have hdN := leaps_lt u huN d (List.mem_of_getElem? hd)
          have htk : (leaps W H hs a b u).take (j + 1) = (leaps W H hs a b u).take j ++ [d] := by rw [List.take_succ_eq_append_getElem hj, hdd]
          rw [htk, List.foldl_append]
          have hll := leaps_length (W := W) (H := H) (a := a) (b := b) (c := u) (hs := hs)
          generalize ((leaps W H hs a b u).take j).foldl (relax (far.getD u 0 + 1)) (far, rest) = r at hsj hju
          obtain ⟨far', q'⟩ := r
          simp only at hsj hju
          have hlen' : far'.length = W * H := hsj.len
          have hql : (done ++ u :: q').length ≤ W * H := by have := hsj.length_le; simpa using this
          have hqu' : (zs (done ++ u :: q')).getD i 0 = (u : Int) := zs_get (by rw [List.getElem?_append_right (by omega), hdl, Nat.sub_self]; rfl)
          unfold go_spec_faFrom_L2_G
          simp only [zs_length, Int.toNat_natCast, zs_get hd, hlen', inb_lt hdN, hqu', inb_lt huN, hju, wsucc (show j < 9223372036854775807 by omega), List.foldl_cons, List.foldl_nil]
          rw [if_pos (by simp only [decide_eq_true_eq]; omega), inb_lt hj]
          unfold relax
          simp only [if_true]
          by_cases hneg : far'.getD d 0 < 0
          · rw [if_pos (by simpa using hneg), if_pos hneg, inb_lt (show i < (done ++ u :: q').length by simp; omega), if_pos rfl, if_pos (lim_le (by simp only [List.length_singleton]; omega)), w64 (n := far.getD u 0 + 1) (by omega) (by omega)]
            rw [zs_single, ← zs_append, List.append_assoc]
            rfl
          · rw [if_neg (by simpa using hneg), if_neg hneg]
        · unfold go_spec_faFrom_L2_G
          rw [if_neg (by simp), List.take_length, wsucc (by omega)]
          unfold bstep
          simp
    · unfold go_spec_faFrom_L1_G
      have hdl := done_length (nb := leaps W H hs a b) (N := W * H) (c := c) hbefore
      rw [if_neg (by simp [hpn, hdl]), hfar]

theorem far_eq {W H a b c : Nat} {hs : List Nat} (hk : K0 ≤ k) (hg : Gd W H hs) (hc : hasN W H hs c = true) : go_impl_graph_far k (some (graph W H hs a b)) (c : Int) = some (bfs (leaps W H hs a b) (W * H) c) := by
  have h64 := hg.n64
  have hm := wmul (show W ≤ 100 by have := hg.w8; omega) (show H ≤ 100 by have := hg.h8; omega)
  have hcN := hasN_lt hc
  obtain ⟨n, hnN, hpn, hbefore, hfar⟩ := bfs_ends (nb := leaps W H hs a b) leaps_lt hcN
  unfold go_impl_graph_far go_impl_graph_far_T
  simp only [Option.getD_some, Option.isSome_some, if_true]
  simp only [show (graph W H hs a b).1.1 = (W : Int) from rfl, show (graph W H hs a b).1.2.1 = (H : Int) from rfl, hm]
  rw [if_pos (by simp only [decide_eq_true_eq]; constructor; omega; simp [LIM]; omega)]
  unfold go_impl_graph_far_L0
  refine iter_path (F := fun rec6 x5 => go_impl_graph_far_L0_G k (some (graph W H hs a b)) (c : Int) (fun y => go_impl_graph_far_L1 k (some (graph W H hs a b)) (c : Int) y) rec6 x5)
    (fun i => ((i : Int), List.replicate i (-1) ++ List.replicate (W * H - i) 0)) (W * H) (by rw [Int.toNat_natCast]; rfl) (by unfold K0 at hk; omega) (fun i hi rec => ?_) (fun rec => ?_)
  · unfold go_impl_graph_far_L0_G
    simp only [Option.getD_some]
    simp only [show (graph W H hs a b).1.1 = (W : Int) from rfl, show (graph W H hs a b).1.2.1 = (H : Int) from rfl, hm, List.length_replicate, Int.toNat_natCast, List.length_append, wsucc (show i < 9223372036854775807 by omega)]
    rw [if_pos (by simp only [decide_eq_true_eq]; omega), inb_lt (show i < i + (W * H - i) by omega), fill_eq _ _ _ hi]
    rfl
  · unfold go_impl_graph_far_L0_G
    simp only [Option.getD_some]
    simp only [show (graph W H hs a b).1.1 = (W : Int) from rfl, show (graph W H hs a b).1.2.1 = (H : Int) from rfl, hm, List.length_replicate, Int.toNat_natCast, List.length_append, Nat.sub_self, List.replicate_zero, List.append_nil, Nat.add_zero]
    rw [if_neg (by simp), inb_lt hcN, if_pos rfl]
    unfold go_impl_graph_far_L1
    refine iter_path (F := fun rec28 x27 => go_impl_graph_far_L1_G k (some (graph W H hs a b)) (c : Int) (fun c0 y => go_impl_graph_far_L2 k (some (graph W H hs a b)) (c : Int) rec28 c0 y) rec28 x27)
      (fun i => ((bst (leaps W H hs a b) (W * H) c i).far, zs (bst (leaps W H hs a b) (W * H) c i).pend)) n rfl (by unfold K0 at hk; omega) (fun i hi rec2 => ?_) (fun rec2 => ?_)
    · have hcl := bst_closed (nb := leaps W H hs a b) leaps_lt hcN (Q := fun x => hasN W H hs x = true) hc (fun u _ d hd => leaps_has hd) i
      have hdl := done_length (nb := leaps W H hs a b) (N := W * H) (c := c) (i := i) fun j hj => hbefore j (by omega)
      have hne := hbefore i hi
      have hrel := fun far done rest u hs' j => relax_take (nb := leaps W H hs a b) (N := W * H) (c := c) (i := i) leaps_lt hcN (far := far) (done := done) (rest := rest) (u := u) hs' j
      show _ = rec2 ((bstep (leaps W H hs a b) (bst (leaps W H hs a b) (W * H) c i)).far, zs (bstep (leaps W H hs a b) (bst (leaps W H hs a b) (W * H) c i)).pend)
      generalize bst (leaps W H hs a b) (W * H) c i = s at hcl hdl hne hrel
      obtain ⟨far, done, pend⟩ := s
      cases pend with
      | nil => exact absurd rfl hne
      | cons u rest =>
        have hrel := fun j => hrel far done rest u rfl j
        have hu : hasN W H hs u = true := hcl u (by simp)
        have huN := hasN_lt hu
        simp only at hdl
        have hg0 : ∀ q' : List Nat, (zs (u :: q')).getD (0 : Int).toNat 0 = (u : Int) := fun q' => rfl
        have hnr : (graph W H hs a b).2.2.2.1 = near W H hs a b := rfl
        unfold go_impl_graph_far_L1_G
        simp only [Option.getD_some, Option.isSome_some, hg0, hnr, near_length, inb_lt huN, if_true]
        rw [if_pos (by simp only [decide_eq_true_eq, zs_length, List.length_cons]; omega), show inb 0 (zs (u :: rest)).length = true from inb_lt (i := 0) (by simp), if_pos rfl]
        unfold go_impl_graph_far_L2
        refine iter_path (F := fun rec36 x35 => go_impl_graph_far_L2_G k (some (graph W H hs a b)) (c : Int) (far, zs (u :: rest)) rec2 rec36 x35)
          (fun j => ((j : Int), (((leaps W H hs a b u).take j).foldl (relax (far.getD u 0 + 1)) (far, rest)).1, zs (u :: (((leaps W H hs a b u).take j).foldl (relax (far.getD u 0 + 1)) (far, rest)).2))) (leaps W H hs a b u).length rfl (by have := leaps_length (W := W) (H := H) (a := a) (b := b) (c := u) (hs := hs); unfold K0 at hk; omega) (fun j hj rec3 => ?_) (fun rec3 => ?_)
        · obtain ⟨_, hu0, huh, hsj, hju⟩ := hrel j
          have hd := List.getElem?_eq_getElem hj
          generalize hdd : (leaps W H hs a b u)[j] = d at hd
          have hdN := leaps_lt u huN d (List.mem_of_getElem? hd)
          have htk : (leaps W H hs a b u).take (j + 1) = (leaps W H hs a b u).take j ++ [d] := by rw [List.take_succ_eq_append_getElem hj, hdd]
          rw [htk, List.foldl_append]
          have hll := leaps_length (W := W) (H := H) (a := a) (b := b) (c := u) (hs := hs)
          generalize ((leaps W H hs a b u).take j).foldl (relax (far.getD u 0 + 1)) (far, rest) = r at hsj hju
          obtain ⟨far', q'⟩ := r
          simp only at hsj hju
          have hlen' : far'.length = W * H := hsj.len
          have hql : (done ++ u :: q').length ≤ W * H := by have := hsj.length_le; simpa using this
          simp only [List.length_append, List.length_cons] at hql
          unfold go_impl_graph_far_L2_G
          simp only [Option.getD_some, Int.toNat_natCast, hg0, hnr, near_get hu, zs_get hd, hlen', inb_lt hdN, inb_lt huN, hju, wsucc (show j < 9223372036854775807 by omega), List.foldl_cons, List.foldl_nil]
          rw [if_pos (by simp only [decide_eq_true_eq, zs_length]; omega), zs_length, inb_lt hj]
          unfold relax
          simp only [if_true]
          by_cases hneg : far'.getD d 0 < 0
          · rw [if_pos (by simpa using hneg), if_pos hneg, show inb 0 (zs (u :: q')).length = true from inb_lt (i := 0) (by simp), if_pos rfl, if_pos (lim_le (by simp only [List.length_singleton, zs_length, List.length_cons, List.length_nil]; omega)), w64 (n := far.getD u 0 + 1) (by omega) (by omega)]
            rw [zs_single, ← zs_append]
            rfl
          · rw [if_neg (by simpa using hneg), if_neg hneg]
        · unfold go_impl_graph_far_L2_G
          simp only [Option.getD_some, Int.toNat_natCast, hg0, hnr, near_get hu]
          rw [if_neg (by simp), List.take_length, if_pos (by simp; omega)]
          unfold bstep
          simp [List.take_of_length_le]
    · unfold go_impl_graph_far_L1_G
      rw [if_neg (by simp [hpn]), hfar]

end Go.Lg
