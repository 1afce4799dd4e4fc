/-
  Plain law: breadth-first search, no program in sight.
-/
import Derived.Test.YtjnpogjniihmcaaPl1
set_option linter.unusedVariables false
set_option linter.unusedSimpArgs false
namespace Go.Lg

section
variable {N : Nat}

def relax (v : Int) (s : List Int × List Nat) (d : Nat) : List Int × List Nat := if s.1.getD d 0 < 0 then (s.1.set d v, s.2 ++ [d]) else s

structure Seen (N : Nat) (far : List Int) (q : List Nat) : Prop where
  len : far.length = N
  mem : ∀ x, x < N → (x ∈ q ↔ 0 ≤ far.getD x 0)
  bd : ∀ x, x ∈ q → x < N
  nd : q.Nodup

theorem getD_set_self {l : List Int} {i : Nat} {v : Int} (h : i < l.length) : (l.set i v).getD i 0 = v := by
  rw [List.getD_eq_getElem?_getD, List.getElem?_set_self h]; rfl
theorem getD_set_ne {l : List Int} {i j : Nat} {v : Int} (h : i ≠ j) : (l.set i v).getD j 0 = l.getD j 0 := by
  rw [List.getD_eq_getElem?_getD, List.getElem?_set_ne h, ← List.getD_eq_getElem?_getD]

theorem nodup_length_le {α : Type} [DecidableEq α] : ∀ {q l : List α}, q.Nodup → (∀ x ∈ q, x ∈ l) → q.length ≤ l.length
  | [], _, _, _ => by simp
  | a :: q, l, hn, hs => by
    have ⟨h1, h2⟩ := List.nodup_cons.1 hn
    have ha := hs a (List.mem_cons_self ..)
    have := nodup_length_le (q := q) (l := l.erase a) h2 fun x hx => by
      have hne : x ≠ a := fun e => h1 (e ▸ hx)
      exact (List.mem_erase_of_ne hne).2 (hs x (List.mem_cons_of_mem _ hx))
    rw [List.length_erase_of_mem ha] at this
    have hpos : 0 < l.length := List.length_pos_of_mem ha
    simp only [List.length_cons]
    omega

theorem length_le_of_nodup {q : List Nat} (hn : q.Nodup) (hb : ∀ x ∈ q, x < N) : q.length ≤ N := by
  have := nodup_length_le hn (l := List.range N) fun x hx => List.mem_range.2 (hb x hx)
  simpa using this

theorem Seen.length_le {far : List Int} {q : List Nat} (h : Seen N far q) : q.length ≤ N := length_le_of_nodup h.nd h.bd

structure Relaxed (N : Nat) (v : Int) (far : List Int) (q : List Nat) (l : List Nat) (far' : List Int) (q' : List Nat) : Prop where
  val : ∀ x, x < N → far'.getD x 0 = far.getD x 0 ∨ (far.getD x 0 < 0 ∧ x ∈ l ∧ far'.getD x 0 = v)
  all : ∀ d, d ∈ l → 0 ≤ far'.getD d 0
  new : ∃ n, q' = q ++ n ∧ ∀ x, x ∈ n → x ∈ l ∧ far.getD x 0 < 0 ∧ far'.getD x 0 = v

theorem relax_facts {v : Int} (hv : 0 ≤ v) : ∀ (l : List Nat) {far : List Int} {pre q : List Nat}, Seen N far (pre ++ q) → (∀ d ∈ l, d < N) →
    Seen N (l.foldl (relax v) (far, q)).1 (pre ++ (l.foldl (relax v) (far, q)).2) ∧ Relaxed N v far q l (l.foldl (relax v) (far, q)).1 (l.foldl (relax v) (far, q)).2
  | [], far, pre, q, hs, _ => ⟨hs, fun x _ => .inl rfl, fun d hd => (by cases hd), ⟨[], by simp, fun x hx => (by cases hx)⟩⟩
  | d :: l, far, pre, q, hs, hl => by
    have hd := hl d (List.mem_cons_self ..)
    rw [List.foldl_cons]
    by_cases hneg : far.getD d 0 < 0
    · have e : relax v (far, q) d = (far.set d v, q ++ [d]) := by unfold relax; rw [if_pos hneg]
      rw [e]
      have hdn : d ∉ pre ++ q := fun h => by have := (hs.mem d hd).1 h; omega
      have hs1 : Seen N (far.set d v) (pre ++ (q ++ [d])) := by
        rw [← List.append_assoc]
        refine ⟨by rw [List.length_set]; exact hs.len, fun x hx => ?_, fun x hx => ?_, ?_⟩
        · by_cases hxd : d = x
          · subst hxd
            rw [getD_set_self (by rw [hs.len]; exact hd)]
            simp [hv]
          · rw [getD_set_ne hxd, ← hs.mem x hx]
            have : ¬ x = d := fun e => hxd e.symm
            simp [this]
        · rcases List.mem_append.1 hx with h | h
          · exact hs.bd x h
          · simp at h; subst h; exact hd
        · rw [List.nodup_append]
          exact ⟨hs.nd, by simp, fun x hx y hy => by simp at hy; subst hy; intro e; subst e; exact hdn hx⟩
      obtain ⟨h1, h2⟩ := relax_facts hv l hs1 fun x hx => hl x (List.mem_cons_of_mem _ hx)
      refine ⟨h1, fun x hx => ?_, fun x hx => ?_, ?_⟩
      · rcases h2.val x hx with h | ⟨h, hm, hv'⟩
        · by_cases hxd : d = x
          · subst hxd
            rw [getD_set_self (by rw [hs.len]; exact hd)] at h
            exact .inr ⟨hneg, List.mem_cons_self .., h⟩
          · rw [getD_set_ne hxd] at h; exact .inl h
        · by_cases hxd : d = x
          · subst hxd
            exact .inr ⟨hneg, List.mem_cons_self .., hv'⟩
          · rw [getD_set_ne hxd] at h; exact .inr ⟨h, List.mem_cons_of_mem _ hm, hv'⟩
      · rcases List.mem_cons.1 hx with rfl | hx
        · rcases h2.val x hd with h | ⟨_, _, h⟩
          · rw [h, getD_set_self (by rw [hs.len]; exact hd)]; exact hv
          · rw [h]; exact hv
        · exact h2.all x hx
      · obtain ⟨n, hn, hn'⟩ := h2.new
        refine ⟨d :: n, by rw [hn]; simp, fun x hx => ?_⟩
        rcases List.mem_cons.1 hx with rfl | hx
        · refine ⟨List.mem_cons_self .., hneg, ?_⟩
          rcases h2.val x hd with h | ⟨_, _, h⟩
          · rw [h, getD_set_self (by rw [hs.len]; exact hd)]
          · exact h
        · obtain ⟨h1, h2, h3⟩ := hn' x hx
          refine ⟨List.mem_cons_of_mem _ h1, ?_, h3⟩
          by_cases hxd : d = x
          · subst hxd; exact hneg
          · rw [getD_set_ne hxd] at h2; exact h2
    · have e : relax v (far, q) d = (far, q) := by unfold relax; rw [if_neg hneg]
      rw [e]
      obtain ⟨h1, h2⟩ := relax_facts hv l hs fun x hx => hl x (List.mem_cons_of_mem _ hx)
      refine ⟨h1, fun x hx => ?_, fun x hx => ?_, ?_⟩
      · rcases h2.val x hx with h | ⟨h, hm, hv'⟩
        · exact .inl h
        · exact .inr ⟨h, List.mem_cons_of_mem _ hm, hv'⟩
      · rcases List.mem_cons.1 hx with rfl | hx
        · rcases h2.val x hd with h | ⟨_, _, h⟩
          · rw [h]; omega
          · rw [h]; exact hv
        · exact h2.all x hx
      · obtain ⟨n, hn, hn'⟩ := h2.new
        exact ⟨n, hn, fun x hx => ⟨List.mem_cons_of_mem _ (hn' x hx).1, (hn' x hx).2⟩⟩

/-- A state of the search. -/
structure Bst where
  far : List Int
  done : List Nat
  pend : List Nat

def bstep (nb : Nat → List Nat) (s : Bst) : Bst :=
  match s.pend with
  | [] => s
  | u :: rest => let r := (nb u).foldl (relax (s.far.getD u 0 + 1)) (s.far, rest); ⟨r.1, s.done ++ [u], r.2⟩

def binit (N c : Nat) : Bst := ⟨(List.replicate N (-1)).set c 0, [], [c]⟩

def bst (nb : Nat → List Nat) (N c : Nat) : Nat → Bst
  | 0 => binit N c
  | i + 1 => bstep nb (bst nb N c i)

def bfs (nb : Nat → List Nat) (N c : Nat) : List Int := (bst nb N c N).far

structure BInv (nb : Nat → List Nat) (N c : Nat) (s : Bst) : Prop where
  seen : Seen N s.far (s.done ++ s.pend)
  low : ∀ x, x < N → s.far.getD x 0 = -1 ∨ 0 ≤ s.far.getD x 0
  high : ∀ x, x < N → s.far.getD x 0 ≤ s.done.length
  start : s.far.getD c 0 = 0
  zero : ∀ x, x < N → s.far.getD x 0 = 0 → x = c
  pred : ∀ x, x < N → 0 < s.far.getD x 0 → ∃ u, u < N ∧ x ∈ nb u ∧ s.far.getD u 0 = s.far.getD x 0 - 1
  over : ∀ u, u ∈ s.done → ∀ d, d ∈ nb u → 0 ≤ s.far.getD d 0 ∧ s.far.getD d 0 ≤ s.far.getD u 0 + 1
  sorted : s.pend.Pairwise fun x y => s.far.getD x 0 ≤ s.far.getD y 0
  past : ∀ x, x ∈ s.done → ∀ y, y ∈ s.pend → s.far.getD x 0 ≤ s.far.getD y 0
  near : ∀ x, x < N → ∀ y, y ∈ s.pend → s.far.getD x 0 ≤ s.far.getD y 0 + 1

variable {nb : Nat → List Nat} {c : Nat}

theorem binv_init (hc : c < N) : BInv nb N c (binit N c) := by
  have hg : ∀ x, x < N → ((List.replicate N (-1 : Int)).set c 0).getD x 0 = if x = c then 0 else -1 := fun x hx => by
    by_cases h : c = x
    · subst h; rw [getD_set_self (by simpa using hc)]; simp
    · rw [getD_set_ne h, List.getD_eq_getElem?_getD, List.getElem?_replicate]
      have : ¬ x = c := fun e => h e.symm
      simp [hx, this]
  unfold binit
  refine ⟨⟨by simp, fun x hx => ?_, fun x hx => ?_, by simp⟩, fun x hx => ?_, fun x hx => ?_, ?_, fun x hx h => ?_, fun x hx h => ?_, fun u hu => (by cases hu), by simp, fun x hx => (by cases hx), fun x hx y hy => ?_⟩
  · simp only [hg x hx, List.nil_append, List.mem_singleton]
    by_cases h : x = c <;> simp [h]
  · simp at hx; subst hx; exact hc
  · simp only [hg x hx]; split <;> simp
  · simp only [hg x hx]; split <;> simp
  · simp only [hg c hc, if_true]
  · simp only [hg x hx] at h
    split at h
    · assumption
    · omega
  · simp only [hg x hx] at h
    split at h <;> omega
  · simp at hy; subst hy
    simp only [hg x hx, hg y hc]
    split <;> simp

theorem binv_step (hnb : ∀ u, u < N → ∀ d ∈ nb u, d < N) {s : Bst} (h : BInv nb N c s) (hc : c < N) : BInv nb N c (bstep nb s) := by
  obtain ⟨far, done, pend⟩ := s
  cases pend with
  | nil => exact h
  | cons u rest =>
    have huN : u < N := h.seen.bd u (by simp)
    have hu0 : 0 ≤ far.getD u 0 := (h.seen.mem u huN).1 (by simp)
    have hseen : Seen N far ((done ++ [u]) ++ rest) := by have := h.seen; simpa using this
    obtain ⟨h1, h2⟩ := relax_facts (v := far.getD u 0 + 1) (by omega) (nb u) hseen (hnb u huN)
    unfold bstep
    simp only
    generalize (nb u).foldl (relax (far.getD u 0 + 1)) (far, rest) = r at h1 h2
    obtain ⟨far', q'⟩ := r
    simp only at h1 h2 ⊢
    have keep : ∀ x, x < N → 0 ≤ far.getD x 0 → far'.getD x 0 = far.getD x 0 := fun x hx h0 => by
      rcases h2.val x hx with h | ⟨h, _⟩
      · exact h
      · omega
    have hnear : ∀ x, x < N → far.getD x 0 ≤ far.getD u 0 + 1 := fun x hx => h.near x hx u (by simp)
    have hu' : far'.getD u 0 = far.getD u 0 := keep u huN hu0
    obtain ⟨new, hq', hnew⟩ := h2.new
    have hrest : ∀ y, y ∈ rest → y < N ∧ 0 ≤ far.getD y 0 ∧ far.getD u 0 ≤ far.getD y 0 := fun y hy => by
      have hyN := h.seen.bd y (by simp [hy])
      exact ⟨hyN, (h.seen.mem y hyN).1 (by simp [hy]), (List.pairwise_cons.1 h.sorted).1 y hy⟩
    have hpend : ∀ y, y ∈ q' → far.getD u 0 ≤ far'.getD y 0 := fun y hy => by
      rw [hq'] at hy
      rcases List.mem_append.1 hy with hy | hy
      · obtain ⟨a, b, c⟩ := hrest y hy
        rw [keep y a b]; exact c
      · rw [(hnew y hy).2.2]; omega
    have hmax : ∀ x, x < N → far'.getD x 0 ≤ far.getD u 0 + 1 := fun x hx => by
      rcases h2.val x hx with h | ⟨_, _, h⟩
      · rw [h]; exact hnear x hx
      · rw [h]; omega
    refine ⟨by simpa using h1, fun x hx => ?_, fun x hx => ?_, ?_, fun x hx h0 => ?_, fun x hx h0 => ?_, fun w hw d hd => ?_, ?_, fun x hx y hy => ?_, fun x hx y hy => ?_⟩
    · rcases h2.val x hx with h' | ⟨_, _, h'⟩
      · simp only [h']; exact h.low x hx
      · simp only [h']; right; omega
    · have := h.high u huN
      simp only [List.length_append, List.length_singleton] at this ⊢
      have := hmax x hx
      omega
    · rw [keep c hc (by rw [h.start]; omega)]; exact h.start
    · rcases h2.val x hx with h' | ⟨_, _, h'⟩
      · exact h.zero x hx (by rw [← h']; exact h0)
      · have := h0; simp only at this; omega
    · rcases h2.val x hx with h' | ⟨_, hm, h'⟩
      · obtain ⟨w, hw, hxw, hv⟩ := h.pred x hx (by rw [← h']; exact h0)
        refine ⟨w, hw, hxw, ?_⟩
        have h0' := h0
        simp only at h0' hv ⊢
        rw [keep w hw (by omega), h']; exact hv
      · refine ⟨u, huN, hm, ?_⟩
        simp only
        rw [hu', h']; omega
    · rcases List.mem_append.1 hw with hw | hw
      · have hwN := h.seen.bd w (by simp [hw])
        have hw0 := (h.seen.mem w hwN).1 (by simp [hw])
        obtain ⟨a, b⟩ := h.over w hw d hd
        have hdN := hnb w hwN d hd
        simp only at a b ⊢
        rw [keep d hdN a, keep w hwN hw0]
        exact ⟨a, b⟩
      · simp at hw; subst hw
        have hdN := hnb w huN d hd
        simp only
        rw [hu']
        exact ⟨h2.all d hd, hmax d hdN⟩
    · simp only
      rw [hq']
      refine List.pairwise_append.2 ⟨?_, ?_, fun x hx y hy => ?_⟩
      · refine (List.pairwise_cons.1 h.sorted).2.imp_of_mem fun {x y} hx hy hxy => ?_
        obtain ⟨a, b, _⟩ := hrest x hx
        obtain ⟨a', b', _⟩ := hrest y hy
        rw [keep x a b, keep y a' b']; exact hxy
      · refine List.pairwise_of_forall_mem_list fun x hx y hy => ?_
        rw [(hnew x hx).2.2, (hnew y hy).2.2]; omega
      · rw [(hnew y hy).2.2]
        exact hmax x (hrest x hx).1
    · have hle := hpend y hy
      rcases List.mem_append.1 hx with hx | hx
      · have hxN := h.seen.bd x (by simp [hx])
        have hx0 := (h.seen.mem x hxN).1 (by simp [hx])
        have := h.past x hx u (by simp)
        simp only at this ⊢
        rw [keep x hxN hx0]; omega
      · simp at hx; subst hx
        simp only
        rw [hu']; exact hle
    · have := hpend y hy
      have := hmax x hx
      simp only
      omega

theorem binv (hnb : ∀ u, u < N → ∀ d ∈ nb u, d < N) (hc : c < N) : ∀ i, BInv nb N c (bst nb N c i)
  | 0 => binv_init hc
  | i + 1 => binv_step hnb (binv hnb hc i) hc

/-- As long as there is work, one cell is done a step. -/
theorem done_length : ∀ {i}, (∀ j, j < i → (bst nb N c j).pend ≠ []) → (bst nb N c i).done.length = i
  | 0, _ => rfl
  | i + 1, h => by
    have ih := done_length (i := i) fun j hj => h j (by omega)
    have hne := h i (by omega)
    show (bstep nb (bst nb N c i)).done.length = i + 1
    unfold bstep
    split
    · rename_i he; exact absurd he hne
    · simp [ih]

theorem pend_stays {i : Nat} (h : (bst nb N c i).pend = []) : ∀ {j}, i ≤ j → bst nb N c j = bst nb N c i := by
  intro j
  induction j with
  | zero => intro hj; have : i = 0 := by omega
            rw [this]
  | succ j ih =>
    intro hj
    rcases Nat.lt_or_ge i (j + 1) with hlt | hge
    · have e := ih (by omega)
      show bstep nb (bst nb N c j) = _
      rw [e]
      unfold bstep
      split
      · rfl
      · rename_i he; rw [h] at he; cases he
    · have : i = j + 1 := by omega
      rw [this]

/-- The search ends. -/
theorem bfs_ends (hnb : ∀ u, u < N → ∀ d ∈ nb u, d < N) (hc : c < N) : ∃ n, n ≤ N ∧ (bst nb N c n).pend = [] ∧ (∀ j, j < n → (bst nb N c j).pend ≠ []) ∧ (bst nb N c n).far = bfs nb N c := by
  have hex : ∀ m, (∃ n, n ≤ m ∧ (bst nb N c n).pend = [] ∧ ∀ j, j < n → (bst nb N c j).pend ≠ []) ∨ ∀ j, j ≤ m → (bst nb N c j).pend ≠ [] := by
    intro m
    induction m with
    | zero =>
      by_cases h : (bst nb N c 0).pend = []
      · exact .inl ⟨0, Nat.le_refl _, h, fun j hj => by omega⟩
      · exact .inr fun j hj => by have : j = 0 := by omega
                                  subst this; exact h
    | succ m ih =>
      rcases ih with ⟨n, h1, h2, h3⟩ | h
      · exact .inl ⟨n, by omega, h2, h3⟩
      · by_cases he : (bst nb N c (m + 1)).pend = []
        · exact .inl ⟨m + 1, Nat.le_refl _, he, fun j hj => h j (by omega)⟩
        · refine .inr fun j hj => ?_
          rcases Nat.lt_or_ge m j with hlt | hge
          · have : j = m + 1 := by omega
            subst this; exact he
          · exact h j hge
  rcases hex N with ⟨n, h1, h2, h3⟩ | h
  · exact ⟨n, h1, h2, h3, by unfold bfs; rw [pend_stays h2 h1]⟩
  · exfalso
    have hl := done_length (nb := nb) (N := N) (c := c) (i := N) fun j hj => h j (by omega)
    have := (binv hnb hc N).seen.length_le
    rw [List.length_append, hl] at this
    have hp := h N (Nat.le_refl _)
    cases hq : (bst nb N c N).pend with
    | nil => exact hp hq
    | cons a l => rw [hq, List.length_cons] at this; omega

/-- What the search finds. -/
structure Far (nb : Nat → List Nat) (N c : Nat) (F : List Int) : Prop where
  len : F.length = N
  low : ∀ x, x < N → F.getD x 0 = -1 ∨ 0 ≤ F.getD x 0
  high : ∀ x, x < N → F.getD x 0 < N
  start : F.getD c 0 = 0
  zero : ∀ x, x < N → F.getD x 0 = 0 → x = c
  pred : ∀ x, x < N → 0 < F.getD x 0 → ∃ u, u < N ∧ x ∈ nb u ∧ F.getD u 0 = F.getD x 0 - 1
  over : ∀ u, u < N → 0 ≤ F.getD u 0 → ∀ d, d ∈ nb u → 0 ≤ F.getD d 0 ∧ F.getD d 0 ≤ F.getD u 0 + 1

theorem bfs_far (hnb : ∀ u, u < N → ∀ d ∈ nb u, d < N) (hc : c < N) : Far nb N c (bfs nb N c) := by
  obtain ⟨n, hn, hp, hbefore, hf⟩ := bfs_ends hnb hc
  have h := binv hnb hc n
  rw [← hf]
  have hl := done_length hbefore
  refine ⟨h.seen.len, h.low, fun x hx => ?_, h.start, h.zero, h.pred, fun u hu h0 => ?_⟩
  · rcases Nat.eq_zero_or_pos n with h0 | h0
    · subst h0
      have := h.high x hx
      rw [hl] at this
      omega
    · have := binv hnb hc (n - 1)
      have hl' := done_length (nb := nb) (N := N) (c := c) (i := n - 1) fun j hj => hbefore j (by omega)
      -- the last step
      have e : bst nb N c n = bstep nb (bst nb N c (n - 1)) := by
        cases n with
        | zero => omega
        | succ n => rfl
      cases hq : (bst nb N c (n - 1)).pend with
      | nil => exact absurd hq (hbefore (n - 1) (by omega))
      | cons u rest =>
        have hpr : ∀ y, y < N → (bst nb N c n).far.getD y 0 ≤ (n : Int) - 1 ∨ ∃ z, z < N ∧ (bst nb N c n).far.getD y 0 ≤ (n : Int) := fun y hy => .inr ⟨y, hy, by have := h.high y hy; rw [hl] at this; exact this⟩
        rcases Nat.lt_or_ge n N with hlt | hge
        · have := h.high x hx; rw [hl] at this; omega
        · have hnN : n = N := by omega
          -- all cells are done; the last one adds none
          have hd : (bst nb N c n).done = (bst nb N c (n - 1)).done ++ [u] := by
            rw [e]; unfold bstep; rw [hq]
          have hlen := (binv hnb hc (n - 1)).seen.length_le
          rw [List.length_append, hl', hq] at hlen
          simp only [List.length_cons] at hlen
          -- at n - 1 all values are at most n - 1, and no cell is new in the last step
          rcases Int.lt_or_le ((bst nb N c n).far.getD x 0) N with hh | hh
          · exact hh
          · exfalso
            have hsn := (binv hnb hc (n - 1)).seen
            have hxd : x ∈ (bst nb N c (n - 1)).done ++ (bst nb N c (n - 1)).pend := by
              have hx' : x ∈ (bst nb N c n).done ++ (bst nb N c n).pend := (h.seen.mem x hx).2 (by omega)
              rw [hp, List.append_nil, hd] at hx'
              rw [hq]
              rcases List.mem_append.1 hx' with h | h
              · exact List.mem_append.2 (.inl h)
              · simp at h; subst h; simp
            have hold := (hsn.mem x hx).1 hxd
            have hhigh := this.high x hx
            rw [hl'] at hhigh
            have huN : u < N := hsn.bd u (by rw [hq]; simp)
            have hu0 : 0 ≤ (bst nb N c (n - 1)).far.getD u 0 := (hsn.mem u huN).1 (by rw [hq]; simp)
            have hseen' : Seen N (bst nb N c (n - 1)).far (((bst nb N c (n - 1)).done ++ [u]) ++ rest) := by
              have := hsn; rw [hq] at this; simpa using this
            obtain ⟨_, h2⟩ := relax_facts (v := (bst nb N c (n - 1)).far.getD u 0 + 1) (by omega) (nb u) hseen' (hnb u huN)
            have hfar : (bst nb N c n).far = ((nb u).foldl (relax ((bst nb N c (n - 1)).far.getD u 0 + 1)) ((bst nb N c (n - 1)).far, rest)).1 := by
              rw [e]; conv => lhs; unfold bstep
              rw [hq]
            rcases h2.val x hx with h' | ⟨h', _⟩
            · rw [← hfar] at h'
              rw [h'] at hh
              omega
            · omega
  · have hu' : u ∈ (bst nb N c n).done := by
      have := (h.seen.mem u hu).2 h0
      rw [hp, List.append_nil] at this
      exact this
    exact h.over u hu'

end
end Go.Lg
