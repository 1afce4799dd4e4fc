/-
  Plain law: what is connected; parts; two colours. No program in sight.
-/
import Derived.Test.YtjnpogjniihmcaaPl8
set_option linter.unusedVariables false
set_option linter.unusedSimpArgs false
namespace Go.Lg

/-- There is a way from c to x. -/
inductive Conn (nb : Nat → List Nat) (c : Nat) : Nat → Prop where
  | refl : Conn nb c c
  | step {u x : Nat} : Conn nb c u → x ∈ nb u → Conn nb c x

theorem Conn.lt {nb : Nat → List Nat} {N c x : Nat} (hnb : ∀ u, u < N → ∀ d ∈ nb u, d < N) (hc : c < N) (h : Conn nb c x) : x < N := by
  induction h with
  | refl => exact hc
  | step _ hx ih => exact hnb _ ih _ hx

theorem Conn.trans {nb : Nat → List Nat} {c x y : Nat} (h1 : Conn nb c x) (h2 : Conn nb x y) : Conn nb c y := by
  induction h2 with
  | refl => exact h1
  | step _ hx ih => exact ih.step hx

theorem Far.conn {nb : Nat → List Nat} {N c : Nat} {F : List Int} (hnb : ∀ u, u < N → ∀ d ∈ nb u, d < N) (hF : Far nb N c F) (hc : c < N) : ∀ x, x < N → (0 ≤ F.getD x 0 ↔ Conn nb c x) := by
  intro x hx
  constructor
  · have : ∀ (n : Nat) x, x < N → F.getD x 0 = (n : Int) → Conn nb c x := by
      intro n
      induction n with
      | zero =>
        intro x hx h
        have := hF.zero x hx (by simpa using h)
        subst this; exact .refl
      | succ n ih =>
        intro x hx h
        obtain ⟨u, hu, hxu, hv⟩ := hF.pred x hx (by omega)
        exact (ih u hu (by omega)).step hxu
    intro h
    obtain ⟨n, hn⟩ := Int.eq_ofNat_of_zero_le h
    exact this n x hx hn
  · intro h
    clear hx
    induction h with
    | refl => rw [hF.start]; omega
    | @step u y hcu hy ih => exact (hF.over u (hcu.lt hnb hc) ih y hy).1

/-- A graph whose leaps go back. -/
structure Sym (N : Nat) (nb : Nat → List Nat) (Q : Nat → Prop) : Prop where
  lt : ∀ u, u < N → ∀ d ∈ nb u, d < N
  qlt : ∀ u, Q u → u < N
  q : ∀ u, Q u → ∀ d ∈ nb u, Q d
  back : ∀ u, Q u → ∀ d ∈ nb u, u ∈ nb d

theorem Sym.conn {N : Nat} {nb : Nat → List Nat} {Q : Nat → Prop} (h : Sym N nb Q) {c x : Nat} (hc : Q c) (hx : Conn nb c x) : Q x := by
  induction hx with
  | refl => exact hc
  | step _ hx ih => exact h.q _ ih _ hx

theorem Sym.symm {N : Nat} {nb : Nat → List Nat} {Q : Nat → Prop} (h : Sym N nb Q) {c x : Nat} (hc : Q c) (hx : Conn nb c x) : Conn nb x c := by
  induction hx with
  | refl => exact .refl
  | @step u y hcu hy ih =>
    have hu := h.conn hc hcu
    have h1 : Conn nb y u := Conn.refl.step (h.back u hu y hy)
    exact h1.trans ih

/-- The first cell of its part. -/
noncomputable def isRep (nb : Nat → List Nat) (cs : List Nat) (c : Nat) : Bool := @decide (∀ d ∈ cs, d < c → ¬ Conn nb d c) (Classical.propDecidable _)

theorem isRep_iff {nb : Nat → List Nat} {cs : List Nat} {c : Nat} : isRep nb cs c = true ↔ ∀ d ∈ cs, d < c → ¬ Conn nb d c := by simp [isRep]

noncomputable def reps (nb : Nat → List Nat) (cs : List Nat) : List Nat := cs.filter (isRep nb cs)

def reach (nb : Nat → List Nat) (N c : Nat) : List Nat := (List.range N).filter fun x => decide (0 ≤ (bfs nb N c).getD x 0)

noncomputable def partsOf (nb : Nat → List Nat) (N : Nat) (cs : List Nat) : List (List Nat) := (reps nb cs).map (reach nb N)

section
variable {N : Nat} {nb : Nat → List Nat} {cs : List Nat}

/-- The cells' list: rising, and they are the graph's cells. -/
structure Cs (N : Nat) (nb : Nat → List Nat) (cs : List Nat) : Prop where
  sym : Sym N nb (· ∈ cs)
  up : cs.Pairwise (· < ·)

theorem Cs.before (h : Cs N nb cs) {i c : Nat} (hi : cs[i]? = some c) (d : Nat) : d ∈ cs.take i ↔ d ∈ cs ∧ d < c := by
  have hlt := length_lt hi
  have hc : cs[i] = c := by rw [List.getElem?_eq_getElem hlt] at hi; exact Option.some.inj hi
  have hp := List.pairwise_iff_getElem.1 h.up
  constructor
  · intro hd
    obtain ⟨j, hj, hjd⟩ := List.mem_iff_getElem.1 hd
    have hji : j < i := by rw [List.length_take] at hj; omega
    rw [List.getElem_take] at hjd
    have := hp j i (by omega) hlt hji
    exact ⟨List.mem_of_mem_take hd, by omega⟩
  · rintro ⟨hd, hlt'⟩
    obtain ⟨j, hj, hjd⟩ := List.mem_iff_getElem.1 hd
    have hji : j < i := by
      rcases Nat.lt_or_ge j i with h' | h'
      · exact h'
      · rcases Nat.eq_or_lt_of_le h' with e | e
        · subst e; omega
        · have := hp i j hlt hj e; omega
    rw [← hjd]
    exact List.mem_iff_getElem.2 ⟨j, by rw [List.length_take]; omega, List.getElem_take⟩

theorem Cs.bfs_conn (h : Cs N nb cs) {c x : Nat} (hc : c ∈ cs) (hx : x < N) : 0 ≤ (bfs nb N c).getD x 0 ↔ Conn nb c x :=
  (bfs_far h.sym.lt (h.sym.qlt c hc)).conn h.sym.lt (h.sym.qlt c hc) x hx

theorem Cs.mem_reach (h : Cs N nb cs) {c x : Nat} (hc : c ∈ cs) : x ∈ reach nb N c ↔ Conn nb c x := by
  unfold reach
  rw [List.mem_filter, List.mem_range, decide_eq_true_eq]
  constructor
  · rintro ⟨h1, h2⟩; exact (h.bfs_conn hc h1).1 h2
  · intro h1
    have hx := h1.lt h.sym.lt (h.sym.qlt c hc)
    exact ⟨hx, (h.bfs_conn hc hx).2 h1⟩

/-- What was seen before cell i decides whether it is the first of its part. -/
theorem Cs.seen_iff (h : Cs N nb cs) {i c : Nat} (hi : cs[i]? = some c) : (∃ d ∈ cs.take i, Conn nb d c) ↔ isRep nb cs c = false := by
  rw [← Bool.not_eq_true, isRep_iff]
  constructor
  · rintro ⟨d, hd, hcd⟩ hr
    obtain ⟨h1, h2⟩ := (h.before hi d).1 hd
    exact hr d h1 h2 hcd
  · intro hr
    rcases Classical.em (∃ d ∈ cs.take i, Conn nb d c) with hh | hh
    · exact hh
    · exact absurd (fun d hd hlt hcd => hh ⟨d, (h.before hi d).2 ⟨hd, hlt⟩, hcd⟩) hr

/-- A part begins with its first cell. -/
theorem Cs.reach_head (h : Cs N nb cs) {c : Nat} (hc : c ∈ cs) (hr : isRep nb cs c = true) : (reach nb N c)[0]? = some c := by
  have hmem := (h.mem_reach hc (x := c)).2 .refl
  have hsort : (reach nb N c).Pairwise (· < ·) := List.Pairwise.filter _ List.pairwise_lt_range
  obtain ⟨j, hj, hjc⟩ := List.mem_iff_getElem.1 hmem
  have h0 : 0 < (reach nb N c).length := by omega
  rw [List.getElem?_eq_getElem h0]
  congr 1
  rcases Nat.eq_zero_or_pos j with e | e
  · subst e; exact hjc
  · exfalso
    have hlt := List.pairwise_iff_getElem.1 hsort 0 j h0 hj e
    have hx := (h.mem_reach hc (x := (reach nb N c)[0])).1 (List.getElem_mem h0)
    exact isRep_iff.1 hr _ (h.sym.conn hc hx) (by omega) (h.sym.symm hc hx)

/-- One part's colours are laid over what is there. -/
def lay2 (nb : Nat → List Nat) (N : Nat) (out : List Int) (c : Nat) : List Int := (List.range N).map fun x => if 0 ≤ (bfs nb N c).getD x 0 then ((bfs nb N c).getD x 0) % 2 else out.getD x 0

noncomputable def sides (nb : Nat → List Nat) (N : Nat) (cs : List Nat) : List Int := (reps nb cs).foldl (lay2 nb N) (List.replicate N (-1))

theorem lay2_length (nb : Nat → List Nat) (N : Nat) (out : List Int) (c : Nat) : (lay2 nb N out c).length = N := by simp [lay2]

theorem lay2_get {out : List Int} {c x : Nat} (hx : x < N) : (lay2 nb N out c).getD x 0 = if 0 ≤ (bfs nb N c).getD x 0 then ((bfs nb N c).getD x 0) % 2 else out.getD x 0 := by
  simp [lay2, List.getD_eq_getElem?_getD, List.getElem?_range hx]

/-- The colours after the first i cells. -/
noncomputable def sidesTo (nb : Nat → List Nat) (N : Nat) (cs : List Nat) (i : Nat) : List Int := ((cs.take i).filter (isRep nb cs)).foldl (lay2 nb N) (List.replicate N (-1))

theorem sidesTo_succ {i c : Nat} (hi : cs[i]? = some c) : sidesTo nb N cs (i + 1) = if isRep nb cs c = true then lay2 nb N (sidesTo nb N cs i) c else sidesTo nb N cs i := by
  unfold sidesTo
  have hlt := length_lt hi
  have hc : cs[i] = c := by rw [List.getElem?_eq_getElem hlt] at hi; exact Option.some.inj hi
  rw [List.take_succ_eq_append_getElem hlt, List.filter_append, List.foldl_append, hc]
  by_cases h : isRep nb cs c = true
  · rw [if_pos h]; simp [h]
  · rw [if_neg h]; simp [h]

theorem sidesTo_length (i : Nat) : (sidesTo nb N cs i).length = N := by
  unfold sidesTo
  have : ∀ (l : List Nat) (out : List Int), out.length = N → (l.foldl (lay2 nb N) out).length = N := by
    intro l
    induction l with
    | nil => intro out h; exact h
    | cons a l ih => intro out h; exact ih _ (lay2_length ..)
  exact this _ _ (by simp)

/-- What stands at x after i cells. -/
theorem Cs.sidesTo_val (h : Cs N nb cs) : ∀ i, i ≤ cs.length → ∀ x, x < N →
    (∀ c ∈ cs.take i, isRep nb cs c = true → Conn nb c x → (sidesTo nb N cs i).getD x 0 = (bfs nb N c).getD x 0 % 2) ∧
    ((¬ ∃ c ∈ cs.take i, Conn nb c x) → (sidesTo nb N cs i).getD x 0 = -1) ∧
    ((∃ c ∈ cs.take i, Conn nb c x) → ∃ c ∈ cs.take i, isRep nb cs c = true ∧ Conn nb c x)
  | 0, _, x, hx => by
    refine ⟨fun c hc => by simp at hc, fun _ => ?_, fun ⟨c, hc, _⟩ => by simp at hc⟩
    simp [sidesTo, List.getD_eq_getElem?_getD, List.getElem?_replicate, hx]
  | i + 1, hi, x, hx => by
    obtain ⟨ih1, ih2, ih3⟩ := h.sidesTo_val i (by omega) x hx
    have hlt : i < cs.length := by omega
    have hget := List.getElem?_eq_getElem hlt
    generalize hcc : cs[i] = c at hget
    have hcm := List.mem_of_getElem? hget
    have htake : cs.take (i + 1) = cs.take i ++ [c] := by rw [List.take_succ_eq_append_getElem hlt, hcc]
    rw [htake, sidesTo_succ hget]
    by_cases hr : isRep nb cs c = true
    · rw [if_pos hr]
      refine ⟨fun c' hc' hr' hcx => ?_, fun hno => ?_, fun ⟨c', hc', hcx⟩ => ?_⟩
      · rw [lay2_get hx]
        rcases List.mem_append.1 hc' with hm | hm
        · have hnot : ¬ 0 ≤ (bfs nb N c).getD x 0 := by
            intro h0
            have h1 := (h.bfs_conn hcm hx).1 h0
            obtain ⟨m1, m2⟩ := (h.before hget c').1 hm
            have := hcx.trans (h.sym.symm hcm h1)
            exact isRep_iff.1 hr c' m1 m2 this
          rw [if_neg hnot]
          exact ih1 c' hm hr' hcx
        · simp at hm; subst hm
          rw [if_pos ((h.bfs_conn hcm hx).2 hcx)]
      · rw [lay2_get hx, if_neg]
        · exact ih2 fun ⟨c', hc', hcx⟩ => hno ⟨c', List.mem_append.2 (.inl hc'), hcx⟩
        · intro h0
          exact hno ⟨c, by simp, (h.bfs_conn hcm hx).1 h0⟩
      · rcases List.mem_append.1 hc' with hm | hm
        · obtain ⟨c2, h1, h2, h3⟩ := ih3 ⟨c', hm, hcx⟩
          exact ⟨c2, List.mem_append.2 (.inl h1), h2, h3⟩
        · simp at hm; subst hm
          exact ⟨c', by simp, hr, hcx⟩
    · rw [if_neg hr]
      have hseen := (h.seen_iff hget).2 (by simpa using hr)
      refine ⟨fun c' hc' hr' hcx => ?_, fun hno => ?_, fun ⟨c', hc', hcx⟩ => ?_⟩
      · rcases List.mem_append.1 hc' with hm | hm
        · exact ih1 c' hm hr' hcx
        · simp at hm; subst hm; exact absurd hr' hr
      · exact ih2 fun ⟨c', hc', hcx⟩ => hno ⟨c', List.mem_append.2 (.inl hc'), hcx⟩
      · have : ∃ c ∈ cs.take i, Conn nb c x := by
          rcases List.mem_append.1 hc' with hm | hm
          · exact ⟨c', hm, hcx⟩
          · simp at hm; subst hm
            obtain ⟨d, hd, hdc⟩ := hseen
            exact ⟨d, hd, hdc.trans hcx⟩
        obtain ⟨c2, h1, h2, h3⟩ := ih3 this
        exact ⟨c2, List.mem_append.2 (.inl h1), h2, h3⟩

/-- Painted is what was seen. -/
theorem Cs.sidesTo_pos (h : Cs N nb cs) {i x : Nat} (hi : i ≤ cs.length) (hx : x < N) : 0 ≤ (sidesTo nb N cs i).getD x 0 ↔ ∃ c ∈ cs.take i, Conn nb c x := by
  obtain ⟨h1, h2, h3⟩ := h.sidesTo_val i hi x hx
  constructor
  · intro h0
    rcases Classical.em (∃ c ∈ cs.take i, Conn nb c x) with hh | hh
    · exact hh
    · have := h2 hh; omega
  · intro hh
    obtain ⟨c, hc, hr, hcx⟩ := h3 hh
    rw [h1 c hc hr hcx]
    exact Int.emod_nonneg _ (by omega)

theorem sides_eq : sides nb N cs = sidesTo nb N cs cs.length := by unfold sides sidesTo reps; rw [List.take_length]

/-! ### colours -/

/-- The far values' parity follows a colouring of the cells. -/
theorem Far.parity {c : Nat} {F : List Int} (hF : Far nb N c F) (col : Nat → Nat) (hcol : ∀ u, u < N → ∀ d ∈ nb u, (col u + col d) % 2 = 1) :
    ∀ x, x < N → 0 ≤ F.getD x 0 → (F.getD x 0 + (col c : Int) + (col x : Int)) % 2 = 0 := by
  have : ∀ (n : Nat) x, x < N → F.getD x 0 = (n : Int) → ((n : Int) + (col c : Int) + (col x : Int)) % 2 = 0 := by
    intro n
    induction n with
    | zero =>
      intro x hx h
      have := hF.zero x hx (by simpa using h)
      subst this; omega
    | succ n ih =>
      intro x hx h
      obtain ⟨u, hu, hxu, hv⟩ := hF.pred x hx (by omega)
      have h1 := ih u hu (by omega)
      have h2 := hcol u hu x hxu
      omega
  intro x hx h0
  obtain ⟨n, hn⟩ := Int.eq_ofNat_of_zero_le h0
  have := this n x hx hn
  rw [hn]
  exact this

theorem Cs.sides_differ (h : Cs N nb cs) (col : Nat → Nat) (hcol : ∀ u, u < N → ∀ d ∈ nb u, (col u + col d) % 2 = 1) {x y : Nat} (hx : x ∈ cs) (hy : y ∈ nb x) : (sides nb N cs).getD x 0 ≠ (sides nb N cs).getD y 0 := by
  have hxN := h.sym.qlt x hx
  have hyN := h.sym.lt x hxN y hy
  have hyc := h.sym.q x hx y hy
  rw [sides_eq]
  obtain ⟨h1, _, h3⟩ := h.sidesTo_val cs.length (Nat.le_refl _) x hxN
  obtain ⟨g1, _, _⟩ := h.sidesTo_val cs.length (Nat.le_refl _) y hyN
  rw [List.take_length] at h1 h3 g1
  obtain ⟨c, hc, hr, hcx⟩ := h3 ⟨x, hx, .refl⟩
  have hcy := hcx.step hy
  rw [h1 c hc hr hcx, g1 c hc hr hcy]
  have hF := bfs_far h.sym.lt (h.sym.qlt c hc)
  have p1 := hF.parity col hcol x hxN ((h.bfs_conn hc hxN).2 hcx)
  have p2 := hF.parity col hcol y hyN ((h.bfs_conn hc hyN).2 hcy)
  have := hcol x hxN y hy
  omega

end

/-! ### the board's graph -/

theorem cells_cs {W H a b : Nat} {hs : List Nat} : Cs (W * H) (leaps W H hs a b) (cells W H hs) := by
  refine ⟨⟨leaps_lt, fun u hu => hasN_lt (mem_cells.1 hu), fun u _ d hd => mem_cells.2 (leaps_has hd), fun u hu d hd => ?_⟩, cells_sorted⟩
  rw [mem_leaps] at hd ⊢
  exact ⟨mem_cells.1 hu, by rw [adj_comm]; exact hd.2⟩

theorem gcd_facts : ∀ a, a < 6 → ∀ b, b < 6 → a ≤ b → 1 ≤ b → ∃ g, 0 < g ∧ ∃ p q, a = g * p ∧ b = g * q ∧ ((p + q) % 2 = 1 ∨ (p % 2 = 1 ∧ q % 2 = 1)) := by
  intro a ha b hb hab hb1
  have key : ∀ a, a < 6 → ∀ b, b < 6 → (¬ (a ≤ b ∧ 1 ≤ b)) ∨ 0 < Nat.gcd a b ∧ a = Nat.gcd a b * (a / Nat.gcd a b) ∧ b = Nat.gcd a b * (b / Nat.gcd a b) ∧ ((a / Nat.gcd a b + b / Nat.gcd a b) % 2 = 1 ∨ ((a / Nat.gcd a b) % 2 = 1 ∧ (b / Nat.gcd a b) % 2 = 1)) := by decide +kernel
  obtain ⟨h1, h2, h3, h4⟩ := (key a ha b hb).resolve_left fun h => h ⟨hab, hb1⟩
  exact ⟨Nat.gcd a b, h1, _, _, h2, h3, h4⟩

theorem dist1_div {g m x y : Nat} (hg : 0 < g) (h : dist1 x y = g * m) : (x / g + y / g) % 2 = m % 2 := by
  have : y = x + g * m ∨ x = y + g * m := by unfold dist1 at h; omega
  rcases this with e | e
  · rw [e, Nat.add_mul_div_left _ _ hg]; omega
  · rw [e, Nat.add_mul_div_left _ _ hg]; omega

/-- All leapers change a colour. -/
theorem leaper_col {W a b : Nat} (hab : a ≤ b) (hb1 : 1 ≤ b) (hb5 : b ≤ 5) : ∃ col : Nat → Nat, ∀ x y, adj W a b x y = true → (col x + col y) % 2 = 1 := by
  obtain ⟨g, hg, p, q, ha, hb, h⟩ := gcd_facts a (by omega) b (by omega) hab hb1
  rcases h with h | ⟨h1, h2⟩
  · refine ⟨fun x => (x % W) / g + (x / W) / g, fun x y hadj => ?_⟩
    show ((x % W) / g + (x / W) / g + ((y % W) / g + (y / W) / g)) % 2 = 1
    rcases adj_iff.1 hadj with ⟨e1, e2⟩ | ⟨e1, e2⟩
    · have d1 := dist1_div hg (e1.trans ha)
      have d2 := dist1_div hg (e2.trans hb)
      omega
    · have d1 := dist1_div hg (e1.trans hb)
      have d2 := dist1_div hg (e2.trans ha)
      omega
  · refine ⟨fun x => (x % W) / g, fun x y hadj => ?_⟩
    show ((x % W) / g + (y % W) / g) % 2 = 1
    rcases adj_iff.1 hadj with ⟨e1, e2⟩ | ⟨e1, e2⟩
    · have d1 := dist1_div hg (e1.trans ha)
      omega
    · have d1 := dist1_div hg (e1.trans hb)
      omega

end Go.Lg
