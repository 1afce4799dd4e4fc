/-
  Plain law: the search for a painting, with and without the bound on new colours. No program in sight.
-/
import Derived.Test.YtjnpogjniihmcaaPart
set_option linter.unusedVariables false
set_option linter.unusedSimpArgs false
namespace Go.Lg

section
variable (hole : Nat → Bool) (cf : Nat → Nat → Bool) (most : Nat)

/-- x may stand at the next cell. -/
def okx (P : List Int) (x : Int) : Bool := (List.range P.length).all fun y => !cf P.length y || !decide (P.getD y 0 = x)

def used (P : List Int) : Int := P.foldl max (-1)

/-- The search over all colours. -/
def srS : Nat → List Int → Option (List Int)
  | 0, P => some P
  | n + 1, P => if hole P.length = true then srS n (P ++ [-1]) else (List.range most).findSome? fun (x : Nat) => if okx cf P (x : Int) = true then srS n (P ++ [(x : Int)]) else none

/-- The search that takes one new colour at most. -/
def srT : Nat → List Int → Option (List Int)
  | 0, P => some P
  | n + 1, P => if hole P.length = true then srT n (P ++ [-1]) else (List.range (min most (used P + 2).toNat)).findSome? fun (x : Nat) => if okx cf P (x : Int) = true then srT n (P ++ [(x : Int)]) else none

variable {hole cf most}

theorem findSome_isSome {α β : Type} {l : List α} {f : α → Option β} : (l.findSome? f).isSome = true ↔ ∃ x ∈ l, (f x).isSome = true := by
  rw [List.findSome?_isSome_iff]

theorem okx_map {s : Int → Int} (hinj : ∀ x y, s x = s y → x = y) (P : List Int) (x : Int) : okx cf (P.map s) (s x) = okx cf P x := by
  unfold okx
  rw [List.length_map]
  rw [Bool.eq_iff_iff, List.all_eq_true, List.all_eq_true]
  have e : ∀ y, y < P.length → (P.map s).getD y 0 = s (P.getD y 0) := fun y hy => by
    simp [List.getD_eq_getElem?_getD, List.getElem?_eq_getElem hy]
  constructor
  · intro h y hy
    have := h y hy
    rw [e y (List.mem_range.1 hy)] at this
    by_cases hx : P.getD y 0 = x
    · rw [hx] at this ⊢; simpa using this
    · simp only [hx, decide_false, Bool.not_false, Bool.or_true]
  · intro h y hy
    have := h y hy
    rw [e y (List.mem_range.1 hy)]
    by_cases hx : s (P.getD y 0) = s x
    · have hx' := hinj _ _ hx
      rw [hx'] at this ⊢; simpa using this
    · simp only [hx, decide_false, Bool.not_false, Bool.or_true]

/-- Colours may be exchanged. -/
theorem srS_map {s : Int → Int} (hinj : ∀ x y, s x = s y → x = y) (hneg : s (-1) = -1) (hlt : ∀ x : Nat, x < most → ∃ y : Nat, y < most ∧ s (x : Int) = (y : Int)) :
    ∀ (n : Nat) (P : List Int), (srS hole cf most n P).isSome = true → (srS hole cf most n (P.map s)).isSome = true
  | 0, P, _ => rfl
  | n + 1, P, h => by
    unfold srS at h ⊢
    rw [List.length_map]
    by_cases hh : hole P.length = true
    · rw [if_pos hh] at h ⊢
      have := srS_map hinj hneg hlt n _ h
      rw [List.map_append, List.map_cons, List.map_nil, hneg] at this
      exact this
    · rw [if_neg hh] at h ⊢
      rw [findSome_isSome] at h ⊢
      obtain ⟨x, hx, hs⟩ := h
      obtain ⟨y, hy, hxy⟩ := hlt x (List.mem_range.1 hx)
      refine ⟨y, List.mem_range.2 hy, ?_⟩
      by_cases hok : okx cf P (x : Int) = true
      · rw [if_pos hok] at hs
        rw [← hxy, okx_map hinj, if_pos hok]
        have := srS_map hinj hneg hlt n _ hs
        rw [List.map_append, List.map_cons, List.map_nil] at this
        exact this
      · rw [if_neg hok] at hs; cases hs

def swp (u v : Int) (x : Int) : Int := if x = u then v else if x = v then u else x

theorem swp_inj (u v : Int) : ∀ x y, swp u v x = swp u v y → x = y := by
  intro x y h
  unfold swp at h
  split at h <;> split at h <;> (try split at h) <;> (try split at h) <;> omega

theorem le_used : ∀ (P : List Int) (x : Int), x ∈ P → x ≤ used P := by
  have : ∀ (P : List Int) (m x : Int), (x ∈ P ∨ x ≤ m) → x ≤ P.foldl max m := by
    intro P
    induction P with
    | nil => intro m x h; rcases h with h | h; cases h; exact h
    | cons a P ih =>
      intro m x h
      rw [List.foldl_cons]
      refine ih _ _ ?_
      rcases h with h | h
      · rcases List.mem_cons.1 h with rfl | h
        · right; omega
        · exact .inl h
      · right; omega
  exact fun P x h => this P (-1) x (.inl h)

theorem used_ge (P : List Int) : -1 ≤ used P := by
  have : ∀ (P : List Int) (m : Int), m ≤ P.foldl max m := by
    intro P
    induction P with
    | nil => intro m; exact Int.le_refl _
    | cons a P ih => intro m; rw [List.foldl_cons]; exact Int.le_trans (by omega) (ih (max m a))
  exact this P (-1)

theorem okx_new {P : List Int} {x : Int} (h : used P < x) : okx cf P x = true := by
  unfold okx
  rw [List.all_eq_true]
  intro y hy
  have hy := List.mem_range.1 hy
  have hm : P.getD y 0 ∈ P := by rw [List.getD_eq_getElem?_getD, List.getElem?_eq_getElem hy]; exact List.getElem_mem hy
  have := le_used P _ hm
  have hne : ¬ P.getD y 0 = x := by omega
  simp only [hne, decide_false, Bool.not_false, Bool.or_true]

theorem findSome_none {α β : Type} {l : List α} {f : α → Option β} (h : ∀ x ∈ l, f x = none) : l.findSome? f = none := by
  rw [List.findSome?_eq_none_iff]; exact h

theorem range_split {m n : Nat} (h : m ≤ n) : List.range n = List.range m ++ (List.range (n - m)).map (m + ·) := by
  have : n = m + (n - m) := by omega
  conv => lhs; rw [this, List.range_add]

/-- Both find the same. -/
theorem srS_srT : ∀ (n : Nat) (P : List Int), srS hole cf most n P = srT hole cf most n P
  | 0, P => rfl
  | n + 1, P => by
    unfold srS srT
    by_cases hh : hole P.length = true
    · rw [if_pos hh, if_pos hh]; exact srS_srT n _
    · rw [if_neg hh, if_neg hh]
      have e : (fun (x : Nat) => if okx cf P (x : Int) = true then srT hole cf most n (P ++ [(x : Int)]) else none) = fun (x : Nat) => if okx cf P (x : Int) = true then srS hole cf most n (P ++ [(x : Int)]) else none := by
        funext x; rw [srS_srT n]
      rw [e]
      have hu := used_ge P
      rcases Nat.lt_or_ge (used P + 2).toNat most with hlt | hge
      · rw [Nat.min_eq_right (by omega), range_split (Nat.le_of_lt hlt), List.findSome?_append]
        cases hf : (List.range (used P + 2).toNat).findSome? (fun (x : Nat) => if okx cf P (x : Int) = true then srS hole cf most n (P ++ [(x : Int)]) else none) with
        | some q => rfl
        | none =>
          rw [List.findSome?_eq_none_iff] at hf
          -- the one new colour that was tried failed
          obtain ⟨u, hu1⟩ := Int.eq_ofNat_of_zero_le (show 0 ≤ used P + 1 by omega)
          have h0 := hf u (List.mem_range.2 (by omega))
          rw [if_pos (okx_new (by omega))] at h0
          show (none : Option (List Int)).or _ = none
          rw [Option.none_or]
          refine findSome_none fun x hx => ?_
          obtain ⟨y, hy, rfl⟩ := List.mem_map.1 hx
          have hy := List.mem_range.1 hy
          by_cases hok : okx cf P (((used P + 2).toNat + y : Nat) : Int) = true
          · rw [if_pos hok]
            generalize hv : (used P + 2).toNat + y = v
            have hvm : v < most := by omega
            have huv : u < v := by omega
            cases hs : srS hole cf most n (P ++ [(v : Int)]) with
            | none => rfl
            | some q =>
              exfalso
              have := srS_map (s := swp (u : Int) (v : Int)) (swp_inj _ _) (by unfold swp; rw [if_neg (by omega), if_neg (by omega)]) (fun x hx => by
                unfold swp
                by_cases h1 : (x : Int) = (u : Int)
                · exact ⟨v, hvm, by rw [if_pos h1]⟩
                · by_cases h2 : (x : Int) = (v : Int)
                  · exact ⟨u, by omega, by rw [if_neg h1, if_pos h2]⟩
                  · exact ⟨x, hx, by rw [if_neg h1, if_neg h2]⟩) n (P ++ [(v : Int)]) (by rw [hs]; rfl)
              have e2 : (P ++ [(v : Int)]).map (swp (u : Int) (v : Int)) = P ++ [(u : Int)] := by
                rw [List.map_append, List.map_cons, List.map_nil]
                congr 1
                · refine (List.map_congr_left fun x hx => ?_).trans (List.map_id P)
                  have := le_used P x hx
                  unfold swp
                  rw [if_neg (by omega), if_neg (by omega)]; rfl
                · unfold swp
                  rw [if_neg (by omega), if_pos rfl]
              rw [e2, h0] at this
              cases this
          · rw [if_neg hok]
      · rw [Nat.min_eq_left hge]

theorem srT_holes : ∀ (d n : Nat) (P : List Int), (∀ j, j < d → hole (P.length + j) = true) → srT hole cf most (n + d) P = srT hole cf most n (P ++ List.replicate d (-1))
  | 0, n, P, _ => by simp
  | d + 1, n, P, h => by
    rw [← Nat.add_assoc]
    show srT hole cf most ((n + d) + 1) P = _
    conv => lhs; unfold srT
    rw [if_pos (by simpa using h 0 (by omega))]
    rw [srT_holes d n (P ++ [-1]) fun j hj => by
      have := h (j + 1) (by omega)
      rw [List.length_append, List.length_singleton, Nat.add_assoc, Nat.add_comm 1 j]
      exact this]
    rw [List.append_assoc, List.singleton_append, ← List.replicate_succ]

theorem sr_length : ∀ (n : Nat) (P q : List Int), srS hole cf most n P = some q → q.length = P.length + n
  | 0, P, q, h => by unfold srS at h; cases h; rfl
  | n + 1, P, q, h => by
    unfold srS at h
    split at h
    · rw [sr_length n _ _ h]; simp; omega
    · obtain ⟨x, hx, hs⟩ := List.exists_of_findSome?_eq_some h
      split at hs
      · rw [sr_length n _ _ hs]; simp; omega
      · cases hs

end
end Go.Lg
