/-
  How the table is kept: the world grows, an entry is put to it, an entry is written, replaced, given up.
-/
import Derived.Test.YtejfaifipdhecaaEng3
set_option linter.unusedVariables false
set_option linter.unusedSimpArgs false
namespace Go.Lg
open Go.RowKit

theorem getElem?_setAt {i j : Nat} {e : Ent} : ∀ {l : List Ent} {i j : Nat}, (setAt i e l)[j]? = if j = i ∧ i < l.length then some e else l[j]?
  | [], i, j => by cases i <;> simp [setAt]
  | x :: r, 0, j => by cases j <;> simp [setAt]
  | x :: r, i + 1, 0 => by simp [setAt]
  | x :: r, i + 1, j + 1 => by
    simp only [setAt, List.getElem?_cons_succ, List.length_cons]
    rw [getElem?_setAt (i := i) (j := j)]
    simp [Nat.succ_lt_succ_iff]

theorem setAt_self {i : Nat} {e e0 : Ent} {l : List Ent} (h : l[i]? = some e0) : (setAt i e l)[i]? = some e := by
  rw [getElem?_setAt (i := i) (j := i), if_pos ⟨rfl, (List.getElem?_eq_some_iff.1 h).1⟩]

theorem setAt_ne {i j : Nat} {e : Ent} {l : List Ent} (h : j ≠ i) : (setAt i e l)[j]? = l[j]? := by
  rw [getElem?_setAt (i := i) (j := j), if_neg (fun k => h k.1)]

theorem length_setAt {e : Ent} : ∀ {l : List Ent} {i : Nat}, (setAt i e l).length = l.length
  | [], i => by cases i <;> rfl
  | x :: r, 0 => rfl
  | x :: r, i + 1 => by simp [setAt, length_setAt]

theorem Ent.live_sub {i : Nat} {r : AV} (e : Ent) : (Ent.sub i r e).live = e.live := by cases e <;> rfl

theorem Row.step {w w' : World} {eid : TypeId} {size : Nat} {hv : Value} {n : Nat} {cs : List Value} (h : Row w eid size hv n cs) (hb : ∀ b, blk hv = some b → w'.heap[b]? = w.heap[b]?) : Row w' eid size hv n cs := by
  obtain ⟨h1, h2⟩ := h
  refine ⟨h1, ?_⟩
  rcases h2 with h2 | ⟨g, o, cap, cur, rfl, hg, r⟩
  · exact .inl h2
  · exact .inr ⟨g, o, cap, cur, rfl, by rw [hb g rfl]; exact hg, r⟩

theorem Elems.step {w w' : World} {S S' : Nat → Prop} {e : Ty} {css : List (List Value)} {xs : List e.T} (hS : ∀ b, S b → b < w.heap.size → S' b ∧ w'.heap[b]? = w.heap[b]?) (h0 : ∀ b, S b → b < w.heap.size)
    (h : Elems w S e css xs) : Elems w' S' e css xs := ⟨h.1, fun i cs x h1 h2 => (h.2 i cs x h1 h2).step hS h0⟩

theorem EntAt.keep {w w' : World} {S S' : Nat → Prop} {tab tab' : List Ent} {pl pl' : List Value} (hS : ∀ b, S b → b < w.heap.size → S' b ∧ w'.heap[b]? = w.heap[b]?) (h0 : ∀ b, S b → b < w.heap.size)
    (hk : ∀ i, Keep tab pl tab' pl' i) {e : Ent} {hv : Value} (hb : ∀ b, e.live = true → blks hv b → w'.heap[b]? = w.heap[b]?) (h : EntAt w S tab pl e hv) : EntAt w' S' tab' pl' e hv := by
  cases e with
  | arr eid e xs =>
    obtain ⟨css, h1, h2⟩ := h
    exact ⟨css, h1.step (fun b hb' => hb b rfl (blks_of_blk hb')), h2.step hS h0⟩
  | box a =>
    obtain ⟨b, cs, eid, rfl, hg, h⟩ := h
    exact ⟨b, cs, eid, rfl, by rw [hb b rfl rfl]; exact hg, h.keep hS h0 hk⟩
  | rows eid0 eid e xss =>
    obtain ⟨outer, hs, rfl, h1, h1', h2, h3, h4⟩ := h
    refine ⟨outer, hs, rfl, h1.step fun b hb' => hb b rfl ⟨outer, by simp, hb'⟩, h1', fun j h xs hj hx => ?_, h3, h4⟩
    obtain ⟨k0, css, k1, k2⟩ := h2 j h xs hj hx
    exact ⟨k0, css, k1.step fun b hb' => hb b rfl ⟨h, by simp [List.mem_of_getElem? hj], hb'⟩, k2.step hS h0⟩
  | dead => trivial

theorem EntAt.sub {w w' : World} {S S' : Nat → Prop} {tab tab' : List Ent} {pl pl' : List Value} {i : Nat} {r : AV} (hS : ∀ b, S b → b < w.heap.size → S' b ∧ w'.heap[b]? = w.heap[b]?) (h0 : ∀ b, S b → b < w.heap.size)
    (hi : ∀ a, tab[i]? ≠ some (.box a)) (hk : ∀ j, j ≠ i → Keep tab pl tab' pl' j) (hr : ∀ hv, pl[i]? = some hv → r.R w' S' tab' pl' [top hv])
    {e : Ent} {hv : Value} (hb : ∀ b, e.live = true → blks hv b → w'.heap[b]? = w.heap[b]?) (h : EntAt w S tab pl e hv) : EntAt w' S' tab' pl' (Ent.sub i r e) hv := by
  cases e with
  | arr eid e xs =>
    obtain ⟨css, h1, h2⟩ := h
    exact ⟨css, h1.step (fun b hb' => hb b rfl (blks_of_blk hb')), h2.step hS h0⟩
  | box a =>
    obtain ⟨b, cs, eid, rfl, hg, h⟩ := h
    exact ⟨b, cs, eid, rfl, by rw [hb b rfl rfl]; exact hg, h.sub hS h0 hi hk hr⟩
  | rows eid0 eid e xss =>
    obtain ⟨outer, hs, rfl, h1, h1', h2, h3, h4⟩ := h
    refine ⟨outer, hs, rfl, h1.step fun b hb' => hb b rfl ⟨outer, by simp, hb'⟩, h1', fun j h xs hj hx => ?_, h3, h4⟩
    obtain ⟨k0, css, k1, k2⟩ := h2 j h xs hj hx
    exact ⟨k0, css, k1.step fun b hb' => hb b rfl ⟨h, by simp [List.mem_of_getElem? hj], hb'⟩, k2.step hS h0⟩
  | dead => trivial

section
variable {w w' : World} {S S' : Nat → Prop} {tab : List Ent} {pl : List Value}

/-- No owned block, no stable block has turned; the stable ones may be more. -/
theorem Hp.grow (h : Hp w S tab pl) (hS : ∀ b, S b → S' b) (hS' : ∀ b, S' b → b < w'.heap.size) (hoff : ∀ i b, Own tab pl i b → ¬ S' b)
    (hw : ∀ b, (S b ∨ ∃ i, Own tab pl i b) → w'.heap[b]? = w.heap[b]?) : Hp w' S' tab pl where
  len := h.len
  ent := fun i e hv h1 h2 => (h.ent i e hv h1 h2).keep (fun b hb _ => ⟨hS b hb, hw b (.inl hb)⟩) h.stable (fun _ => Keep.refl _ _ _) (fun b hl hb => hw b (.inr ⟨i, e, hv, h1, hl, h2, hb⟩))
  inj := h.inj
  stable := hS'
  off := hoff

theorem Keep.push (hlen : pl.length = tab.length) (e : Ent) (hv : Value) (i : Nat) : Keep tab pl (tab ++ [e]) (pl ++ [hv]) i := by
  refine ⟨fun v h => ?_, fun eid t xs h => ⟨xs, ?_, rfl⟩, fun a h => ⟨a, ?_⟩, fun _ _ _ xss h => ⟨xss, ?_⟩⟩ <;>
    · rw [List.getElem?_append_left (List.getElem?_eq_some_iff.1 h).1]; exact h

theorem own_push (hlen : pl.length = tab.length) {e : Ent} {hv : Value} {i b : Nat} : Own (tab ++ [e]) (pl ++ [hv]) i b ↔ Own tab pl i b ∨ (i = tab.length ∧ e.live = true ∧ blks hv b) := by
  constructor
  · rintro ⟨e', hv', h1, h2, h3, h4⟩
    by_cases hlt : i < tab.length
    · rw [List.getElem?_append_left hlt] at h1
      rw [List.getElem?_append_left (by omega)] at h3
      exact .inl ⟨e', hv', h1, h2, h3, h4⟩
    · rw [List.getElem?_append_right (by omega)] at h1
      rw [List.getElem?_append_right (by omega)] at h3
      have hi : i - tab.length = 0 := by
        rcases Nat.eq_zero_or_pos (i - tab.length) with h | h
        · exact h
        · have := (List.getElem?_eq_some_iff.1 h1).1; simp at this; omega
      have hi' : i - pl.length = 0 := by omega
      simp only [hi, hi', List.getElem?_cons_zero, Option.some.injEq] at h1 h3
      subst h1; subst h3
      exact .inr ⟨by omega, h2, h4⟩
  · rintro (⟨e', hv', h1, h2, h3, h4⟩ | ⟨rfl, h2, h4⟩)
    · exact ⟨e', hv', by rw [List.getElem?_append_left (List.getElem?_eq_some_iff.1 h1).1]; exact h1, h2, by rw [List.getElem?_append_left (List.getElem?_eq_some_iff.1 h3).1]; exact h3, h4⟩
    · exact ⟨e, hv, by simp, h2, by rw [← hlen]; simp, h4⟩

/-- One entry more. -/
theorem Hp.push (h : Hp w S tab pl) {e : Ent} {hv : Value} (he : EntAt w S (tab ++ [e]) (pl ++ [hv]) e hv) (hb : ∀ b, e.live = true → blks hv b → ¬ S b ∧ ∀ i, ¬ Own tab pl i b) : Hp w S (tab ++ [e]) (pl ++ [hv]) where
  len := by simp [h.len]
  ent := fun i e' hv' h1 h2 => by
    by_cases hlt : i < tab.length
    · rw [List.getElem?_append_left hlt] at h1
      rw [List.getElem?_append_left (by have := h.len; omega)] at h2
      exact (h.ent i e' hv' h1 h2).keep (fun b hb _ => ⟨hb, rfl⟩) h.stable (Keep.push h.len e hv) (fun _ _ _ => rfl)
    · have hi : i = tab.length := by
        have := (List.getElem?_eq_some_iff.1 h1).1
        simp at this
        omega
      subst hi
      have h2' := h2
      rw [← h.len] at h2'
      simp at h1 h2'
      subst h1; subst h2'
      exact he
  inj := fun i j b h1 h2 => by
    rcases (own_push h.len).1 h1 with k1 | ⟨rfl, l1, b1⟩ <;> rcases (own_push h.len).1 h2 with k2 | ⟨rfl, l2, b2⟩
    · exact h.inj i j b k1 k2
    · exact absurd k1 ((hb b l2 b2).2 i)
    · exact absurd k2 ((hb b l1 b1).2 j)
    · rfl
  stable := h.stable
  off := fun i b h1 => by
    rcases (own_push h.len).1 h1 with k1 | ⟨rfl, l1, b1⟩
    · exact h.off i b k1
    · exact (hb b l1 b1).1

theorem Keep.inplace {i : Nat} {e0 e' : Ent} (hi : tab[i]? = some e0)
    (hk : (∃ eid e xs xs', e0 = .arr eid e xs ∧ e' = .arr eid e xs' ∧ xs'.length = xs.length) ∨ (∃ a a', e0 = .box a ∧ e' = .box a') ∨ (∃ eid0 eid e xss xss', e0 = .rows eid0 eid e xss ∧ e' = .rows eid0 eid e xss')) (j : Nat) : Keep tab pl (setAt i e' tab) pl j := by
  by_cases hj : j = i
  · subst hj
    refine ⟨fun _ h => h, fun eid e xs h => ?_, fun a h => ?_, fun eid0 eid e xss h => ?_⟩
    · rw [hi] at h
      obtain rfl := Option.some.inj h
      rcases hk with ⟨eid', t, xs1, xs2, h1, h2, h3⟩ | ⟨_, _, h1, _⟩ | ⟨_, _, _, _, _, h1, _⟩
      · cases h1
        exact ⟨xs2, by rw [setAt_self hi, h2], h3⟩
      · cases h1
      · cases h1
    · rw [hi] at h
      obtain rfl := Option.some.inj h
      rcases hk with ⟨_, _, _, _, h1, _⟩ | ⟨a1, a2, h1, h2⟩ | ⟨_, _, _, _, _, h1, _⟩
      · cases h1
      · exact ⟨a2, by rw [setAt_self hi, h2]⟩
      · cases h1
    · rw [hi] at h
      obtain rfl := Option.some.inj h
      rcases hk with ⟨_, _, _, _, h1, _⟩ | ⟨_, _, h1, _⟩ | ⟨_, _, _, x1, x2, h1, h2⟩
      · cases h1
      · cases h1
      · cases h1
        exact ⟨x2, by rw [setAt_self hi, h2]⟩
  · exact ⟨fun _ h => h, fun eid e xs h => ⟨xs, by rw [setAt_ne hj]; exact h, rfl⟩, fun a h => ⟨a, by rw [setAt_ne hj]; exact h⟩, fun _ _ _ xss h => ⟨xss, by rw [setAt_ne hj]; exact h⟩⟩

/-- An entry is written where it stands. -/
theorem Hp.inplace (h : Hp w S tab pl) {i : Nat} {e0 e' : Ent} {hv : Value} (hi : tab[i]? = some e0) (hp : pl[i]? = some hv)
    (hk : (∃ eid e xs xs', e0 = .arr eid e xs ∧ e' = .arr eid e xs' ∧ xs'.length = xs.length) ∨ (∃ a a', e0 = .box a ∧ e' = .box a') ∨ (∃ eid0 eid e xss xss', e0 = .rows eid0 eid e xss ∧ e' = .rows eid0 eid e xss'))
    (hsz : w.heap.size ≤ w'.heap.size) (hw : ∀ b, b < w.heap.size → ¬ blks hv b → w'.heap[b]? = w.heap[b]?) (he : EntAt w' S (setAt i e' tab) pl e' hv) : Hp w' S (setAt i e' tab) pl := by
  have hl0 : e0.live = true := by rcases hk with ⟨_, _, _, _, rfl, _⟩ | ⟨_, _, rfl, _⟩ | ⟨_, _, _, _, _, rfl, _⟩ <;> rfl
  have hl' : e'.live = true := by rcases hk with ⟨_, _, _, _, _, rfl, _⟩ | ⟨_, _, _, rfl⟩ | ⟨_, _, _, _, _, _, rfl⟩ <;> rfl
  have hown : ∀ j b, Own (setAt i e' tab) pl j b → Own tab pl j b := fun j b ⟨e, v, h1, h2, h3, h4⟩ => by
    by_cases hj : j = i
    · subst hj; exact ⟨e0, v, hi, hl0, h3, h4⟩
    · rw [setAt_ne hj] at h1; exact ⟨e, v, h1, h2, h3, h4⟩
  have hS : ∀ b, S b → b < w.heap.size → S b ∧ w'.heap[b]? = w.heap[b]? := fun b hb _ => ⟨hb, hw b (h.stable b hb) (fun hb' => h.off i b ⟨e0, hv, hi, hl0, hp, hb'⟩ hb)⟩
  refine ⟨by rw [length_setAt, h.len], fun j e v h1 h2 => ?_, fun a b c h1 h2 => h.inj a b c (hown _ _ h1) (hown _ _ h2), fun b hb => Nat.lt_of_lt_of_le (h.stable b hb) hsz, fun j b h1 => h.off j b (hown _ _ h1)⟩
  by_cases hj : j = i
  · subst hj
    rw [setAt_self hi] at h1
    rw [hp] at h2
    obtain rfl := Option.some.inj h1
    obtain rfl := Option.some.inj h2
    exact he
  · rw [setAt_ne hj] at h1
    refine (h.ent j e v h1 h2).keep hS h.stable (Keep.inplace hi hk) (fun b hl hb => hw b (h.lt ⟨e, v, h1, hl, h2, hb⟩) fun hb' => hj ?_)
    exact h.inj j i b ⟨e, v, h1, hl, h2, hb⟩ ⟨e0, hv, hi, hl0, hp, hb'⟩

theorem Keep.replace {i : Nat} {e' : Ent} {r : AV} {hv' : Value} {j : Nat} (hj : j ≠ i) : Keep tab pl (setAt i e' (tab.map (Ent.sub i r))) (pl.set i hv') j := by
  refine ⟨fun v h => by rw [List.getElem?_set_ne (Ne.symm hj)]; exact h, fun eid e xs h => ⟨xs, ?_, rfl⟩, fun a h => ⟨AV.sub i r a, ?_⟩, fun _ _ _ xss h => ⟨xss, ?_⟩⟩ <;>
    · rw [setAt_ne hj, List.getElem?_map, h]; rfl

/-- What is known of a slice of slices that is owned with its rows. -/
structure RowsAt (w : World) (S : Nat → Prop) (eid0 eid : TypeId) (e : Ty) (xss : List (List e.T)) (outer : Value) (hs : List Value) : Prop where
  row : Row w eid0 1 outer xss.length hs
  hdr : ∃ a n c, outer = .slice a n c
  rows : ∀ (j : Nat) (h : Value) (xs : List e.T), hs[j]? = some h → xss[j]? = some xs → (∃ a n c, h = .slice a n c) ∧ ∃ css : List (List Value), Row w eid e.size h xs.length css.flatten ∧ Elems w S e css xs
  inj : ∀ (j j' b : Nat) (h h' : Value), hs[j]? = some h → hs[j']? = some h' → blk h = some b → blk h' = some b → j = j'
  off : ∀ (j b : Nat) (h : Value), hs[j]? = some h → blk h = some b → blk outer ≠ some b

theorem Hp.rows (h : Hp w S tab pl) {i : Nat} {eid0 eid : TypeId} {e : Ty} {xss : List (List e.T)} {outer : Value} {hs : List Value} (hi : tab[i]? = some (.rows eid0 eid e xss)) (hp : pl[i]? = some (.tuple (outer :: hs).toArray)) : RowsAt w S eid0 eid e xss outer hs := by
  obtain ⟨outer', hs', k1, k2, k3, k4, k5, k6⟩ := h.ent i _ _ hi hp
  simp only [Value.tuple.injEq, List.toArray_inj, List.cons.injEq] at k1
  obtain ⟨rfl, rfl⟩ := k1
  exact ⟨k2, k3, k4, k5, k6⟩

theorem RowsAt.ent {eid0 eid : TypeId} {e : Ty} {xss : List (List e.T)} {outer : Value} {hs : List Value} (h : RowsAt w S eid0 eid e xss outer hs) : EntAt w S tab pl (.rows eid0 eid e xss) (.tuple (outer :: hs).toArray) :=
  ⟨outer, hs, rfl, h.row, h.hdr, h.rows, h.inj, h.off⟩

theorem RowsAt.len {eid0 eid : TypeId} {e : Ty} {xss : List (List e.T)} {outer : Value} {hs : List Value} (h : RowsAt w S eid0 eid e xss outer hs) : hs.length = xss.length := by have := h.row.1; omega

theorem RowsAt.n {eid0 eid : TypeId} {e : Ty} {xss : List (List e.T)} {ad : Option Addr} {n c : Nat} {hs : List Value} (h : RowsAt w S eid0 eid e xss (.slice ad n c) hs) : n = xss.length ∧ n ≤ c := by
  rcases h.row.2 with ⟨k2, k2'⟩ | ⟨g', o', cap, cur, k2, _, k3, _⟩
  · cases k2; omega
  · cases k2; omega

/-- A row is moved, made longer, or given up: what spoke of it speaks of it no longer. -/
theorem Hp.replace (h : Hp w S tab pl) {i : Nat} {e0 e' : Ent} {hv hv' : Value} {r : AV} (hi : tab[i]? = some e0) (hl0 : e0.live = true) (hp : pl[i]? = some hv) (hbx : ∀ a, e0 ≠ .box a)
    (hr : r.R w' S' (setAt i e' (tab.map (Ent.sub i r))) (pl.set i hv') [top hv])
    (hS : ∀ b, S b → S' b ∧ w'.heap[b]? = w.heap[b]?) (hS' : ∀ b, S' b → b < w'.heap.size)
    (hw : ∀ j b, j ≠ i → Own tab pl j b → w'.heap[b]? = w.heap[b]? ∧ ¬ S' b)
    (hb : ∀ b, e'.live = true → blks hv' b → ¬ S' b ∧ ∀ j, j ≠ i → ¬ Own tab pl j b)
    (he : EntAt w' S' (setAt i e' (tab.map (Ent.sub i r))) (pl.set i hv') e' hv') :
    Hp w' S' (setAt i e' (tab.map (Ent.sub i r))) (pl.set i hv') := by
  have hlt : i < tab.length := (List.getElem?_eq_some_iff.1 hi).1
  have hself : (setAt i e' (tab.map (Ent.sub i r)))[i]? = some e' := setAt_self (e0 := Ent.sub i r e0) (by rw [List.getElem?_map, hi]; rfl)
  have hpself : (pl.set i hv')[i]? = some hv' := by rw [List.getElem?_set_self (by rw [h.len]; exact hlt)]
  have hown : ∀ j b, j ≠ i → Own (setAt i e' (tab.map (Ent.sub i r))) (pl.set i hv') j b → Own tab pl j b := fun j b hj ⟨e, v, h1, h2, h3, h4⟩ => by
    rw [setAt_ne hj, List.getElem?_map, Option.map_eq_some_iff] at h1
    obtain ⟨e1, h1, rfl⟩ := h1
    rw [List.getElem?_set_ne (Ne.symm hj)] at h3
    exact ⟨e1, v, h1, by rwa [Ent.live_sub] at h2, h3, h4⟩
  have howni : ∀ b, Own (setAt i e' (tab.map (Ent.sub i r))) (pl.set i hv') i b → e'.live = true ∧ blks hv' b := fun b ⟨e, v, h1, h2, h3, h4⟩ => by
    rw [hself] at h1
    rw [hpself] at h3
    obtain rfl := Option.some.inj h1
    obtain rfl := Option.some.inj h3
    exact ⟨h2, h4⟩
  refine ⟨by simp [length_setAt, h.len], fun j e v h1 h2 => ?_, fun a b c h1 h2 => ?_, hS', fun j b h1 => ?_⟩
  · by_cases hj : j = i
    · subst hj
      rw [hself] at h1
      rw [hpself] at h2
      obtain rfl := Option.some.inj h1
      obtain rfl := Option.some.inj h2
      exact he
    · rw [setAt_ne hj, List.getElem?_map, Option.map_eq_some_iff] at h1
      obtain ⟨e1, h1, rfl⟩ := h1
      rw [List.getElem?_set_ne (Ne.symm hj)] at h2
      refine (h.ent j e1 v h1 h2).sub (fun b hb _ => hS b hb) h.stable (fun a ha => ?_) (fun k hk => Keep.replace hk) (fun hv1 hp1 => ?_) (fun b hl hb => (hw j b hj ⟨e1, v, h1, hl, h2, hb⟩).1)
      · rw [hi] at ha; exact hbx a (Option.some.inj ha)
      · rw [hp] at hp1; obtain rfl := Option.some.inj hp1; exact hr
  · by_cases ha : a = i <;> by_cases hb' : b = i
    · rw [ha, hb']
    · subst ha; exact absurd (hown b c hb' h2) ((hb c (howni c h1).1 (howni c h1).2).2 b hb')
    · subst hb'; exact absurd (hown a c ha h1) ((hb c (howni c h2).1 (howni c h2).2).2 a ha)
    · exact h.inj a b c (hown a c ha h1) (hown b c hb' h2)
  · by_cases hj : j = i
    · subst hj; exact (hb b (howni b h1).1 (howni b h1).2).1
    · exact (hw j b hj (hown j b hj h1)).2

end

/-! ### what has become of the world since the call began -/

structure Fr (w0 : World) (O0 : Nat → Prop) (w : World) : Prop where
  os : w.os = w0.os
  tape : w.tape = w0.tape
  output : w.output = w0.output
  size : w0.heap.size ≤ w.heap.size
  block : ∀ b, b < w0.heap.size → ¬ O0 b → w.heap[b]? = w0.heap[b]?

theorem Fr.refl (w : World) (O : Nat → Prop) : Fr w O w := ⟨rfl, rfl, rfl, Nat.le_refl _, fun _ _ _ => rfl⟩

/-- A step that leaves all blocks but the given ones. -/
theorem Fr.step {w0 w w' : World} {O0 O : Nat → Prop} (h : Fr w0 O0 w) (k : Fr w O w') (hO : ∀ b, O b → O0 b ∨ w0.heap.size ≤ b) : Fr w0 O0 w' :=
  ⟨k.os.trans h.os, k.tape.trans h.tape, k.output.trans h.output, Nat.le_trans h.size k.size, fun b hb hn => by
    rw [k.block b (Nat.lt_of_lt_of_le hb h.size) (fun ho => (hO b ho).elim hn (fun hle => by omega)), h.block b hb hn]⟩

theorem Fr.below {w w' : World} (h : Fr w (fun _ => False) w') : Below w.heap.size w w' := ⟨h.os, h.tape, h.output, h.size, fun k hk => h.block k hk (fun f => f)⟩

theorem Fr.drew (w : World) (O : Nat → Prop) : Fr w O { w with drawn := w.drawn + 1 } := ⟨rfl, rfl, rfl, Nat.le_refl _, fun _ _ _ => rfl⟩

theorem Fr.alloc (w : World) (O : Nat → Prop) (o : Obj) : Fr w O (w.alloc o) := ⟨rfl, rfl, rfl, by simp, fun b hb _ => Below.heap_alloc w o b hb⟩

theorem Fr.grown {w w' : World} {row : Option Nat} (h : w.grownBy w' row) : Fr w (fun b => some b = row) w' := ⟨h.os, h.tape, h.output, h.size, fun b hb hn => h.block b hb hn⟩

/-! ### what was made and is not in the table yet -/

/-- A slice that was just made: its header, its place. -/
structure Made (ent : Ent) (hv hvp : Value) (w : World) (b : Nat) : Prop where
  at_ : ∀ (S : Nat → Prop) (tab : List Ent) (pl : List Value), EntAt w S tab pl ent hvp
  blks : ∀ b', Lg.blks hvp b' → b' = b
  av : ∀ (w' : World) (S : Nat → Prop) (tab : List Ent) (pl : List Value) (n : Nat), tab[n]? = some ent → pl[n]? = some hvp → (entAV n ent).R w' S tab pl [hv]
  lt : b < w.heap.size
  live : ent.live = true

/-- The same; a slice without elements need not lie anywhere. -/
structure MadeO (ent : Ent) (hv hvp : Value) (w : World) (b : Option Nat) : Prop where
  at_ : ∀ (S : Nat → Prop) (tab : List Ent) (pl : List Value), EntAt w S tab pl ent hvp
  blks : ∀ b', Lg.blks hvp b' → b = some b'
  av : ∀ (w' : World) (S : Nat → Prop) (tab : List Ent) (pl : List Value) (n : Nat), tab[n]? = some ent → pl[n]? = some hvp → (entAV n ent).R w' S tab pl [hv]
  lt : ∀ b', b = some b' → b' < w.heap.size
  live : ent.live = true

theorem Made.toO {ent : Ent} {hv hvp : Value} {w : World} {b : Nat} (h : Made ent hv hvp w b) : MadeO ent hv hvp w (some b) :=
  ⟨h.at_, fun b' hb => by rw [h.blks b' hb], h.av, fun b' hb => by rw [← Option.some.inj hb]; exact h.lt, h.live⟩

theorem entAV_agg {n : Nat} {e : Ent} : (entAV n e).isAgg = false := by cases e <;> rfl

/-- A block that is nobody's, made since the call began. -/
def Nobodys (n0 : Nat) (w : World) (S : Nat → Prop) (tab : List Ent) (pl : List Value) (b : Nat) : Prop := n0 ≤ b ∧ b < w.heap.size ∧ ¬ S b ∧ ∀ k, ¬ Own tab pl k b

/-- The row that was made longer: its header before. -/
def Base (tab : List Ent) (pl : List Value) (i : Nat) (j : Option Int) (eid : TypeId) (e : Ty) (h0 : Value) : Prop :=
  match j with
  | none => ∃ xs0 : List e.T, tab[i]? = some (.arr eid e xs0) ∧ pl[i]? = some h0 ∧ ∃ a n c, h0 = .slice a n c
  | some j => ∃ eid0 xss outer hs, tab[i]? = some (.rows eid0 eid e xss) ∧ pl[i]? = some (.tuple (outer :: hs).toArray) ∧ 0 ≤ j ∧ hs[j.toNat]? = some h0

def PendR (n0 : Nat) (w : World) (S : Nat → Prop) (tab : List Ent) (pl : List Value) (tmps : Array Value) (b : Option Nat) : Pend → Prop
  | .make d e => ∃ hv hvp, tmps[d]? = some hv ∧ MadeO e hv hvp w b ∧ ∀ b', b = some b' → Nobodys n0 w S tab pl b'
  | .upd _ d e => ∃ hv hvp, tmps[d]? = some hv ∧ MadeO e hv hvp w b ∧ ∀ b', b = some b' → Nobodys n0 w S tab pl b'
  | .app d i j eid e xs => ∃ hv h0 css, tmps[d]? = some hv ∧ (∃ a n c, hv = .slice a n c) ∧ Row w eid e.size hv xs.length css.flatten ∧ Elems w S e css xs ∧ Base tab pl i j eid e h0 ∧
      (blk hv = blk h0 ∧ b = none ∨ ∃ b', blk hv = some b' ∧ b = some b' ∧ Nobodys n0 w S tab pl b')

def PendsR (n0 : Nat) (w : World) (S : Nat → Prop) (tab : List Ent) (pl : List Value) (tmps : Array Value) (pd : List Pend) : Prop :=
  ∃ bs : Nat → Option Nat, (∀ p ∈ pd, PendR n0 w S tab pl tmps (bs p.d) p) ∧ ∀ p ∈ pd, ∀ q ∈ pd, ∀ b, bs p.d = some b → bs q.d = some b → p.d = q.d

/-- The same in the midst of a region that draws its order: what was changed is still there. -/
def PendsW (n0 : Nat) (w : World) (S : Nat → Prop) (tab : List Ent) (pl : List Value) (tmps : Array Value) (pd : List Pend) : Prop :=
  ∃ bs : Nat → Option Nat, (∀ p ∈ pd, PendR n0 w S tab pl tmps (bs p.d) p) ∧ ∀ p ∈ pd, ∀ q ∈ pd, ∀ b, bs p.d = some b → bs q.d = some b → p.d = q.d ∨ p.old = some q.d ∨ q.old = some p.d

theorem PendsW.nil {n0 : Nat} {w : World} {S : Nat → Prop} {tab : List Ent} {pl : List Value} {tmps : Array Value} : PendsW n0 w S tab pl tmps [] :=
  ⟨fun _ => none, fun p hp => by simp at hp, fun p hp => by simp at hp⟩

theorem PendsR.nil {n0 : Nat} {w : World} {S : Nat → Prop} {tab : List Ent} {pl : List Value} {tmps : Array Value} {pd : List Pend} (h : pd = []) : PendsR n0 w S tab pl tmps pd := by
  subst h; exact ⟨fun _ => none, fun p hp => by simp at hp, fun p hp => by simp at hp⟩

theorem Made.keep {w w' : World} {ent : Ent} {hv hvp : Value} {b : Nat} (h : Made ent hv hvp w b) (hb : w'.heap[b]? = w.heap[b]?) : Made ent hv hvp w' b where
  at_ := fun S tab pl => (h.at_ (fun _ => False) tab pl).keep (fun _ k => k.elim) (fun _ k => k.elim) (fun i => Keep.refl tab pl i) (fun b' _ hb' => by rw [h.blks b' hb']; exact hb)
  blks := h.blks
  av := h.av
  lt := by
    have := h.lt
    rw [Array.getElem?_eq_getElem this] at hb
    exact (Array.getElem?_eq_some_iff.1 hb).1
  live := h.live

theorem MadeO.keep {w w' : World} {ent : Ent} {hv hvp : Value} {b : Option Nat} (h : MadeO ent hv hvp w b) (hb : ∀ b', b = some b' → w'.heap[b']? = w.heap[b']?) : MadeO ent hv hvp w' b where
  at_ := fun S tab pl => (h.at_ (fun _ => False) tab pl).keep (fun _ k => k.elim) (fun _ k => k.elim) (fun i => Keep.refl tab pl i) (fun b' _ hb' => hb b' (h.blks b' hb'))
  blks := h.blks
  av := h.av
  lt := fun b' hb' => by
    have h1 := h.lt b' hb'
    have h2 := hb b' hb'
    rw [Array.getElem?_eq_getElem h1] at h2
    exact (Array.getElem?_eq_some_iff.1 h2).1
  live := h.live

/-- What was made stays what it is while nothing that was there turns. -/
theorem PendR.keep {n0 : Nat} {w w' : World} {S S' : Nat → Prop} {tab : List Ent} {pl : List Value} {tmps tmps' : Array Value} (hp : Hp w S tab pl) (hall : ∀ b, b < w.heap.size → w'.heap[b]? = w.heap[b]?) (hsz : w.heap.size ≤ w'.heap.size) (hup : ∀ b, S b → S' b) (hsub : ∀ b, S' b → S b ∨ w.heap.size ≤ b)
    {b : Option Nat} {p : Pend} (ht : tmps'[p.d]? = tmps[p.d]?) (h : PendR n0 w S tab pl tmps b p) : PendR n0 w' S' tab pl tmps' b p := by
  have nb : ∀ b', Nobodys n0 w S tab pl b' → Nobodys n0 w' S' tab pl b' := fun b' ⟨h1, h2, h3, h4⟩ => ⟨h1, Nat.lt_of_lt_of_le h2 hsz, fun k => (hsub b' k).elim h3 (fun k => by omega), h4⟩
  cases p with
  | make d e =>
    obtain ⟨hv, hvp, h1, h2, h4⟩ := h
    exact ⟨hv, hvp, ht.trans h1, h2.keep (fun b' hb' => hall b' (h2.lt b' hb')), fun b' hb' => nb b' (h4 b' hb')⟩
  | upd d0 d e =>
    obtain ⟨hv, hvp, h1, h2, h4⟩ := h
    exact ⟨hv, hvp, ht.trans h1, h2.keep (fun b' hb' => hall b' (h2.lt b' hb')), fun b' hb' => nb b' (h4 b' hb')⟩
  | app d i j eid e xs =>
    obtain ⟨hv, h0, css, h1, h2, h3, h4, h5, h6⟩ := h
    exact ⟨hv, h0, css, ht.trans h1, h2, h3.step (fun b' hb' => hall b' (h3.lt hb')), h4.step (fun b hb hlt => ⟨hup b hb, hall b hlt⟩) hp.stable, h5, h6.imp id fun ⟨b', k1, k2, k3⟩ => ⟨b', k1, k2, nb b' k3⟩⟩

/-- The same while only blocks of others turn. -/
theorem PendR.keep' {n0 : Nat} {w w' : World} {S : Nat → Prop} {tab : List Ent} {pl : List Value} {tmps tmps' : Array Value} (hsz : w.heap.size ≤ w'.heap.size)
    {b : Option Nat} {p : Pend} (hmk : (∃ d e, p = .make d e) ∨ ∃ d0 d e, p = .upd d0 d e) (hall : ∀ b', b = some b' → w'.heap[b']? = w.heap[b']?) (ht : tmps'[p.d]? = tmps[p.d]?) (h : PendR n0 w S tab pl tmps b p) : PendR n0 w' S tab pl tmps' b p := by
  have nb : ∀ b', Nobodys n0 w S tab pl b' → Nobodys n0 w' S tab pl b' := fun b' ⟨h1, h2, h3, h4⟩ => ⟨h1, Nat.lt_of_lt_of_le h2 hsz, h3, h4⟩
  rcases hmk with ⟨d, e, rfl⟩ | ⟨d0, d, e, rfl⟩
  · obtain ⟨hv, hvp, h1, h2, h4⟩ := h
    exact ⟨hv, hvp, ht.trans h1, h2.keep hall, fun b' hb' => nb b' (h4 b' hb')⟩
  · obtain ⟨hv, hvp, h1, h2, h4⟩ := h
    exact ⟨hv, hvp, ht.trans h1, h2.keep hall, fun b' hb' => nb b' (h4 b' hb')⟩

theorem PendsW.keep {n0 : Nat} {w w' : World} {S S' : Nat → Prop} {tab : List Ent} {pl : List Value} {tmps tmps' : Array Value} {pd : List Pend} (hp : Hp w S tab pl) (hall : ∀ b, b < w.heap.size → w'.heap[b]? = w.heap[b]?) (hsz : w.heap.size ≤ w'.heap.size) (hup : ∀ b, S b → S' b) (hsub : ∀ b, S' b → S b ∨ w.heap.size ≤ b)
    (ht : ∀ p ∈ pd, tmps'[p.d]? = tmps[p.d]?) (h : PendsW n0 w S tab pl tmps pd) : PendsW n0 w' S' tab pl tmps' pd := by
  obtain ⟨bs, h1, h2⟩ := h
  exact ⟨bs, fun p hm => (h1 p hm).keep hp hall hsz hup hsub (ht p hm), h2⟩

theorem PendsR.keep {n0 : Nat} {w w' : World} {S S' : Nat → Prop} {tab : List Ent} {pl : List Value} {tmps tmps' : Array Value} {pd : List Pend} (hp : Hp w S tab pl) (hall : ∀ b, b < w.heap.size → w'.heap[b]? = w.heap[b]?) (hsz : w.heap.size ≤ w'.heap.size) (hup : ∀ b, S b → S' b) (hsub : ∀ b, S' b → S b ∨ w.heap.size ≤ b)
    (ht : ∀ p ∈ pd, tmps'[p.d]? = tmps[p.d]?) (h : PendsR n0 w S tab pl tmps pd) : PendsR n0 w' S' tab pl tmps' pd := by
  obtain ⟨bs, h1, h2⟩ := h
  exact ⟨bs, fun p hm => (h1 p hm).keep hp hall hsz hup hsub (ht p hm), h2⟩

/-- The whole of what is known in the midst of a call that began in w0 with stable blocks S0 and owned ones O0. -/
structure Inv (C : Ctx) (w0 : World) (S0 O0 : Nat → Prop) (pl0 : List Value) (s : St) (a : Act) (w : World) (S : Nat → Prop) (pl : List Value) : Prop where
  hp : Hp w S s.tab pl
  fr : Fr w0 O0 w
  own : ∀ i b : Nat, Own s.tab pl i b → O0 b ∨ w0.heap.size ≤ b
  fix : ∀ i ∈ C.fx, ∀ hv : Value, pl0[i]? = some hv → pl[i]? = some hv
  fresh : ∀ i b : Nat, C.m ≤ i → Own s.tab pl i b → w0.heap.size ≤ b
  up : ∀ b : Nat, S0 b → S b
  sub : ∀ b : Nat, S b → S0 b ∨ w0.heap.size ≤ b
  env : EnvR w S s.tab pl s.env a.tmps
  size : a.tmps.size = C.n
  defers : a.defers = []
  pend : PendsR w0.heap.size w S s.tab pl a.tmps s.pd

end Go.Lg
