/-
  What the abstract state says of the world, and how it is kept when memory is written or grows.
-/
import Derived.Test.YtejfaifipdhecaaEng2
set_option linter.unusedVariables false
set_option linter.unusedSimpArgs false
namespace Go.Lg
open Go.RowKit

/-- The cells of a row: its header, its length. -/
def Row (w : World) (eid : TypeId) (size : Nat) (hv : Value) (n : Nat) (cs : List Value) : Prop :=
  cs.length = n * size ∧ ((hv = .slice none 0 0 ∧ n = 0) ∨ ∃ g o cap cur, hv = .slice (some ⟨g, o, none⟩) n cap ∧ w.heap[g]? = some (.cells cur eid (0, 0)) ∧
    n ≤ cap ∧ cap ≤ maxLen ∧ o + cap * size ≤ cur.size ∧ (cur.toList.drop o).take (n * size) = cs)

/-- Each list of cells reads as its element. -/
def Elems (w : World) (S : Nat → Prop) (e : Ty) (css : List (List Value)) (xs : List e.T) : Prop :=
  css.length = xs.length ∧ ∀ (i : Nat) (cs : List Value) (x : e.T), css[i]? = some cs → xs[i]? = some x → e.R w S cs x

def EntAt (w : World) (S : Nat → Prop) (tab : List Ent) (pl : List Value) : Ent → Value → Prop
  | .arr eid e xs, hv => ∃ css : List (List Value), Row w eid e.size hv xs.length css.flatten ∧ Elems w S e css xs
  | .box a, hv => ∃ (b : Nat) (cs : List Value) (eid : TypeId), hv = .pointer (some ⟨b, 0, none⟩) ∧ w.heap[b]? = some (.cells cs.toArray eid (0, 0)) ∧ a.R w S tab pl cs
  | .rows eid0 eid e xss, hv => ∃ (outer : Value) (hs : List Value), hv = .tuple (outer :: hs).toArray ∧ Row w eid0 1 outer xss.length hs ∧ (∃ a n c, outer = .slice a n c) ∧
      (∀ (j : Nat) (h : Value) (xs : List e.T), hs[j]? = some h → xss[j]? = some xs → (∃ a n c, h = .slice a n c) ∧ ∃ css : List (List Value), Row w eid e.size h xs.length css.flatten ∧ Elems w S e css xs) ∧
      (∀ (j j' b : Nat) (h h' : Value), hs[j]? = some h → hs[j']? = some h' → blk h = some b → blk h' = some b → j = j') ∧
      (∀ (j b : Nat) (h : Value), hs[j]? = some h → blk h = some b → blk outer ≠ some b)
  | .dead, _ => True

def Ent.live : Ent → Bool
  | .dead => false
  | _ => true

def Own (tab : List Ent) (pl : List Value) (i b : Nat) : Prop := ∃ e hv, tab[i]? = some e ∧ e.live = true ∧ pl[i]? = some hv ∧ blks hv b

structure Hp (w : World) (S : Nat → Prop) (tab : List Ent) (pl : List Value) : Prop where
  len : pl.length = tab.length
  ent : ∀ (i : Nat) (e : Ent) (hv : Value), tab[i]? = some e → pl[i]? = some hv → EntAt w S tab pl e hv
  inj : ∀ i j b : Nat, Own tab pl i b → Own tab pl j b → i = j
  stable : ∀ b : Nat, S b → b < w.heap.size
  off : ∀ i b : Nat, Own tab pl i b → ¬ S b

theorem Hp.pl {w : World} {S : Nat → Prop} {tab : List Ent} {pl : List Value} (h : Hp w S tab pl) {i : Nat} {e : Ent} (hi : tab[i]? = some e) : ∃ hv, pl[i]? = some hv ∧ EntAt w S tab pl e hv := by
  have hlt : i < pl.length := by have := (List.getElem?_eq_some_iff.1 hi).1; have := h.len; omega
  exact ⟨pl[i], List.getElem?_eq_getElem hlt, h.ent i e _ hi (List.getElem?_eq_getElem hlt)⟩

theorem Row.lt {w : World} {eid : TypeId} {size : Nat} {hv : Value} {n : Nat} {cs : List Value} (h : Row w eid size hv n cs) {b : Nat} (hb : blk hv = some b) : b < w.heap.size := by
  rcases h.2 with ⟨rfl, _⟩ | ⟨g, o, cap, cur, rfl, hg, _⟩
  · simp [blk] at hb
  · simp [blk] at hb; subst hb; exact (Array.getElem?_eq_some_iff.1 hg).1

theorem EntAt.lt {w : World} {S : Nat → Prop} {tab : List Ent} {pl : List Value} {e : Ent} {hv : Value} (h : EntAt w S tab pl e hv) (hl : e.live = true) {b : Nat} (hb : blks hv b) : b < w.heap.size := by
  cases e with
  | arr eid e xs =>
    obtain ⟨css, ⟨_, h⟩, _⟩ := h
    rcases h with ⟨rfl, _⟩ | ⟨g, o, cap, cur, rfl, hg, _⟩
    · simp [blks, blk] at hb
    · simp [blks, blk] at hb; subst hb; exact (Array.getElem?_eq_some_iff.1 hg).1
  | box a =>
    obtain ⟨c, cs, eid, rfl, hg, _⟩ := h
    simp [blks, blk] at hb; subst hb; exact (Array.getElem?_eq_some_iff.1 hg).1
  | rows eid0 eid e xss =>
    obtain ⟨outer, hs, rfl, h1, _, h2, _⟩ := h
    simp only [blks, List.mem_cons, exists_eq_or_imp] at hb
    rcases hb with hb | ⟨h, hm, hb⟩
    · exact h1.lt hb
    · obtain ⟨j, hj⟩ := List.mem_iff_getElem?.1 hm
      have hlt : j < xss.length := by have := (List.getElem?_eq_some_iff.1 hj).1; have := h1.1; omega
      obtain ⟨_, css, h3, _⟩ := h2 j h xss[j] hj (List.getElem?_eq_getElem hlt)
      exact h3.lt hb
  | dead => simp [Ent.live] at hl

theorem Hp.lt {w : World} {S : Nat → Prop} {tab : List Ent} {pl : List Value} (h : Hp w S tab pl) {i b : Nat} (ho : Own tab pl i b) : b < w.heap.size := by
  obtain ⟨e, hv, h1, h2, h3, h4⟩ := ho
  exact (h.ent i e hv h1 h3).lt h2 h4

/-! ### the abstract values when the table turns -/

/-- Entry i stands where it stood, and is of the same kind. -/
structure Keep (tab : List Ent) (pl : List Value) (tab' : List Ent) (pl' : List Value) (i : Nat) : Prop where
  pl : ∀ hv : Value, pl[i]? = some hv → pl'[i]? = some hv
  arr : ∀ (eid : TypeId) (e : Ty) (xs : List e.T), tab[i]? = some (.arr eid e xs) → ∃ xs' : List e.T, tab'[i]? = some (.arr eid e xs') ∧ xs'.length = xs.length
  box : ∀ a : AV, tab[i]? = some (.box a) → ∃ a' : AV, tab'[i]? = some (.box a')
  rows : ∀ (eid0 eid : TypeId) (e : Ty) (xss : List (List e.T)), tab[i]? = some (.rows eid0 eid e xss) → ∃ xss' : List (List e.T), tab'[i]? = some (.rows eid0 eid e xss')

theorem Keep.refl (tab : List Ent) (pl : List Value) (i : Nat) : Keep tab pl tab pl i := ⟨fun _ h => h, fun _ _ _ h => ⟨_, h, rfl⟩, fun _ h => ⟨_, h⟩, fun _ _ _ _ h => ⟨_, h⟩⟩

theorem AV.R.keep {w w' : World} {S S' : Nat → Prop} {tab tab' : List Ent} {pl pl' : List Value} (hS : ∀ b, S b → b < w.heap.size → S' b ∧ w'.heap[b]? = w.heap[b]?) (h0 : ∀ b, S b → b < w.heap.size)
    (hk : ∀ i, Keep tab pl tab' pl' i) : {a : AV} → {cs : List Value} → a.R w S tab pl cs → a.R w' S' tab' pl' cs
  | .val t x, _, h => by simp only [AV.R] at h ⊢; exact Ty.R.step hS h0 h
  | .nsl _ _, _, h => h
  | .npt, _, h => h
  | .own i, _, h => by
    simp only [AV.R] at h ⊢
    obtain ⟨eid, e, xs, hv, h1, h2, h2', rfl⟩ := h
    obtain ⟨xs', h3, _⟩ := (hk i).arr _ _ _ h1
    exact ⟨eid, e, xs', hv, h3, (hk i).pl _ h2, h2', rfl⟩
  | .bx i off t, _, h => by
    simp only [AV.R] at h ⊢
    obtain ⟨a, b, h1, h2, rfl⟩ := h
    obtain ⟨a', h3⟩ := (hk i).box _ h1
    exact ⟨a', b, h3, (hk i).pl _ h2, rfl⟩
  | .ela i j e, _, h => by
    simp only [AV.R] at h ⊢
    obtain ⟨eid, xs, g, o, n, c, h1, h2, h3, h4, rfl⟩ := h
    obtain ⟨xs', h5, h6⟩ := (hk i).arr _ _ _ h1
    exact ⟨eid, xs', g, o, n, c, h5, (hk i).pl _ h2, h3, by omega, rfl⟩
  | .xr i t, _, h => by
    simp only [AV.R] at h ⊢
    obtain ⟨eid0, eid, e, xss, outer, hs, c, h1, h2, h3, rfl⟩ := h
    obtain ⟨xss', h4⟩ := (hk i).rows _ _ _ _ h1
    exact ⟨eid0, eid, e, xss', outer, hs, c, h4, (hk i).pl _ h2, h3, rfl⟩
  | .fn f caps, _, h => by
    simp only [AV.R] at h ⊢
    obtain ⟨vs, rfl, hl, h⟩ := h
    refine ⟨vs, rfl, hl, fun k i t hk' => ?_⟩
    obtain ⟨a, b, h1, h2, h3⟩ := h k i t hk'
    obtain ⟨a', h4⟩ := (hk i).box _ h1
    exact ⟨a', b, h4, (hk i).pl _ h2, h3⟩
  | .pr a b, _, h => by
    simp only [AV.R] at h ⊢
    obtain ⟨c1, c2, rfl, h1, h2⟩ := h
    exact ⟨c1, c2, rfl, AV.R.keep hS h0 hk h1, AV.R.keep hS h0 hk h2⟩
  | .un, _, h => h
  | .dd, _, h => h
  | .ub _, _, h => h

/-- The slice itself, where an entry stands. -/
def top (hv : Value) : Value :=
  match hv with
  | .tuple hs => hs.getD 0 undef
  | hv => hv

/-- The same, 'own i' turned into r. -/
theorem AV.R.sub {w w' : World} {S S' : Nat → Prop} {tab tab' : List Ent} {pl pl' : List Value} {i : Nat} {r : AV} (hS : ∀ b, S b → b < w.heap.size → S' b ∧ w'.heap[b]? = w.heap[b]?) (h0 : ∀ b, S b → b < w.heap.size)
    (hi : ∀ a, tab[i]? ≠ some (.box a)) (hk : ∀ j, j ≠ i → Keep tab pl tab' pl' j) (hr : ∀ hv, pl[i]? = some hv → r.R w' S' tab' pl' [top hv]) :
    {a : AV} → {cs : List Value} → a.R w S tab pl cs → (AV.sub i r a).R w' S' tab' pl' cs
  | .val t x, _, h => by simp only [AV.sub, AV.R] at h ⊢; exact Ty.R.step hS h0 h
  | .nsl _ _, _, h => h
  | .npt, _, h => h
  | .own j, _, h => by
    simp only [AV.R] at h
    obtain ⟨eid, e, xs, hv, h1, h2, h2', rfl⟩ := h
    simp only [AV.sub]
    cases hji : Nat.beq j i with
    | true =>
      obtain rfl := Nat.eq_of_beq_eq_true hji
      obtain ⟨ad, n, c, rfl⟩ := h2'
      exact hr _ h2
    | false =>
      have hne : j ≠ i := Nat.ne_of_beq_eq_false hji
      obtain ⟨xs', h3, _⟩ := (hk j hne).arr _ _ _ h1
      simp only [AV.R]
      exact ⟨eid, e, xs', hv, h3, (hk j hne).pl _ h2, h2', rfl⟩
  | .bx j off t, _, h => by
    simp only [AV.sub, AV.R] at h ⊢
    obtain ⟨a, b, h1, h2, rfl⟩ := h
    have hne : j ≠ i := fun e => hi a (e ▸ h1)
    obtain ⟨a', h3⟩ := (hk j hne).box _ h1
    exact ⟨a', b, h3, (hk j hne).pl _ h2, rfl⟩
  | .ela j n e, _, h => by
    simp only [AV.R] at h
    obtain ⟨eid, xs, g, o, m, c, h1, h2, h3, h4, rfl⟩ := h
    simp only [AV.sub]
    cases hji : Nat.beq j i with
    | true => simp [AV.R]
    | false =>
      have hne : j ≠ i := Nat.ne_of_beq_eq_false hji
      obtain ⟨xs', h5, h6⟩ := (hk j hne).arr _ _ _ h1
      simp only [AV.R]
      exact ⟨eid, xs', g, o, m, c, h5, (hk j hne).pl _ h2, h3, by omega, rfl⟩
  | .xr j t, _, h => by
    simp only [AV.R] at h
    obtain ⟨eid0, eid, e, xss, outer, hs, c, h1, h2, h3, rfl⟩ := h
    simp only [AV.sub]
    cases hji : Nat.beq j i with
    | true =>
      obtain rfl := Nat.eq_of_beq_eq_true hji
      cases t with
      | top =>
        have hr' := hr _ h2
        cases outer <;> simp only [XT.at, Option.some.injEq, reduceCtorEq] at h3
        subst h3
        exact hr'
      | cell k => simp [AV.R]
      | row k => simp [AV.R]
    | false =>
      have hne : j ≠ i := Nat.ne_of_beq_eq_false hji
      obtain ⟨xss', h4⟩ := (hk j hne).rows _ _ _ _ h1
      simp only [AV.R]
      exact ⟨eid0, eid, e, xss', outer, hs, c, h4, (hk j hne).pl _ h2, h3, rfl⟩
  | .fn f caps, _, h => by
    simp only [AV.sub, AV.R] at h ⊢
    obtain ⟨vs, rfl, hl, h⟩ := h
    refine ⟨vs, rfl, hl, fun k j t hk' => ?_⟩
    obtain ⟨a, b, h1, h2, h3⟩ := h k j t hk'
    have hne : j ≠ i := fun e => hi a (e ▸ h1)
    obtain ⟨a', h4⟩ := (hk j hne).box _ h1
    exact ⟨a', b, h4, (hk j hne).pl _ h2, h3⟩
  | .pr a b, _, h => by
    simp only [AV.sub, AV.R] at h ⊢
    obtain ⟨c1, c2, rfl, h1, h2⟩ := h
    exact ⟨c1, c2, rfl, AV.R.sub hS h0 hi hk hr h1, AV.R.sub hS h0 hi hk hr h2⟩
  | .un, _, h => h
  | .dd, _, h => h
  | .ub _, _, h => h

theorem AV.isAgg_sub {i : Nat} {r : AV} (hr : r.isAgg = false) (a : AV) : (AV.sub i r a).isAgg = a.isAgg := by
  cases a with
  | own j => simp only [AV.sub]; split <;> first | exact hr | rfl
  | ela j n e => simp only [AV.sub]; split <;> rfl
  | xr j t =>
    simp only [AV.sub]
    split
    · cases t <;> first | exact hr | rfl
    · rfl
  | _ => simp [AV.sub, AV.isAgg]

theorem AV.R.length {w : World} {S : Nat → Prop} {tab : List Ent} {pl : List Value} : {a : AV} → {cs : List Value} → a.R w S tab pl cs → cs.length = a.size
  | .val t x, _, h => Ty.R.length (by simpa only [AV.R] using h)
  | .nsl _ _, _, h => by simp only [AV.R] at h; subst h; rfl
  | .npt, _, h => by simp only [AV.R] at h; subst h; rfl
  | .own i, _, h => by simp only [AV.R] at h; obtain ⟨_, _, _, _, _, _, _, rfl⟩ := h; rfl
  | .bx i off t, _, h => by simp only [AV.R] at h; obtain ⟨_, _, _, _, rfl⟩ := h; rfl
  | .ela i j e, _, h => by simp only [AV.R] at h; obtain ⟨_, _, _, _, _, _, _, _, _, _, rfl⟩ := h; rfl
  | .xr i t, _, h => by simp only [AV.R] at h; obtain ⟨_, _, _, _, _, _, _, _, _, _, rfl⟩ := h; rfl
  | .fn f caps, _, h => by simp only [AV.R] at h; obtain ⟨_, rfl, _⟩ := h; rfl
  | .pr a b, _, h => by
    simp only [AV.R] at h
    obtain ⟨c1, c2, rfl, h1, h2⟩ := h
    simp [AV.size, AV.R.length h1, AV.R.length h2]
  | .un, _, h => by simp only [AV.R] at h; subst h; rfl
  | .dd, _, h => by simp only [AV.R] at h; simpa [AV.size] using h
  | .ub _, _, h => by simp only [AV.R] at h; obtain ⟨b, rfl, _⟩ := h; rfl

theorem Ty.size_one {t : Ty} (h : t.isAgg = false) : t.size = 1 := by cases t <;> simp_all [Ty.isAgg, Ty.size]
theorem AV.size_one {a : AV} (h : a.isAgg = false) : a.size = 1 := by
  cases a <;> simp_all [AV.isAgg, AV.size, Ty.size_one]

theorem AV.R.one {w : World} {S : Nat → Prop} {tab : List Ent} {pl : List Value} {a : AV} {cs : List Value} (h : a.R w S tab pl cs) (ha : a.isAgg = false) : ∃ c, cs = [c] := by
  have h1 := h.length
  rw [AV.size_one ha] at h1
  match cs, h1 with
  | [c], _ => exact ⟨c, rfl⟩

/-! ### slots -/

def SV.R (w : World) (S : Nat → Prop) (tab : List Ent) (pl : List Value) : SV → Value → Prop
  | .one a, u => ∃ cs, a.R w S tab pl cs ∧ u = pack a.isAgg cs
  | .tup l, u => ∃ us : List Value, u = .tuple us.toArray ∧ us.length = l.length ∧ ∀ (i : Nat) (a : AV) (v : Value), l[i]? = some a → us[i]? = some v → ∃ cs, a.R w S tab pl cs ∧ v = pack a.isAgg cs
  | .dd, _ => True

theorem SV.R.keep {w w' : World} {S S' : Nat → Prop} {tab tab' : List Ent} {pl pl' : List Value} (hS : ∀ b, S b → b < w.heap.size → S' b ∧ w'.heap[b]? = w.heap[b]?) (h0 : ∀ b, S b → b < w.heap.size)
    (hk : ∀ i, Keep tab pl tab' pl' i) {v : SV} {u : Value} (h : v.R w S tab pl u) : v.R w' S' tab' pl' u := by
  cases v with
  | one a => obtain ⟨cs, h, rfl⟩ := h; exact ⟨cs, h.keep hS h0 hk, rfl⟩
  | tup l =>
    obtain ⟨us, rfl, hl, h⟩ := h
    refine ⟨us, rfl, hl, fun i a v hi hv => ?_⟩
    obtain ⟨cs, h1, h2⟩ := h i a v hi hv
    exact ⟨cs, h1.keep hS h0 hk, h2⟩
  | dd => trivial

theorem SV.R.sub {w w' : World} {S S' : Nat → Prop} {tab tab' : List Ent} {pl pl' : List Value} {i : Nat} {r : AV} (hS : ∀ b, S b → b < w.heap.size → S' b ∧ w'.heap[b]? = w.heap[b]?) (h0 : ∀ b, S b → b < w.heap.size)
    (hi : ∀ a, tab[i]? ≠ some (.box a)) (hk : ∀ j, j ≠ i → Keep tab pl tab' pl' j) (hra : r.isAgg = false) (hr : ∀ hv, pl[i]? = some hv → r.R w' S' tab' pl' [top hv])
    {v : SV} {u : Value} (h : v.R w S tab pl u) : (SV.sub i r v).R w' S' tab' pl' u := by
  cases v with
  | one a => obtain ⟨cs, h, rfl⟩ := h; exact ⟨cs, h.sub hS h0 hi hk hr, by rw [AV.isAgg_sub hra]⟩
  | tup l =>
    obtain ⟨us, rfl, hl, h⟩ := h
    refine ⟨us, rfl, by simpa using hl, fun k a v hk' hv => ?_⟩
    simp only [List.getElem?_map, Option.map_eq_some_iff] at hk'
    obtain ⟨a', ha', rfl⟩ := hk'
    obtain ⟨cs, h1, h2⟩ := h k a' v ha' hv
    exact ⟨cs, h1.sub hS h0 hi hk hr, by rw [AV.isAgg_sub hra]; exact h2⟩
  | dd => trivial

abbrev Env := List (Nat × SV × PC)

/-- The path condition holds of the slots. -/
def Holds (tmps : Array Value) (G : PC) : Prop := ∀ p ∈ G, tmps[p.1]? = some (.bool p.2)

def EnvR (w : World) (S : Nat → Prop) (tab : List Ent) (pl : List Value) (env : Env) (tmps : Array Value) : Prop :=
  ∀ t v T, look t env = some (v, T) → Holds tmps T → ∃ u, tmps[t]? = some u ∧ v.R w S tab pl u

theorem reads_holds {tmps : Array Value} {G T : PC} (h : reads G T = true) (hG : Holds tmps G) : Holds tmps T := by
  intro p hp
  simp only [reads, List.all_eq_true] at h
  have := h p hp
  simp only [List.any_eq_true, Bool.and_eq_true, beq_iff_eq] at this
  obtain ⟨q, hq, h1, h2⟩ := this
  have h1 := Nat.eq_of_beq_eq_true h1
  rw [h1, h2]
  exact hG q hq

theorem look_cons {t u : Nat} {x : SV × PC} {r : Env} : look t ((u, x) :: r) = if u = t then some x else look t r := by
  simp only [look]
  cases h : Nat.beq u t with
  | true => simp [Nat.eq_of_beq_eq_true h]
  | false => simp [Nat.ne_of_beq_eq_false h]

theorem EnvR.keep {w w' : World} {S S' : Nat → Prop} {tab tab' : List Ent} {pl pl' : List Value} (hS : ∀ b, S b → b < w.heap.size → S' b ∧ w'.heap[b]? = w.heap[b]?) (h0 : ∀ b, S b → b < w.heap.size)
    (hk : ∀ i, Keep tab pl tab' pl' i) {env : Env} {tmps : Array Value} (h : EnvR w S tab pl env tmps) : EnvR w' S' tab' pl' env tmps := fun t v T hl hT =>
  let ⟨u, h1, h2⟩ := h t v T hl hT
  ⟨u, h1, h2.keep hS h0 hk⟩

theorem look_sub {i : Nat} {r : AV} {t : Nat} : ∀ {env : Env}, look t (env.map fun p => (p.1, p.2.1.sub i r, p.2.2)) = (look t env).map fun x => (x.1.sub i r, x.2)
  | [] => rfl
  | (u, v, T) :: e => by
    simp only [List.map_cons, look_cons]
    split
    · rfl
    · exact look_sub

theorem EnvR.sub {w w' : World} {S S' : Nat → Prop} {tab tab' : List Ent} {pl pl' : List Value} {i : Nat} {r : AV} (hS : ∀ b, S b → b < w.heap.size → S' b ∧ w'.heap[b]? = w.heap[b]?) (h0 : ∀ b, S b → b < w.heap.size)
    (hi : ∀ a, tab[i]? ≠ some (.box a)) (hk : ∀ j, j ≠ i → Keep tab pl tab' pl' j) (hra : r.isAgg = false) (hr : ∀ hv, pl[i]? = some hv → r.R w' S' tab' pl' [top hv])
    {env : Env} {tmps : Array Value} (h : EnvR w S tab pl env tmps) : EnvR w' S' tab' pl' (env.map fun p => (p.1, p.2.1.sub i r, p.2.2)) tmps := fun t v T hl hT => by
  rw [look_sub] at hl
  simp only [Option.map_eq_some_iff, Prod.mk.injEq] at hl
  obtain ⟨⟨v', T'⟩, h1, rfl, rfl⟩ := hl
  obtain ⟨u, h2, h3⟩ := h t v' T' h1 hT
  exact ⟨u, h2, h3.sub hS h0 hi hk hra hr⟩

/-- A slot is written whose old value no path condition reads. -/
theorem EnvR.put {w : World} {S : Nat → Prop} {tab : List Ent} {pl : List Value} {env : Env} {tmps : Array Value} (h : EnvR w S tab pl env tmps) {d : Nat} (hd : d < tmps.size)
    {v : SV} {G : PC} {u : Value} (hv : v.R w S tab pl u ∨ ¬ Holds (tmps.setIfInBounds d u) G) (hfree : ∀ t x T, look t env = some (x, T) → ∀ p ∈ T, p.1 ≠ d) :
    EnvR w S tab pl ((d, v, G) :: env) (tmps.setIfInBounds d u) := fun t x T hl hT => by
  rw [look_cons] at hl
  by_cases e : d = t
  · subst e
    simp only [if_pos, Option.some.injEq, Prod.mk.injEq] at hl
    obtain ⟨rfl, rfl⟩ := hl
    exact ⟨u, by simp [hd], hv.resolve_right (fun k => k hT)⟩
  · rw [if_neg e] at hl
    have hT' : Holds tmps T := fun p hp => by
      have := hT p hp
      rwa [Array.getElem?_setIfInBounds_ne (Ne.symm (hfree t x T hl p hp))] at this
    obtain ⟨y, h1, h2⟩ := h t x T hl hT'
    exact ⟨y, by rw [Array.getElem?_setIfInBounds_ne e]; exact h1, h2⟩

end Go.Lg
