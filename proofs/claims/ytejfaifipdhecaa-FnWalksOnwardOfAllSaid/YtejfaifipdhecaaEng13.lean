/-
  Calls, the first part: shapes, what is handed over and what comes back.
-/
import Derived.Test.YtejfaifipdhecaaEng12b
set_option linter.unusedVariables false
set_option linter.unusedSimpArgs false
namespace Go.Lg
open Go.RowKit

theorem Sh.enc_length : ∀ (s : Sh) (x : s.T) (n : Nat), (s.enc x n).2.length = s.n
  | .val _, _, _ => rfl
  | .ref _, _, _ => rfl
  | .clo _ s, x, n => Sh.enc_length s x n
  | .own _ _, _, _ => rfl
  | .box s, x, n => by simp [Sh.enc, Sh.n, Sh.enc_length s x (n + 1)]
  | .pr a b, x, n => by simp [Sh.enc, Sh.n, Sh.enc_length a, Sh.enc_length b]
  | .un, _, _ => rfl

theorem capList_mapI {f : Nat → Nat} : ∀ (a : AV), capList (a.mapI f) = (capList a).map fun p => (f p.1, p.2)
  | .pr (.bx i o t) b => by simp only [AV.mapI, capList, List.map_cons, capList_mapI b]
  | .pr (.val _ _) _ | .pr (.nsl _ _) _ | .pr .npt _ | .pr (.own _) _ | .pr (.ela _ _ _) _ | .pr (.xr _ _) _ | .pr (.fn _ _) _ | .pr (.pr _ _) _ | .pr .un _ | .pr .dd _ | .pr (.ub _) _ => rfl
  | .val _ _ | .nsl _ _ | .npt | .own _ | .ela _ _ _ | .xr _ _ | .fn _ _ | .un | .dd | .ub _ | .bx _ _ _ => rfl

/-- Other numbers for the entries. -/
theorem Sh.enc_mapI {f : Nat → Nat} : ∀ (s : Sh) (x : s.T) (n n' : Nat), (∀ i, i < s.n → f (n + i) = n' + i) → (s.enc x n).1.mapI f = (s.enc x n').1 ∧ (s.enc x n).2.map (Ent.mapI f) = (s.enc x n').2
  | .val _, _, _, _, _ => ⟨rfl, rfl⟩
  | .ref _, _, _, _, _ => ⟨rfl, rfl⟩
  | .clo g s, x, n, n', h => by
    obtain ⟨h1, h2⟩ := Sh.enc_mapI (f := f) s x n n' h
    exact ⟨by simp only [Sh.enc, AV.mapI, ← capList_mapI, h1], by simp only [Sh.enc, h2]⟩
  | .own _ _, _, n, n', h => by
    have := h 0 (by simp [Sh.n])
    simp only [Nat.add_zero] at this
    exact ⟨by simp [Sh.enc, AV.mapI, this], by simp [Sh.enc, Ent.mapI]⟩
  | .box s, x, n, n', h => by
    have h0 := h 0 (by simp [Sh.n])
    simp only [Nat.add_zero] at h0
    obtain ⟨h1, h2⟩ := Sh.enc_mapI (f := f) s x (n + 1) (n' + 1) (fun i hi => by have := h (i + 1) (by simp [Sh.n]; omega); rw [Nat.add_right_comm n 1 i, Nat.add_assoc n i 1, this]; omega)
    exact ⟨by simp [Sh.enc, AV.mapI, h0], by simp only [Sh.enc, List.map_cons, Ent.mapI, h1, h2]⟩
  | .pr a b, x, n, n', h => by
    obtain ⟨h1, h2⟩ := Sh.enc_mapI (f := f) a x.1 n n' (fun i hi => h i (by simp only [Sh.n]; omega))
    obtain ⟨h3, h4⟩ := Sh.enc_mapI (f := f) b x.2 (n + a.n) (n' + a.n) (fun i hi => by have := h (a.n + i) (by simp only [Sh.n]; omega); rw [Nat.add_assoc, this, Nat.add_assoc])
    refine ⟨?_, ?_⟩
    · simp only [Sh.enc, AV.mapI, Sh.enc_length, h1, h3]
    · simp only [Sh.enc, List.map_append, Sh.enc_length, h2, h4]
  | .un, _, _, _, _ => ⟨rfl, rfl⟩

theorem Sh.enc_congr {f g : Nat → Nat} : ∀ (s : Sh) (x : s.T) (n : Nat), (∀ i, i < s.n → f (n + i) = g (n + i)) → (s.enc x n).1.mapI f = (s.enc x n).1.mapI g ∧ (s.enc x n).2.map (Ent.mapI f) = (s.enc x n).2.map (Ent.mapI g)
  | .val _, _, _, _ => ⟨rfl, rfl⟩
  | .ref _, _, _, _ => ⟨rfl, rfl⟩
  | .clo g' s, x, n, h => by
    obtain ⟨h1, h2⟩ := Sh.enc_congr (f := f) (g := g) s x n h
    exact ⟨by simp only [Sh.enc, AV.mapI, ← capList_mapI, h1], by simp only [Sh.enc, h2]⟩
  | .own _ _, _, n, h => by
    have := h 0 (by simp [Sh.n])
    simp only [Nat.add_zero] at this
    exact ⟨by simp [Sh.enc, AV.mapI, this], by simp [Sh.enc, Ent.mapI]⟩
  | .box s, x, n, h => by
    have h0 := h 0 (by simp [Sh.n])
    simp only [Nat.add_zero] at h0
    obtain ⟨h1, h2⟩ := Sh.enc_congr (f := f) (g := g) s x (n + 1) (fun i hi => by have := h (i + 1) (by simp [Sh.n]; omega); rw [Nat.add_right_comm n 1 i, Nat.add_assoc n i 1, this])
    exact ⟨by simp [Sh.enc, AV.mapI, h0], by simp only [Sh.enc, List.map_cons, Ent.mapI, h1, h2]⟩
  | .pr a b, x, n, h => by
    obtain ⟨h1, h2⟩ := Sh.enc_congr (f := f) (g := g) a x.1 n (fun i hi => h i (by simp only [Sh.n]; omega))
    obtain ⟨h3, h4⟩ := Sh.enc_congr (f := f) (g := g) b x.2 (n + a.n) (fun i hi => by have := h (a.n + i) (by simp only [Sh.n]; omega); rw [Nat.add_assoc, this])
    refine ⟨?_, ?_⟩
    · simp only [Sh.enc, AV.mapI, Sh.enc_length, h1, h3]
    · simp only [Sh.enc, List.map_append, Sh.enc_length, h2, h4]
  | .un, _, _, _ => ⟨rfl, rfl⟩

theorem Ent.mapI_live {f : Nat → Nat} (e : Ent) : (e.mapI f).live = e.live := by cases e <;> rfl
theorem AV.mapI_agg {f : Nat → Nat} (a : AV) : (a.mapI f).isAgg = a.isAgg := by cases a <;> rfl

/-- The entry i stands elsewhere under another number. -/
structure Ren (f : Nat → Nat) (tab : List Ent) (pl : List Value) (tab' : List Ent) (pl' : List Value) (i : Nat) : Prop where
  pl : ∀ hv : Value, pl[i]? = some hv → pl'[f i]? = some hv
  ent : ∀ e : Ent, tab[i]? = some e → tab'[f i]? = some (e.mapI f)

theorem AV.R.mapI {w w' : World} {S S' : Nat → Prop} {tab tab' : List Ent} {pl pl' : List Value} {f : Nat → Nat} (hS : ∀ b, S b → b < w.heap.size → S' b ∧ w'.heap[b]? = w.heap[b]?) (h0 : ∀ b, S b → b < w.heap.size)
    (hk : ∀ i, i < tab.length → Ren f tab pl tab' pl' i) : {a : AV} → {cs : List Value} → a.R w S tab pl cs → (a.mapI f).R w' S' tab' pl' cs
  | .val t x, _, h => by simp only [AV.mapI, AV.R] at h ⊢; exact Ty.R.step hS h0 h
  | .nsl _ _, _, h => h
  | .npt, _, h => h
  | .own i, _, h => by
    simp only [AV.mapI, AV.R] at h ⊢
    obtain ⟨eid, e, xs, hv, h1, h2, h3, rfl⟩ := h
    have k := hk i (List.getElem?_eq_some_iff.1 h1).1
    exact ⟨eid, e, xs, hv, k.ent _ h1, k.pl _ h2, h3, rfl⟩
  | .bx i off t, _, h => by
    simp only [AV.mapI, AV.R] at h ⊢
    obtain ⟨a, b, h1, h2, rfl⟩ := h
    have k := hk i (List.getElem?_eq_some_iff.1 h1).1
    exact ⟨_, b, k.ent _ h1, k.pl _ h2, rfl⟩
  | .ela i j e, _, h => by
    simp only [AV.mapI, AV.R] at h ⊢
    obtain ⟨eid, xs, g, o, n, c, h1, h2, h3, h4, rfl⟩ := h
    have k := hk i (List.getElem?_eq_some_iff.1 h1).1
    exact ⟨eid, xs, g, o, n, c, k.ent _ h1, k.pl _ h2, h3, h4, rfl⟩
  | .xr i t, _, h => by
    simp only [AV.mapI, AV.R] at h ⊢
    obtain ⟨eid0, eid, e, xss, outer, hs, c, h1, h2, h3, rfl⟩ := h
    have k := hk i (List.getElem?_eq_some_iff.1 h1).1
    exact ⟨eid0, eid, e, xss, outer, hs, c, k.ent _ h1, k.pl _ h2, h3, rfl⟩
  | .fn g caps, _, h => by
    simp only [AV.mapI, AV.R] at h ⊢
    obtain ⟨vs, rfl, hl, h⟩ := h
    refine ⟨vs, rfl, by simpa using hl, fun k i t hk' => ?_⟩
    simp only [List.getElem?_map, Option.map_eq_some_iff, Prod.mk.injEq] at hk'
    obtain ⟨⟨i0, t0⟩, hc, rfl, rfl⟩ := hk'
    obtain ⟨a, b, h1, h2, h3⟩ := h k i0 t0 hc
    have k := hk i0 (List.getElem?_eq_some_iff.1 h1).1
    exact ⟨_, b, k.ent _ h1, k.pl _ h2, h3⟩
  | .pr a b, _, h => by
    simp only [AV.mapI, AV.R] at h ⊢
    obtain ⟨c1, c2, rfl, h1, h2⟩ := h
    exact ⟨c1, c2, rfl, AV.R.mapI hS h0 hk h1, AV.R.mapI hS h0 hk h2⟩
  | .un, _, h => h
  | .dd, _, h => h
  | .ub _, _, h => h

theorem EntAt.mapI {w w' : World} {S S' : Nat → Prop} {tab tab' : List Ent} {pl pl' : List Value} {f : Nat → Nat} (hS : ∀ b, S b → b < w.heap.size → S' b ∧ w'.heap[b]? = w.heap[b]?) (h0 : ∀ b, S b → b < w.heap.size)
    (hk : ∀ i, i < tab.length → Ren f tab pl tab' pl' i) {e : Ent} {hv : Value} (hb : ∀ b, e.live = true → blks hv b → w'.heap[b]? = w.heap[b]?) (h : EntAt w S tab pl e hv) : EntAt w' S' tab' pl' (e.mapI f) hv := by
  cases e with
  | arr eid e xs =>
    obtain ⟨css, h1, h2⟩ := h
    exact ⟨css, h1.step (fun b hb' => hb b rfl (blks_of_blk hb')), h2.step hS h0⟩
  | box a =>
    obtain ⟨b, cs, eid, rfl, hg, h⟩ := h
    exact ⟨b, cs, eid, rfl, by rw [hb b rfl rfl]; exact hg, h.mapI hS h0 hk⟩
  | rows eid0 eid e xss =>
    obtain ⟨outer, hs, rfl, h1, h1', h2, h3, h4⟩ := h
    refine ⟨outer, hs, rfl, h1.step fun b hb' => hb b rfl ⟨outer, by simp, hb'⟩, h1', fun j h xs hj hx => ?_, h3, h4⟩
    obtain ⟨k0, css, k1, k2⟩ := h2 j h xs hj hx
    exact ⟨k0, css, k1.step fun b hb' => hb b rfl ⟨h, by simp [List.mem_of_getElem? hj], hb'⟩, k2.step hS h0⟩
  | dead => trivial

theorem AV.R.subL {w w' : World} {S S' : Nat → Prop} {tab tab' : List Ent} {pl pl' : List Value} {L : List Nat} (hS : ∀ b, S b → b < w.heap.size → S' b ∧ w'.heap[b]? = w.heap[b]?) (h0 : ∀ b, S b → b < w.heap.size)
    (hi : ∀ i ∈ L, isArr tab[i]? = true) (hk : ∀ j, j ∉ L → Keep tab pl tab' pl' j) :
    {a : AV} → {cs : List Value} → a.R w S tab pl cs → (AV.subL L a).R w' S' tab' pl' cs
  | .val t x, _, h => by simp only [AV.subL, AV.R] at h ⊢; exact Ty.R.step hS h0 h
  | .nsl _ _, _, h => h
  | .npt, _, h => h
  | .own j, _, h => by
    simp only [AV.R] at h
    obtain ⟨eid, e, xs, hv, h1, h2, h2', rfl⟩ := h
    simp only [AV.subL]
    cases hji : has j L with
    | true => simp [AV.R]
    | false =>
      have hne := has_false hji
      obtain ⟨xs', h3, _⟩ := (hk j hne).arr _ _ _ h1
      simp only [AV.R]
      exact ⟨eid, e, xs', hv, h3, (hk j hne).pl _ h2, h2', rfl⟩
  | .bx j off t, _, h => by
    simp only [AV.subL, AV.R] at h ⊢
    obtain ⟨a, b, h1, h2, rfl⟩ := h
    have hne : j ∉ L := fun e => by have := hi j e; rw [h1] at this; cases this
    obtain ⟨a', h3⟩ := (hk j hne).box _ h1
    exact ⟨a', b, h3, (hk j hne).pl _ h2, rfl⟩
  | .ela j n e, _, h => by
    simp only [AV.R] at h
    obtain ⟨eid, xs, g, o, m, c, h1, h2, h3, h4, rfl⟩ := h
    simp only [AV.subL]
    cases hji : has j L with
    | true => simp [AV.R]
    | false =>
      have hne := has_false hji
      obtain ⟨xs', h5, h6⟩ := (hk j hne).arr _ _ _ h1
      simp only [AV.R]
      exact ⟨eid, xs', g, o, m, c, h5, (hk j hne).pl _ h2, h3, by omega, rfl⟩
  | .xr j t, _, h => by
    simp only [AV.subL, AV.R] at h ⊢
    obtain ⟨eid0, eid, e, xss, outer, hs, c, h1, h2, h3, rfl⟩ := h
    have hne : j ∉ L := fun e => by have := hi j e; rw [h1] at this; cases this
    obtain ⟨xss', h4⟩ := (hk j hne).rows _ _ _ _ h1
    exact ⟨eid0, eid, e, xss', outer, hs, c, h4, (hk j hne).pl _ h2, h3, rfl⟩
  | .fn f caps, _, h => by
    simp only [AV.subL, AV.R] at h ⊢
    obtain ⟨vs, rfl, hl, h⟩ := h
    refine ⟨vs, rfl, hl, fun k j t hk' => ?_⟩
    obtain ⟨a, b, h1, h2, h3⟩ := h k j t hk'
    have hne : j ∉ L := fun e => by have := hi j e; rw [h1] at this; cases this
    obtain ⟨a', h4⟩ := (hk j hne).box _ h1
    exact ⟨a', b, h4, (hk j hne).pl _ h2, h3⟩
  | .pr a b, _, h => by
    simp only [AV.subL, AV.R] at h ⊢
    obtain ⟨c1, c2, rfl, h1, h2⟩ := h
    exact ⟨c1, c2, rfl, AV.R.subL hS h0 hi hk h1, AV.R.subL hS h0 hi hk h2⟩
  | .un, _, h => h
  | .dd, _, h => h
  | .ub _, _, h => h

theorem AV.isAgg_subL {L : List Nat} (a : AV) : (AV.subL L a).isAgg = a.isAgg := by
  cases a with
  | own j => simp only [AV.subL]; split <;> rfl
  | ela j n e => simp only [AV.subL]; split <;> rfl
  | _ => simp [AV.subL, AV.isAgg]

theorem SV.R.subL {w w' : World} {S S' : Nat → Prop} {tab tab' : List Ent} {pl pl' : List Value} {L : List Nat} (hS : ∀ b, S b → b < w.heap.size → S' b ∧ w'.heap[b]? = w.heap[b]?) (h0 : ∀ b, S b → b < w.heap.size)
    (hi : ∀ i ∈ L, isArr tab[i]? = true) (hk : ∀ j, j ∉ L → Keep tab pl tab' pl' j) {v : SV} {u : Value} (h : v.R w S tab pl u) : (SV.subL L v).R w' S' tab' pl' u := by
  cases v with
  | one a => obtain ⟨cs, h, rfl⟩ := h; exact ⟨cs, h.subL hS h0 hi hk, by rw [AV.isAgg_subL]⟩
  | tup l =>
    obtain ⟨us, rfl, hl, h⟩ := h
    refine ⟨us, rfl, by simpa using hl, fun k a v hk' hv => ?_⟩
    simp only [List.getElem?_map, Option.map_eq_some_iff] at hk'
    obtain ⟨a', ha', rfl⟩ := hk'
    obtain ⟨cs, h1, h2⟩ := h k a' v ha' hv
    exact ⟨cs, h1.subL hS h0 hi hk, by rw [AV.isAgg_subL]; exact h2⟩
  | dd => trivial

theorem look_subL {L : List Nat} {t : Nat} : ∀ {env : Env}, look t (env.map fun p => (p.1, p.2.1.subL L, p.2.2)) = (look t env).map fun x => (x.1.subL L, x.2)
  | [] => rfl
  | (u, v, T) :: e => by
    simp only [List.map_cons, look_cons]
    split
    · rfl
    · exact look_subL

theorem EnvR.subL {w w' : World} {S S' : Nat → Prop} {tab tab' : List Ent} {pl pl' : List Value} {L : List Nat} (hS : ∀ b, S b → b < w.heap.size → S' b ∧ w'.heap[b]? = w.heap[b]?) (h0 : ∀ b, S b → b < w.heap.size)
    (hi : ∀ i ∈ L, isArr tab[i]? = true) (hk : ∀ j, j ∉ L → Keep tab pl tab' pl' j) {env : Env} {tmps : Array Value} (h : EnvR w S tab pl env tmps) : EnvR w' S' tab' pl' (env.map fun p => (p.1, p.2.1.subL L, p.2.2)) tmps := fun t v T hl hT => by
  rw [look_subL] at hl
  simp only [Option.map_eq_some_iff, Prod.mk.injEq] at hl
  obtain ⟨⟨v', T'⟩, h1, rfl, rfl⟩ := hl
  obtain ⟨u, h2, h3⟩ := h t v' T' h1 hT
  exact ⟨u, h2, h3.subL hS h0 hi hk⟩

theorem EntAt.subL {w w' : World} {S S' : Nat → Prop} {tab tab' : List Ent} {pl pl' : List Value} {L : List Nat} (hS : ∀ b, S b → b < w.heap.size → S' b ∧ w'.heap[b]? = w.heap[b]?) (h0 : ∀ b, S b → b < w.heap.size)
    (hi : ∀ i ∈ L, isArr tab[i]? = true) (hk : ∀ j, j ∉ L → Keep tab pl tab' pl' j)
    {e : Ent} {hv : Value} (hb : ∀ b, e.live = true → blks hv b → w'.heap[b]? = w.heap[b]?) (h : EntAt w S tab pl e hv) : EntAt w' S' tab' pl' (Ent.subL L e) hv := by
  cases e with
  | arr eid e xs =>
    obtain ⟨css, h1, h2⟩ := h
    exact ⟨css, h1.step (fun b hb' => hb b rfl (blks_of_blk hb')), h2.step hS h0⟩
  | box a =>
    obtain ⟨b, cs, eid, rfl, hg, h⟩ := h
    exact ⟨b, cs, eid, rfl, by rw [hb b rfl rfl]; exact hg, h.subL hS h0 hi hk⟩
  | rows eid0 eid e xss =>
    obtain ⟨outer, hs, rfl, h1, h1', h2, h3, h4⟩ := h
    refine ⟨outer, hs, rfl, h1.step fun b hb' => hb b rfl ⟨outer, by simp, hb'⟩, h1', fun j h xs hj hx => ?_, h3, h4⟩
    obtain ⟨k0, css, k1, k2⟩ := h2 j h xs hj hx
    exact ⟨k0, css, k1.step fun b hb' => hb b rfl ⟨h, by simp [List.mem_of_getElem? hj], hb'⟩, k2.step hS h0⟩
  | dead => trivial

theorem Ent.live_subL {L : List Nat} (e : Ent) : (Ent.subL L e).live = e.live := by cases e <;> rfl

/-! what leans on no memory but its own -/

theorem enc_flat {w : World} {S S' : Nat → Prop} {tab : List Ent} {pl : List Value} : ∀ {s : Sh}, s.flat = true → ∀ {x : s.T} {n : Nat}, (∀ {cs : List Value}, (s.enc x n).1.R w S tab pl cs → (s.enc x n).1.R w S' tab pl cs) ∧
    (∀ e ∈ (s.enc x n).2, ∀ hv, EntAt w S tab pl e hv → EntAt w S' tab pl e hv)
  | .val t, h, x, n => ⟨fun {cs} hr => by simp only [Sh.enc, AV.R] at hr ⊢; exact hr.flat h, fun e he => by simp [Sh.enc] at he⟩
  | .ref t, h, x, n => by simp [Sh.flat] at h
  | .clo f s, h, x, n => by
    obtain ⟨h1, h2⟩ := enc_flat (w := w) (S := S) (S' := S') (tab := tab) (pl := pl) (s := s) h (x := x) (n := n)
    exact ⟨fun {cs} hr => hr, h2⟩
  | .own eid e, h, x, n => ⟨fun {cs} hr => hr, fun e' he hv hent => by
      simp [Sh.enc] at he
      subst he
      obtain ⟨css, h1, h2⟩ := hent
      exact ⟨css, h1, h2.1, fun i cs y hi hy => (h2.2 i cs y hi hy).flat h⟩⟩
  | .box s, h, x, n => by
    obtain ⟨h1, h2⟩ := enc_flat (w := w) (S := S) (S' := S') (tab := tab) (pl := pl) (s := s) h (x := x) (n := n + 1)
    refine ⟨fun {cs} hr => hr, fun e he hv hent => ?_⟩
    simp only [Sh.enc, List.mem_cons] at he
    rcases he with rfl | he
    · obtain ⟨b, cs, eid, g1, g2, g3⟩ := hent
      exact ⟨b, cs, eid, g1, g2, h1 g3⟩
    · exact h2 e he hv hent
  | .pr a b, h, x, n => by
    simp only [Sh.flat, Bool.and_eq_true] at h
    obtain ⟨h1, h2⟩ := enc_flat (w := w) (S := S) (S' := S') (tab := tab) (pl := pl) (s := a) h.1 (x := x.1) (n := n)
    obtain ⟨h3, h4⟩ := enc_flat (w := w) (S := S) (S' := S') (tab := tab) (pl := pl) (s := b) h.2 (x := x.2) (n := n + (a.enc x.1 n).2.length)
    refine ⟨fun {cs} hr => ?_, fun e he hv hent => ?_⟩
    · simp only [Sh.enc, AV.R] at hr ⊢
      obtain ⟨c1, c2, rfl, g1, g2⟩ := hr
      exact ⟨c1, c2, rfl, h1 g1, h3 g2⟩
    · simp only [Sh.enc, List.mem_append] at he
      rcases he with he | he
      · exact h2 e he hv hent
      · exact h4 e he hv hent
  | .un, h, x, n => ⟨fun {cs} hr => hr, fun e he => by simp [Sh.enc] at he⟩

theorem enc_flatO {w : World} {S S' : Nat → Prop} {tab : List Ent} {pl : List Value} : ∀ {s : Sh}, s.flatO = true → ∀ {x : s.T} {n : Nat}, ∀ e ∈ (s.enc x n).2, ∀ hv, EntAt w S tab pl e hv → EntAt w S' tab pl e hv
  | .val t, h, x, n => fun e he => by simp [Sh.enc] at he
  | .ref t, h, x, n => fun e he => by simp [Sh.enc] at he
  | .clo f s, h, x, n => (enc_flat (s := s) h (x := x) (n := n)).2
  | .own eid e, h, x, n => (enc_flat (s := .own eid e) h (x := x) (n := n)).2
  | .box s, h, x, n => (enc_flat (s := .box s) h (x := x) (n := n)).2
  | .pr a b, h, x, n => by
    simp only [Sh.flatO, Bool.and_eq_true] at h
    intro e he hv hent
    simp only [Sh.enc, List.mem_append] at he
    rcases he with he | he
    · exact enc_flatO h.1 e he hv hent
    · exact enc_flatO h.2 e he hv hent
  | .un, h, x, n => fun e he => by simp [Sh.enc] at he

/-! ### what is handed over -/

theorem dec_agg {tab : List Ent} {a : AV} {n : Nat} : ∀ {s : Sh} {p : s.T × List Nat × List Nat}, s.dec tab a = some p → (s.enc p.1 n).1.isAgg = a.isAgg := by
  intro s p h
  unfold Sh.dec at h
  split at h
  · simp only [Option.map_eq_some_iff] at h
    obtain ⟨q, hq, rfl⟩ := h
    exact (toVal_agg hq).symm
  · split at h
    · rename_i x l hq
      have := (toVal_agg hq).symm
      simp only [Option.some.injEq] at h
      subst h
      exact this
    · cases h
  · rfl
  · rfl
  · rfl
  · rfl
  · rfl
  · cases h

/-- A function and what it holds. -/
theorem fn_caps {w : World} {S : Nat → Prop} {tab : List Ent} {pl : List Value} : ∀ {caps : List (Nat × Ty)} {vs : List Value},
    (vs.length = caps.length ∧ ∀ (k i : Nat) (t : Ty), caps[k]? = some (i, t) → ∃ (a : AV) (b : Nat), tab[i]? = some (Ent.box a) ∧ pl[i]? = some (Value.pointer (some ⟨b, 0, none⟩)) ∧ vs[k]? = some (Value.pointer (some ⟨b, 0, none⟩))) ↔
    (prs (capAVs caps)).R w S tab pl vs
  | [], vs => by
    simp only [capAVs, prs, AV.R]
    constructor
    · rintro ⟨h, _⟩; exact List.length_eq_zero_iff.1 h
    · rintro rfl; exact ⟨rfl, fun k i t h => by simp at h⟩
  | (i, t) :: r, vs => by
    simp only [capAVs, prs, AV.R]
    constructor
    · rintro ⟨hl, h⟩
      obtain ⟨a, b, h1, h2, h3⟩ := h 0 i t rfl
      cases vs with
      | nil => simp at hl
      | cons v vs =>
        simp only [List.getElem?_cons_zero, Option.some.injEq] at h3
        subst h3
        exact ⟨[_], vs, rfl, ⟨a, b, h1, h2, rfl⟩, fn_caps.1 ⟨by simpa using hl, fun k i' t' hk => by simpa using h (k + 1) i' t' (by simpa using hk)⟩⟩
    · rintro ⟨c1, c2, rfl, ⟨a, b, h1, h2, rfl⟩, h⟩
      obtain ⟨g1, g2⟩ := fn_caps.2 h
      refine ⟨by simp [g1], fun k i' t' hk => ?_⟩
      cases k with
      | zero =>
        simp only [List.getElem?_cons_zero, Option.some.injEq, Prod.mk.injEq] at hk
        obtain ⟨rfl, rfl⟩ := hk
        exact ⟨a, b, h1, h2, rfl⟩
      | succ k => simpa using g2 k i' t' (by simpa using hk)

theorem caps_enc : ∀ {s : Sh}, s.isCaps = true → ∀ (x : s.T) (n : Nat), prs (capAVs (capList (s.enc x n).1)) = (s.enc x n).1
  | .un, _, _, _ => rfl
  | .pr (.box s) b, h, x, n => by
    simp only [Sh.isCaps] at h
    simp only [Sh.enc, capList, capAVs, prs, caps_enc h]
  | .pr (.val _) _, h, _, _ | .pr (.ref _) _, h, _, _ | .pr (.clo _ _) _, h, _, _ | .pr (.own _ _) _, h, _, _ | .pr (.pr _ _) _, h, _, _ | .pr .un _, h, _, _ => by simp [Sh.isCaps] at h
  | .val _, h, _, _ | .ref _, h, _, _ | .clo _ _, h, _, _ | .own _ _, h, _, _ | .box _, h, _, _ => by simp [Sh.isCaps] at h

section
variable {w : World} {S : Nat → Prop} {tab : List Ent} {pl : List Value}

/-- The callee's table where the value was handed over. -/
def At (s : Sh) (x : s.T) (n : Nat) (idx : List Nat) (pl : List Value) (tc : List Ent) (plc : List Value) : Prop :=
  ∀ j, j < s.n → tc[n + j]? = (s.enc x n).2[j]? ∧ ∀ i, idx[j]? = some i → plc[n + j]? = pl[i]?

theorem dec_sound (hp : Hp w S tab pl) {tc : List Ent} {plc : List Value} : ∀ {s : Sh} {a : AV} {x : s.T} {idx l : List Nat}, s.dec tab a = some (x, idx, l) → ∀ {n : Nat}, idx.length = s.n ∧
    ((∀ i ∈ idx, ∃ e, tab[i]? = some e ∧ e.live = true) ∧ (At s x n idx pl tc plc → ∀ {cs : List Value}, a.R w S tab pl cs →
      (s.enc x n).1.R w (fun b => S b ∨ Lent tab pl l b) tc plc cs) ∧
    (At s x n idx pl tc plc → ∀ (j : Nat) (e : Ent) (i : Nat) (hv : Value), (s.enc x n).2[j]? = some e → idx[j]? = some i → pl[i]? = some hv → EntAt w (fun b => S b ∨ Lent tab pl l b) tc plc e hv ∧
      (∀ (eid : TypeId) (t : Ty) (xs : List t.T), e = Ent.arr eid t xs → tab[i]? = some (Ent.arr eid t xs)) ∧ (∀ c : AV, e = Ent.box c → ∃ c' : AV, tab[i]? = some (Ent.box c')))) := by
  have up : ∀ {l l' : List Nat}, (∀ i ∈ l, i ∈ l') → ∀ b, (S b ∨ Lent tab pl l b) → b < w.heap.size → (S b ∨ Lent tab pl l' b) ∧ w.heap[b]? = w.heap[b]? := fun {l l'} hs b hb _ => ⟨hb.imp id fun ⟨j, hj, ho⟩ => ⟨j, hs j hj, ho⟩, rfl⟩
  have lt' : ∀ {l : List Nat} b, (S b ∨ Lent tab pl l b) → b < w.heap.size := fun {l} b hb => hb.elim (hp.stable b) fun ⟨j, _, ho⟩ => hp.lt ho
  intro s
  induction s with
  | val t =>
    intro a x idx l h n
    simp only [Sh.dec, Option.map_eq_some_iff, Prod.mk.injEq] at h
    obtain ⟨⟨y, l'⟩, hv, rfl, rfl, rfl⟩ := h
    exact ⟨rfl, fun i hi => by simp at hi, fun _ {cs} hr => toVal_sound hp hv hr, fun _ j e i hv he => by simp [Sh.enc] at he⟩
  | ref t =>
    intro a x idx l h n
    simp only [Sh.dec] at h
    split at h
    · rename_i y l' hv
      simp only [Option.some.injEq, Prod.mk.injEq] at h
      obtain ⟨rfl, rfl, rfl⟩ := h
      exact ⟨rfl, fun i hi => by simp at hi, fun _ {cs} hr => toVal_sound hp hv hr, fun _ j e i hv he => by simp [Sh.enc] at he⟩
    · cases h
  | clo f s ih =>
    intro a x idx l h n
    cases a with
    | fn g caps =>
      simp only [Sh.dec] at h
      split at h
      · rename_i hg hcap
        obtain rfl := Nat.eq_of_beq_eq_true hg
        obtain ⟨h1, h2, h3, h4⟩ := ih h (n := n)
        refine ⟨h1, h2, fun hat {cs} hr => ?_, h4⟩
        simp only [AV.R] at hr
        obtain ⟨vs, rfl, hl, hk⟩ := hr
        have := h3 hat (fn_caps.1 ⟨hl, hk⟩)
        rw [← caps_enc hcap] at this
        simp only [Sh.enc, AV.R]
        exact ⟨vs, rfl, fn_caps.2 this⟩
      · cases h
    | _ => simp [Sh.dec] at h
  | own eid t =>
    intro a x idx l h n
    cases a with
    | own i =>
      simp only [Sh.dec] at h
      split at h
      · rename_i eid' e' xs hb
        split at h
        · rename_i he; subst he
          simp only [Option.map_eq_some_iff, Prod.mk.injEq] at h
          obtain ⟨y, hy, rfl, rfl, rfl⟩ := h
          obtain ⟨he, rfl⟩ := castT_some hy
          cases he
          refine ⟨rfl, fun i' hi' => ?_, fun hat {cs} hr => ?_, fun hat j e i' hv he hi' hpl => ?_⟩
          · simp at hi'; subst hi'; exact ⟨_, hb, rfl⟩
          · obtain ⟨g1, g2⟩ := hat 0 (by simp [Sh.n])
            simp only [Nat.add_zero] at g1 g2
            simp only [AV.R] at hr
            obtain ⟨_, _, _, hv, k1, k2, k3, rfl⟩ := hr
            exact ⟨eid', t, xs, hv, by rw [g1]; rfl, by rw [g2 i rfl]; exact k2, k3, rfl⟩
          · cases j with
            | zero =>
              simp [Sh.enc] at he
              simp at hi'
              subst he hi'
              refine ⟨?_, fun eid t xs' hh => by cases hh; exact hb, fun c hh => by cases hh⟩
              obtain ⟨css, k1, k2⟩ := hp.ent _ _ _ hb hpl
              exact ⟨css, k1, k2.step (fun b hb _ => ⟨.inl hb, rfl⟩) hp.stable⟩
            | succ j => simp [Sh.enc] at he
        · cases h
      · cases h
    | _ => simp [Sh.dec] at h
  | box s ih =>
    intro a x idx l h n
    cases a with
    | bx i off t =>
      cases off with
      | succ o => simp [Sh.dec] at h
      | zero =>
        simp only [Sh.dec] at h
        split at h
        · rename_i c hb
          simp only [Option.map_eq_some_iff, Prod.mk.injEq] at h
          obtain ⟨⟨y, idx', l'⟩, hd, rfl, rfl, rfl⟩ := h
          obtain ⟨h1, h2, h3, h4⟩ := ih hd (n := n + 1)
          have hat' : At (.box s) y n (i :: idx') pl tc plc → At s y (n + 1) idx' pl tc plc := fun hat j hj => by
            obtain ⟨g1, g2⟩ := hat (j + 1) (by simp [Sh.n]; omega)
            rw [show n + (j + 1) = n + 1 + j by omega] at g1 g2
            exact ⟨by rw [g1]; simp [Sh.enc], fun i' hi' => g2 i' (by simpa using hi')⟩
          refine ⟨by simp [Sh.n, h1], fun i' hi' => ?_, fun hat {cs} hr => ?_, fun hat j e i' hv he hi' hpl => ?_⟩
          · rcases List.mem_cons.1 hi' with rfl | hi'
            · exact ⟨_, hb, rfl⟩
            · exact h2 i' hi'
          · obtain ⟨g1, g2⟩ := hat 0 (by simp [Sh.n])
            simp only [Nat.add_zero] at g1 g2
            simp only [AV.R] at hr
            obtain ⟨c', b, k1, k2, rfl⟩ := hr
            exact ⟨_, b, by rw [g1]; rfl, by rw [g2 i rfl]; exact k2, rfl⟩
          · cases j with
            | zero =>
              simp [Sh.enc] at he
              simp at hi'
              subst he hi'
              refine ⟨?_, (fun eid t xs' hh => by cases hh), fun c' hh => ⟨c, hb⟩⟩
              obtain ⟨b, cs, eid, k1, k2, k3⟩ := hp.ent _ _ _ hb hpl
              exact ⟨b, cs, eid, k1, k2, h3 (hat' hat) k3⟩
            | succ j => exact h4 (hat' hat) j e i' hv (by simpa [Sh.enc] using he) (by simpa using hi') hpl
        · cases h
    | _ => simp [Sh.dec] at h
  | pr p q ihp ihq =>
    intro a x idx l h n
    cases a with
    | pr y z =>
      simp only [Sh.dec] at h
      split at h
      · rename_i u v hu hv
        obtain ⟨u1, u2, u3⟩ := u
        obtain ⟨v1, v2, v3⟩ := v
        simp only [Option.some.injEq, Prod.mk.injEq] at h
        obtain ⟨rfl, rfl, rfl⟩ := h
        obtain ⟨h1, h2, h3, h4⟩ := ihp hu (n := n)
        obtain ⟨k1, k2, k3, k4⟩ := ihq hv (n := n + p.n)
        have hat1 : At (.pr p q) (u1, v1) n (u2 ++ v2) pl tc plc → At p u1 n u2 pl tc plc := fun hat j hj => by
          obtain ⟨g1, g2⟩ := hat j (by simp only [Sh.n]; omega)
          refine ⟨?_, fun i' hi' => g2 i' (by rw [List.getElem?_append_left (List.getElem?_eq_some_iff.1 hi').1]; exact hi')⟩
          rw [g1]
          simp only [Sh.enc]
          rw [List.getElem?_append_left (by rw [Sh.enc_length]; exact hj)]
        have hat2 : At (.pr p q) (u1, v1) n (u2 ++ v2) pl tc plc → At q v1 (n + p.n) v2 pl tc plc := fun hat j hj => by
          obtain ⟨g1, g2⟩ := hat (p.n + j) (by simp only [Sh.n]; omega)
          rw [← Nat.add_assoc] at g1 g2
          refine ⟨?_, fun i' hi' => g2 i' (by rw [List.getElem?_append_right (by omega), h1, Nat.add_sub_cancel_left]; exact hi')⟩
          rw [g1]
          simp only [Sh.enc]
          rw [List.getElem?_append_right (by rw [Sh.enc_length]; omega), Sh.enc_length, Nat.add_sub_cancel_left]
        refine ⟨by simp [Sh.n, h1, k1], fun i' hi' => (List.mem_append.1 hi').elim (h2 i') (k2 i'), fun hat {cs} hr => ?_, fun hat j e i' hv he hi' hpl => ?_⟩
        · simp only [AV.R] at hr
          obtain ⟨c1, c2, rfl, g1, g2⟩ := hr
          simp only [Sh.enc, AV.R, Sh.enc_length]
          exact ⟨c1, c2, rfl, (h3 (hat1 hat) g1).keep (up fun i hi => List.mem_append_left _ hi) lt' (Keep.refl _ _), (k3 (hat2 hat) g2).keep (up fun i hi => List.mem_append_right _ hi) lt' (Keep.refl _ _)⟩
        · simp only [Sh.enc, Sh.enc_length] at he
          by_cases hlt : j < p.n
          · rw [List.getElem?_append_left (by rw [Sh.enc_length]; exact hlt)] at he
            rw [List.getElem?_append_left (by omega)] at hi'
            obtain ⟨g1, g2⟩ := h4 (hat1 hat) j e i' hv he hi' hpl
            exact ⟨g1.keep (up fun i hi => List.mem_append_left _ hi) lt' (Keep.refl _ _) (fun _ _ _ => rfl), g2⟩
          · rw [List.getElem?_append_right (by rw [Sh.enc_length]; omega), Sh.enc_length] at he
            rw [List.getElem?_append_right (by omega), h1] at hi'
            obtain ⟨g1, g2⟩ := k4 (hat2 hat) (j - p.n) e i' hv he hi' hpl
            exact ⟨g1.keep (up fun i hi => List.mem_append_right _ hi) lt' (Keep.refl _ _) (fun _ _ _ => rfl), g2⟩
      · cases h
    | _ => simp [Sh.dec] at h
  | un =>
    intro a x idx l h n
    cases a with
    | un =>
      simp only [Sh.dec, Option.some.injEq, Prod.mk.injEq] at h
      obtain ⟨_, rfl, rfl⟩ := h
      exact ⟨rfl, fun i hi => by simp at hi, fun _ {cs} hr => hr, fun _ j e i hv he => by simp [Sh.enc] at he⟩
    | _ => simp [Sh.dec] at h

end

end Go.Lg
