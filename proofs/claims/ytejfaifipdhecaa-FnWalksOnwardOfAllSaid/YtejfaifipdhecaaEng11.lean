/-
  Freezing, making, boxing, storing.
-/
import Derived.Test.YtejfaifipdhecaaEng10b
set_option linter.unusedVariables false
set_option linter.unusedSimpArgs false
namespace Go.Lg
open Go.RowKit

theorem set_self {pl : List Value} {i : Nat} {hv : Value} (h : pl[i]? = some hv) : pl.set i hv = pl := by
  apply List.ext_getElem?
  intro j
  by_cases hj : j = i
  · subst hj; rw [List.getElem?_set_self (List.getElem?_eq_some_iff.1 h).1, h]
  · rw [List.getElem?_set_ne (Ne.symm hj)]

/-- What does not speak of box i means what it meant. -/
theorem AV.R.kill {w w' : World} {S S' : Nat → Prop} {tab tab' : List Ent} {pl pl' : List Value} {i : Nat} (hS : ∀ b, S b → b < w.heap.size → S' b ∧ w'.heap[b]? = w.heap[b]?) (h0 : ∀ b, S b → b < w.heap.size)
    (hi : ∃ c, tab[i]? = some (.box c)) (hk : ∀ j, j ≠ i → Keep tab pl tab' pl' j) : {a : AV} → {cs : List Value} → a.R w S tab pl cs → (AV.kill i a).R w' S' tab' pl' cs
  | .val t x, _, h => by simp only [AV.kill, AV.R] at h ⊢; exact Ty.R.step hS h0 h
  | .nsl _ _, _, h => h
  | .npt, _, h => h
  | .own j, _, h => by
    simp only [AV.kill, AV.R] at h ⊢
    obtain ⟨eid, e, xs, hv, h1, h2, h3, rfl⟩ := h
    have hne : j ≠ i := fun e' => by obtain ⟨c, hc⟩ := hi; rw [e', hc] at h1; cases h1
    obtain ⟨xs', h4, _⟩ := (hk j hne).arr _ _ _ h1
    exact ⟨eid, e, xs', hv, h4, (hk j hne).pl _ h2, h3, rfl⟩
  | .bx j off t, _, h => by
    simp only [AV.kill]
    cases hji : Nat.beq j i with
    | true =>
      simp only [AV.R] at h ⊢
      obtain ⟨_, _, _, _, rfl⟩ := h
      rfl
    | false =>
      have hne : j ≠ i := Nat.ne_of_beq_eq_false hji
      simp only [AV.R] at h ⊢
      obtain ⟨a, b, h1, h2, rfl⟩ := h
      obtain ⟨a', h3⟩ := (hk j hne).box _ h1
      exact ⟨a', b, h3, (hk j hne).pl _ h2, rfl⟩
  | .ela j n e, _, h => by
    simp only [AV.kill, AV.R] at h ⊢
    obtain ⟨eid, xs, g, o, m, c, h1, h2, h3, h4, rfl⟩ := h
    have hne : j ≠ i := fun e' => by obtain ⟨c', hc⟩ := hi; rw [e', hc] at h1; cases h1
    obtain ⟨xs', h5, h6⟩ := (hk j hne).arr _ _ _ h1
    exact ⟨eid, xs', g, o, m, c, h5, (hk j hne).pl _ h2, h3, by omega, rfl⟩
  | .xr j t, _, h => by
    simp only [AV.kill, AV.R] at h ⊢
    obtain ⟨eid0, eid, e, xss, outer, hs, c, h1, h2, h3, rfl⟩ := h
    have hne : j ≠ i := fun e' => by obtain ⟨c', hc⟩ := hi; rw [e', hc] at h1; cases h1
    obtain ⟨xss', h4⟩ := (hk j hne).rows _ _ _ _ h1
    exact ⟨eid0, eid, e, xss', outer, hs, c, h4, (hk j hne).pl _ h2, h3, rfl⟩
  | .fn f caps, _, h => by
    simp only [AV.kill]
    cases hc : has i (caps.map (·.1)) with
    | true =>
      simp only [AV.R] at h ⊢
      obtain ⟨vs, rfl, _⟩ := h
      rfl
    | false =>
      simp only [AV.R] at h ⊢
      obtain ⟨vs, rfl, hl, h⟩ := h
      refine ⟨vs, rfl, hl, fun k j t hk' => ?_⟩
      obtain ⟨a, b, h1, h2, h3⟩ := h k j t hk'
      have hne : j ≠ i := fun e => has_false hc (e ▸ List.mem_map.2 ⟨(j, t), List.mem_of_getElem? hk', rfl⟩)
      obtain ⟨a', h4⟩ := (hk j hne).box _ h1
      exact ⟨a', b, h4, (hk j hne).pl _ h2, h3⟩
  | .pr a b, _, h => by
    simp only [AV.kill, AV.R] at h ⊢
    obtain ⟨c1, c2, rfl, h1, h2⟩ := h
    exact ⟨c1, c2, rfl, AV.R.kill hS h0 hi hk h1, AV.R.kill hS h0 hi hk h2⟩
  | .un, _, h => h
  | .dd, _, h => h
  | .ub _, _, h => h

theorem AV.isAgg_kill {i : Nat} (a : AV) : (AV.kill i a).isAgg = a.isAgg := by
  cases a with
  | bx j o t => simp only [AV.kill]; split <;> rfl
  | fn f c => simp only [AV.kill]; split <;> rfl
  | _ => simp [AV.kill, AV.isAgg]

theorem SV.R.kill {w w' : World} {S S' : Nat → Prop} {tab tab' : List Ent} {pl pl' : List Value} {i : Nat} (hS : ∀ b, S b → b < w.heap.size → S' b ∧ w'.heap[b]? = w.heap[b]?) (h0 : ∀ b, S b → b < w.heap.size)
    (hi : ∃ c, tab[i]? = some (.box c)) (hk : ∀ j, j ≠ i → Keep tab pl tab' pl' j) {v : SV} {u : Value} (h : v.R w S tab pl u) : (SV.kill i v).R w' S' tab' pl' u := by
  cases v with
  | one a => obtain ⟨cs, h, rfl⟩ := h; exact ⟨cs, h.kill hS h0 hi hk, by rw [AV.isAgg_kill]⟩
  | tup l =>
    obtain ⟨us, rfl, hl, h⟩ := h
    refine ⟨us, rfl, by simpa using hl, fun k a v hk' hv => ?_⟩
    simp only [List.getElem?_map, Option.map_eq_some_iff] at hk'
    obtain ⟨a', ha', rfl⟩ := hk'
    obtain ⟨cs, h1, h2⟩ := h k a' v ha' hv
    exact ⟨cs, h1.kill hS h0 hi hk, by rw [AV.isAgg_kill]; exact h2⟩
  | dd => trivial

theorem look_kill {i : Nat} {t : Nat} : ∀ {env : Env}, look t (env.map fun p => (p.1, p.2.1.kill i, p.2.2)) = (look t env).map fun x => (x.1.kill i, x.2)
  | [] => rfl
  | (u, v, T) :: e => by
    simp only [List.map_cons, look_cons]
    split
    · rfl
    · exact look_kill

theorem Ent.live_kill {i : Nat} (e : Ent) : (Ent.kill i e).live = e.live := by cases e <;> rfl

theorem dstOk_kill {C : Ctx} {s : St} {G : PC} {d : Option Tmp} {i : Nat} {tab : List Ent} : dstOk C { s.kill i with tab := tab } G d = dstOk C s G d := by
  cases d with
  | none => rfl
  | some t => simp [dstOk, St.kill, List.all_map, Function.comp_def]

section
variable {P : Program} {C : Ctx} {w0 : World} {S0 O0 : Nat → Prop} {pl0 : List Value} {s : St} {a : Act} {w : World} {S : Nat → Prop} {pl : List Value}

/-- An owned row, or slice of rows, becomes stable memory. -/
theorem freeze_row (hi : Inv C w0 S0 O0 pl0 s a w S pl) (hpd : s.pd = []) {i : Nat} {e0 : Ent} {r : AV} {hv : Value} (hm : C.m ≤ i) (hb : s.tab[i]? = some e0) (hp : pl[i]? = some hv) (hbx : ∀ a, e0 ≠ .box a) (hl0 : e0.live = true) (hra : r.isAgg = false)
    (hval : AV.R w (fun b => S b ∨ Own s.tab pl i b) (setAt i .dead (s.tab.map (Ent.sub i r))) (pl.set i hv) r [top hv]) :
    Inv C w0 S0 O0 pl0 { s.sub i r with tab := setAt i .dead (s.sub i r).tab } a w (fun b => S b ∨ Own s.tab pl i b) pl ∧ (∀ j b, Own (setAt i .dead (s.tab.map (Ent.sub i r))) pl j b ↔ Own s.tab pl j b ∧ j ≠ i) ∧
      (∀ j eid e xs, j ≠ i → ((setAt i .dead (s.tab.map (Ent.sub i r)))[j]? = some (.arr eid e xs) ↔ s.tab[j]? = some (.arr eid e xs))) := by
  have hset := set_self hp
  have hown' : ∀ j b, Own (setAt i .dead (s.tab.map (Ent.sub i r))) pl j b ↔ Own s.tab pl j b ∧ j ≠ i := fun j b => by
    by_cases hj : j = i
    · subst hj
      constructor
      · rintro ⟨e1, v1, k1, k2, k3, k4⟩
        rw [setAt_self (e0 := Ent.sub j r e0) (by simp [hb])] at k1
        obtain rfl := Option.some.inj k1
        simp [Ent.live] at k2
      · exact fun ⟨_, k⟩ => absurd rfl k
    · constructor
      · rintro ⟨e1, v1, k1, k2, k3, k4⟩
        rw [setAt_ne hj] at k1
        simp only [List.getElem?_map, Option.map_eq_some_iff] at k1
        obtain ⟨e2, k1, rfl⟩ := k1
        exact ⟨⟨e2, v1, k1, by rwa [Ent.live_sub] at k2, k3, k4⟩, hj⟩
      · rintro ⟨⟨e1, v1, k1, k2, k3, k4⟩, _⟩
        exact ⟨Ent.sub i r e1, v1, by rw [setAt_ne hj]; simp [k1], by rwa [Ent.live_sub], k3, k4⟩
  have hS' : ∀ b, S b ∨ Own s.tab pl i b → b < w.heap.size := fun b hb' => hb'.elim (hi.hp.stable b) (fun ho => hi.hp.lt ho)
  have hp' := hi.hp.replace (w' := w) (S' := fun b => S b ∨ Own s.tab pl i b) (e' := .dead) (hv' := hv) (r := r) hb hl0 hp hbx hval
    (fun b hb' => ⟨.inl hb', rfl⟩) hS' (fun j b hj ho => ⟨rfl, fun k => k.elim (hi.hp.off j b ho) fun ho' => hj (hi.hp.inj j i b ho ho')⟩) (fun b hl => by simp [Ent.live] at hl) trivial
  rw [hset] at hp'
  rw [hset] at hval
  refine ⟨⟨hp', hi.fr, fun j b ho => hi.own j b ((hown' j b).1 ho).1, hi.fix, fun j b hj ho => hi.fresh j b hj ((hown' j b).1 ho).1, fun b hb' => .inl (hi.up b hb'), fun b hb' => hb'.elim (hi.sub b) fun ho => .inr (hi.fresh i b hm ho), ?_, hi.size, hi.defers, PendsR.nil hpd⟩,
    hown', fun j eid' e' xs' hj => ?_⟩
  · exact hi.env.sub (fun b hb' _ => ⟨.inl hb', rfl⟩) hi.hp.stable (fun a ha => by rw [hb] at ha; exact hbx a (Option.some.inj ha)) (fun j hj => by have := Keep.replace (tab := s.tab) (pl := pl) (e' := .dead) (r := r) (hv' := hv) hj; rwa [hset] at this) hra
      (fun hv1 hp1 => by rw [hp] at hp1; obtain rfl := Option.some.inj hp1; exact hval)
  · rw [setAt_ne hj, List.getElem?_map, Option.map_eq_some_iff]
    constructor
    · rintro ⟨e2, k1, k2⟩
      cases e2 with
      | arr => simp only [Ent.sub] at k2; rw [k1, k2]
      | box => simp [Ent.sub] at k2
      | rows => simp [Ent.sub] at k2
      | dead => simp [Ent.sub] at k2
    · intro k; exact ⟨_, k, rfl⟩

theorem freeze_sound (hi : Inv C w0 S0 O0 pl0 s a w S pl) (hpd : s.pd = []) {i : Nat} {s' : St} (h : s.freeze C.m i = some s') :
    Inv C w0 S0 O0 pl0 s' a w (fun b => S b ∨ Own s.tab pl i b) pl ∧ (∀ j b, Own s'.tab pl j b ↔ Own s.tab pl j b ∧ j ≠ i) ∧ s'.tab.length = s.tab.length ∧
      (∀ G d, dstOk C s' G d = dstOk C s G d) ∧ (∀ j eid e xs, j ≠ i → (s'.tab[j]? = some (.arr eid e xs) ↔ s.tab[j]? = some (.arr eid e xs))) := by
  have lent : ∀ {t : Ty} {cs : List Value} {x : t.T}, t.R w (fun b => S b ∨ Lent s.tab pl [i] b) cs x → t.R w (fun b => S b ∨ Own s.tab pl i b) cs x := fun {t cs x} h => by
    have one : ∀ b, Lent s.tab pl [i] b → Own s.tab pl i b := fun b ⟨j, hj, ho⟩ => by simp at hj; subst hj; exact ho
    exact Ty.R.step (fun b hb' _ => ⟨hb'.imp id (one b), rfl⟩) (fun b hb' => hb'.elim (hi.hp.stable b) fun ho => hi.hp.lt (one b ho)) h
  unfold St.freeze at h
  split at h
  · rename_i eid e xs hm hb
    obtain rfl := Option.some.inj h
    obtain ⟨hv, hp, hent⟩ := hi.hp.pl hb
    have hvf : ∃ ad n c, hv = .slice ad n c := by
      obtain ⟨css, hrow, hel⟩ := hent
      rcases hrow.2 with ⟨h2, _⟩ | ⟨g, o, cap, cur, h2, _⟩
      · exact ⟨_, _, _, h2⟩
      · exact ⟨_, _, _, h2⟩
    have hval := lent (toVal_sound hi.hp (t := .sl e) (a := .own i) (x := xs) (l := [i]) (cs := [hv]) (by simp [AV.toVal, hb, castT]) ⟨eid, e, xs, hv, hb, hp, hvf, rfl⟩)
    obtain ⟨ad, n, c, rfl⟩ := hvf
    obtain ⟨g1, g2, g3⟩ := freeze_row hi hpd (r := .val (.sl e) xs) (Nat.le_of_ble_eq_true hm) hb hp (by simp) rfl rfl (by simp only [AV.R]; exact hval)
    exact ⟨g1, g2, by simp [length_setAt, St.sub], fun G d => dstOk_sub, g3⟩
  · rename_i eid0 eid e xss hm hb
    obtain rfl := Option.some.inj h
    obtain ⟨hv, hp, hent⟩ := hi.hp.pl hb
    obtain ⟨outer, hs, rfl, _, ⟨ad, n, c, rfl⟩, _⟩ := hent
    have hval := lent (toVal_sound hi.hp (t := .sl (.sl e)) (a := .xr i .top) (x := xss) (l := [i]) (cs := [.slice ad n c]) (by simp [AV.toVal, hb, castT]) ⟨eid0, eid, e, xss, _, hs, _, hb, hp, rfl, rfl⟩)
    obtain ⟨g1, g2, g3⟩ := freeze_row hi hpd (r := .val (.sl (.sl e)) xss) (Nat.le_of_ble_eq_true hm) hb hp (by simp) rfl rfl (by simp only [AV.R]; exact hval)
    exact ⟨g1, g2, by simp [length_setAt, St.sub], fun G d => dstOk_sub, g3⟩
  · rename_i c hm hb
    obtain rfl := Option.some.inj h
    obtain ⟨hv, hp, hent⟩ := hi.hp.pl hb
    have hna : ∃ c, s.tab[i]? = some (.box c) := ⟨_, hb⟩
    have hkeep : ∀ j, j ≠ i → Keep s.tab pl (setAt i .dead (s.tab.map (Ent.kill i))) pl j := fun j hj =>
      ⟨fun v h => h, fun eid e xs h => ⟨xs, by rw [setAt_ne hj, List.getElem?_map, h]; rfl, rfl⟩, fun a h => ⟨a.kill i, by rw [setAt_ne hj, List.getElem?_map, h]; rfl⟩, fun _ _ _ xss h => ⟨xss, by rw [setAt_ne hj, List.getElem?_map, h]; rfl⟩⟩
    have hown' : ∀ j b, Own (setAt i .dead (s.tab.map (Ent.kill i))) pl j b ↔ Own s.tab pl j b ∧ j ≠ i := fun j b => by
      by_cases hj : j = i
      · subst hj
        constructor
        · rintro ⟨e1, v1, k1, k2, k3, k4⟩
          rw [setAt_self (e0 := Ent.kill j (.box c)) (by simp [hb])] at k1
          obtain rfl := Option.some.inj k1
          simp [Ent.live] at k2
        · exact fun ⟨_, k⟩ => absurd rfl k
      · constructor
        · rintro ⟨e1, v1, k1, k2, k3, k4⟩
          rw [setAt_ne hj] at k1
          simp only [List.getElem?_map, Option.map_eq_some_iff] at k1
          obtain ⟨e2, k1, rfl⟩ := k1
          exact ⟨⟨e2, v1, k1, by rwa [Ent.live_kill] at k2, k3, k4⟩, hj⟩
        · rintro ⟨⟨e1, v1, k1, k2, k3, k4⟩, _⟩
          exact ⟨Ent.kill i e1, v1, by rw [setAt_ne hj]; simp [k1], by rwa [Ent.live_kill], k3, k4⟩
    have hS' : ∀ b, S b ∨ Own s.tab pl i b → b < w.heap.size := fun b hb' => hb'.elim (hi.hp.stable b) (fun ho => hi.hp.lt ho)
    have hS : ∀ b, S b → b < w.heap.size → (S b ∨ Own s.tab pl i b) ∧ w.heap[b]? = w.heap[b]? := fun b hb _ => ⟨.inl hb, rfl⟩
    have hp' : Hp w (fun b => S b ∨ Own s.tab pl i b) (setAt i .dead (s.tab.map (Ent.kill i))) pl := by
      refine ⟨by simp [length_setAt, hi.hp.len], fun j e v h1 h2 => ?_, fun j k b h1 h2 => hi.hp.inj j k b ((hown' j b).1 h1).1 ((hown' k b).1 h2).1, hS', fun j b h1 hb' => ?_⟩
      · by_cases hj : j = i
        · subst hj
          rw [setAt_self (e0 := Ent.kill j (.box c)) (by simp [hb])] at h1
          obtain rfl := Option.some.inj h1
          trivial
        · rw [setAt_ne hj, List.getElem?_map, Option.map_eq_some_iff] at h1
          obtain ⟨e1, h1, rfl⟩ := h1
          have hent1 := hi.hp.ent j e1 v h1 h2
          cases e1 with
          | arr eid e xs =>
            obtain ⟨css, k1, k2⟩ := hent1
            exact ⟨css, k1, k2.step hS hi.hp.stable⟩
          | box a =>
            obtain ⟨b', cs, eid, k1, k2, k3⟩ := hent1
            exact ⟨b', cs, eid, k1, k2, k3.kill hS hi.hp.stable hna hkeep⟩
          | rows eid0 eid e xss =>
            obtain ⟨outer, hs, q1, q2, q3, q4, q5, q6⟩ := hent1
            exact ⟨outer, hs, q1, q2, q3, fun j h xs hj hx => by obtain ⟨p0, css, p1, p2⟩ := q4 j h xs hj hx; exact ⟨p0, css, p1, p2.step hS hi.hp.stable⟩, q5, q6⟩
          | dead => trivial
      · obtain ⟨h1, h2⟩ := (hown' j b).1 h1
        rcases hb' with hb' | hb'
        · exact hi.hp.off j b h1 hb'
        · exact h2 (hi.hp.inj j i b h1 hb')
    refine ⟨⟨hp', hi.fr, fun j b ho => hi.own j b ((hown' j b).1 ho).1, hi.fix, fun j b hj ho => hi.fresh j b hj ((hown' j b).1 ho).1, fun b hb' => .inl (hi.up b hb'), fun b hb' => hb'.elim (hi.sub b) fun ho => .inr (hi.fresh i b (Nat.le_of_ble_eq_true hm) ho), fun t v T hl hT => ?_, hi.size, hi.defers, PendsR.nil hpd⟩,
      hown', by simp [length_setAt, St.kill], fun G d => dstOk_kill, fun j eid' e' xs' hj => ?_⟩
    · simp only [St.kill, look_kill, Option.map_eq_some_iff, Prod.mk.injEq] at hl
      obtain ⟨⟨v', T'⟩, h1, rfl, rfl⟩ := hl
      obtain ⟨u, h2, h3⟩ := hi.env t v' T' h1 hT
      exact ⟨u, h2, h3.kill hS hi.hp.stable hna hkeep⟩
    · show (setAt i .dead (s.tab.map (Ent.kill i)))[j]? = _ ↔ _
      rw [setAt_ne hj, List.getElem?_map, Option.map_eq_some_iff]
      constructor
      · rintro ⟨e2, k1, k2⟩
        cases e2 with
        | arr => simp only [Ent.kill] at k2; rw [k1, k2]
        | box => simp [Ent.kill] at k2
        | rows => simp [Ent.kill] at k2
        | dead => simp [Ent.kill] at k2
      · intro k; exact ⟨_, k, rfl⟩
  · cases h

theorem freeze_pd {s s' : St} {m i : Nat} (h : s.freeze m i = some s') : s'.pd = s.pd := by
  unfold St.freeze at h
  split at h <;> first | (cases h; rfl) | cases h

theorem freezes_sound : ∀ {l : List Nat} {s : St} {S : Nat → Prop}, Inv C w0 S0 O0 pl0 s a w S pl → s.pd = [] → ∀ {s' : St}, s.freezes C.m l = some s' →
    ∃ S', Inv C w0 S0 O0 pl0 s' a w S' pl ∧ s'.pd = [] ∧ (∀ b, S' b ↔ S b ∨ Lent s.tab pl l b) ∧ (∀ j b, Own s'.tab pl j b ↔ Own s.tab pl j b ∧ j ∉ l) ∧ s'.tab.length = s.tab.length ∧
      (∀ G d, dstOk C s' G d = dstOk C s G d) ∧ (∀ j eid e xs, j ∉ l → (s'.tab[j]? = some (.arr eid e xs) ↔ s.tab[j]? = some (.arr eid e xs)))
  | [], s, S, hi, hpd, s', h => by
    obtain rfl := Option.some.inj h
    exact ⟨S, hi, hpd, fun b => by simp [Lent], fun j b => by simp, rfl, fun _ _ => rfl, fun _ _ _ _ _ => Iff.rfl⟩
  | i :: r, s, S, hi, hpd, s', h => by
    simp only [St.freezes] at h
    split at h
    · rename_i hh
      have hm := has_iff.1 hh
      obtain ⟨S', h1, h1p, h2, h3, h4, h5, h6⟩ := freezes_sound hi hpd h
      refine ⟨S', h1, h1p, fun b => (h2 b).trans ?_, fun j b => (h3 j b).trans ?_, h4, h5, fun j eid e xs hj => h6 j eid e xs fun k => hj (List.mem_cons_of_mem _ k)⟩
      · constructor
        · rintro (k | ⟨j, hj, ho⟩)
          · exact .inl k
          · exact .inr ⟨j, List.mem_cons_of_mem _ hj, ho⟩
        · rintro (k | ⟨j, hj, ho⟩)
          · exact .inl k
          · rcases List.mem_cons.1 hj with rfl | hj
            · exact .inr ⟨_, hm, ho⟩
            · exact .inr ⟨j, hj, ho⟩
      · constructor
        · rintro ⟨k1, k2⟩
          exact ⟨k1, fun k => (List.mem_cons.1 k).elim (fun e => k2 (e ▸ hm)) k2⟩
        · rintro ⟨k1, k2⟩
          exact ⟨k1, fun k => k2 (List.mem_cons_of_mem _ k)⟩
    · rename_i hh
      have hm := has_false hh
      split at h
      · rename_i s1 hs1
        obtain ⟨g1, g2, g3, g4, g5⟩ := freeze_sound hi hpd hs1
        obtain ⟨S', h1, h1p, h2, h3, h4, h5, h6⟩ := freezes_sound g1 ((freeze_pd hs1).trans hpd) h
        refine ⟨S', h1, h1p, fun b => (h2 b).trans ?_, fun j b => (h3 j b).trans ?_, h4.trans g3, fun G d => (h5 G d).trans (g4 G d), fun j eid e xs hj => ?_⟩
        · constructor
          · rintro ((k | k) | ⟨j, hj, ho⟩)
            · exact .inl k
            · exact .inr ⟨i, by simp, k⟩
            · exact .inr ⟨j, List.mem_cons_of_mem _ hj, ((g2 j b).1 ho).1⟩
          · rintro (k | ⟨j, hj, ho⟩)
            · exact .inl (.inl k)
            · rcases List.mem_cons.1 hj with rfl | hj
              · exact .inl (.inr ho)
              · exact .inr ⟨j, hj, (g2 j b).2 ⟨ho, fun e => hm (e ▸ hj)⟩⟩
        · rw [g2]
          constructor
          · rintro ⟨⟨k1, k2⟩, k3⟩
            exact ⟨k1, fun k => (List.mem_cons.1 k).elim k2 k3⟩
          · rintro ⟨k1, k2⟩
            exact ⟨⟨k1, fun e => k2 (e ▸ by simp)⟩, fun k => k2 (List.mem_cons_of_mem _ k)⟩
        · rw [h6 j eid e xs (fun k => hj (List.mem_cons_of_mem _ k)), g5 j eid e xs (fun k => hj (k ▸ by simp))]
      · cases h

theorem madeCells_flat (zs : List Value) (n : Nat) : (madeCells zs.toArray (n * zs.length)).toList = (List.replicate n zs).flatten := by
  apply List.ext_getElem?
  intro j
  by_cases hj : j < n * zs.length
  · have hpos : 0 < zs.length := by
      rcases Nat.eq_zero_or_pos zs.length with h | h
      · rw [h] at hj; simp at hj
      · exact h
    have hmod : j % zs.length < zs.length := Nat.mod_lt _ hpos
    have hdiv : j / zs.length < n := (Nat.div_lt_iff_lt_mul hpos).2 hj
    have h1 := flatten_at (size := zs.length) (l := List.replicate n zs) (fun i cs hi => by rw [List.getElem?_replicate] at hi; split at hi <;> simp at hi; rw [hi]) (m := j / zs.length) (cm := zs) (by rw [List.getElem?_replicate, if_pos hdiv]) (q := j % zs.length) (v := zs[j % zs.length]) (List.getElem?_eq_getElem hmod)
    rw [show j / zs.length * zs.length + j % zs.length = j by rw [Nat.mul_comm]; exact Nat.div_add_mod j zs.length] at h1
    rw [h1]
    simp [madeCells, hj, hmod]
  · rw [List.getElem?_eq_none (by simp [madeCells]; omega), List.getElem?_eq_none]
    rw [flatten_length (size := zs.length) (fun i cs hi => by rw [List.getElem?_replicate] at hi; split at hi <;> simp at hi; rw [hi])]
    simp; omega

/-- A new block, and an entry for it. -/
theorem Inv.new (hi : Inv C w0 S0 O0 pl0 s a w S pl) (hpd : s.pd = []) {cs : Array Value} {eid : TypeId} {e : Ent} {hv : Value} (hb : ∀ b, blks hv b → b = w.heap.size)
    (he : ∀ (h : Hp (w.alloc (.cells cs eid)) S s.tab pl), EntAt (w.alloc (.cells cs eid)) S (s.tab ++ [e]) (pl ++ [hv]) e hv) :
    Inv C w0 S0 O0 pl0 { s with tab := s.tab ++ [e] } a (w.alloc (.cells cs eid)) S (pl ++ [hv]) := by
  have hfr := Fr.alloc w (fun b => ∃ i, Own s.tab pl i b) (.cells cs eid)
  have hall : ∀ b, b < w.heap.size → (w.alloc (.cells cs eid)).heap[b]? = w.heap[b]? := fun b hb' => Below.heap_alloc _ _ _ hb'
  have hp1 : Hp (w.alloc (.cells cs eid)) S s.tab pl := hi.hp.grow (fun b hb => hb) (fun b hb => Nat.lt_of_lt_of_le (hi.hp.stable b hb) hfr.size) hi.hp.off (fun b hb => hall b (hb.elim (hi.hp.stable b) (fun ⟨i, ho⟩ => hi.hp.lt ho)))
  have hp' : Hp (w.alloc (.cells cs eid)) S (s.tab ++ [e]) (pl ++ [hv]) := hp1.push (he hp1) fun b _ k => by
    rw [hb b k]
    exact ⟨fun hb => Nat.lt_irrefl _ (hi.hp.stable _ hb), fun j ho => Nat.lt_irrefl _ (hi.hp.lt ho)⟩
  refine hi.to hp' hfr (fun j b ho => ?_) (fun b hb => hb) (fun j hj hv1 hv2 => by rw [List.getElem?_append_left (List.getElem?_eq_some_iff.1 hv2).1]; exact hv2) ?_ (fun b hb => .inl hb)
  · rcases (own_push hi.hp.len).1 ho with k | ⟨_, _, k⟩
    · exact .inl k
    · exact .inr (Nat.le_of_eq (hb b k).symm)
  · exact hi.env.keep (fun b hb _ => ⟨hb, hall b (hi.hp.stable b hb)⟩) hi.hp.stable (Keep.push hi.hp.len _ _)

/-- A new block of stable memory. -/
theorem Inv.newS (hi : Inv C w0 S0 O0 pl0 s a w S pl) (hpd : s.pd = []) (o : Obj) : Inv C w0 S0 O0 pl0 s a (w.alloc o) (fun b => S b ∨ b = w.heap.size) pl := by
  have hfr := Fr.alloc w (fun b => ∃ i, Own s.tab pl i b) o
  have hall : ∀ b, b < w.heap.size → (w.alloc o).heap[b]? = w.heap[b]? := fun b hb' => Below.heap_alloc _ _ _ hb'
  have hp1 : Hp (w.alloc o) (fun b => S b ∨ b = w.heap.size) s.tab pl := hi.hp.grow (fun b hb => .inl hb) (fun b hb => hb.elim (fun hb => Nat.lt_of_lt_of_le (hi.hp.stable b hb) hfr.size) (fun hb => by subst hb; simp))
    (fun i b ho => fun k => k.elim (hi.hp.off i b ho) (fun e => Nat.lt_irrefl _ (e ▸ hi.hp.lt ho))) (fun b hb => hall b (hb.elim (hi.hp.stable b) (fun ⟨i, ho⟩ => hi.hp.lt ho)))
  refine hi.to hp1 hfr (fun j b ho => .inl ho) (fun b hb => .inl hb) (fun _ _ _ h => h) ?_ (fun b hb => hb.elim .inl (fun e => .inr (.inl (Nat.le_of_eq e.symm))))
  exact hi.env.keep (fun b hb _ => ⟨.inl hb, hall b (hi.hp.stable b hb)⟩) hi.hp.stable (Keep.refl _ _)

theorem makeEnt_sound (hT : thOk P C = true) (he : EnvR w S s.tab pl s.env a.tmps) {dst : Option Tmp} {t : TypeId} {l c : Operand} {ent : Ent} (h : makeEnt C s dst t l c = some (true, ent)) :
    ∃ hv hvp cs eid, (Instr.makeSlice t (a.eval l) (a.eval c)).run P w = .ok hv (w.alloc (.cells cs eid)) ∧ Made ent hv hvp (w.alloc (.cells cs eid)) w.heap.size := by
  unfold makeEnt at h
  split at h
  · rename_i e eid k n hf hs hc
    change Int at n
    obtain ⟨ti, hu, hti, hsz⟩ := thOk_elem hT hf hs
    have hevc := av_int he holds_nil hc
    split at h
    · rename_i m hm
      have hall : 0 ≤ n ∧ n ≤ (LIM : Int) ∧ (m = 0 ∨ m = n.toNat) ∧ ∃ kl, a.eval l = .int kl m := by
        have hlim : 0 ≤ n ∧ n ≤ (LIM : Int) := by
          split at h <;> (simp only [Option.some.injEq, Prod.mk.injEq, decide_eq_true_eq] at h; exact h.1)
        refine ⟨hlim.1, hlim.2, ?_⟩
        split at hm
        · rename_i hso
          obtain rfl := Option.some.inj hm
          have hlc : l = c := by
            unfold sameOp at hso
            split at hso
            · rw [Nat.eq_of_beq_eq_true hso]
            · simp only [Bool.and_eq_true, decide_eq_true_eq] at hso; rw [hso.1, hso.2]
            · cases hso
          subst hlc
          exact ⟨.inr rfl, k, by rw [hevc, Int.toNat_of_nonneg hlim.1]⟩
        · split at hm
          · rename_i hz
            obtain rfl := Option.some.inj hm
            obtain ⟨kl, rfl⟩ : ∃ kl, l = .const (.int kl 0) := by
              unfold isZero at hz
              split at hz
              · exact ⟨_, rfl⟩
              · cases hz
            exact ⟨.inl rfl, kl, rfl⟩
          · cases hm
      obtain ⟨h0, hn, hm', kl, hevl⟩ := hall
      have hn : n ≤ 1099511627776 := by simpa [LIM] using hn
      have hby := hti.bytes
      have hrun := run_make (P := P) w t eid ti _ hu hti.info hti.zero kl k m n (by omega) (by omega) (by
        have : (ti.bytes : Int) * n ≤ 128 * 1099511627776 := by
          have h1 : (ti.bytes : Int) ≤ 128 := by omega
          calc (ti.bytes : Int) * n ≤ 128 * n := Int.mul_le_mul_of_nonneg_right h1 h0
            _ ≤ 128 * 1099511627776 := Int.mul_le_mul_of_nonneg_left hn (by omega)
        omega) (by omega)
      rw [← hevl, ← hevc] at hrun
      -- the row, whatever it is taken for
      have hrow : Row (w.alloc (.cells (madeCells (pack e.isAgg e.zero).cells (n.toNat * ti.size)) eid)) eid e.size (.slice (some ⟨w.heap.size, 0, none⟩) m n.toNat) m (List.replicate m e.zero).flatten := by
        refine ⟨?_, .inr ⟨w.heap.size, 0, n.toNat, _, ?_, _root_.Go.heap_alloc_new w _, ?_, ?_, ?_, ?_⟩⟩
        · rw [flatten_length (size := e.size) (fun i cs hi => by rw [List.getElem?_replicate] at hi; split at hi <;> simp at hi; rw [← hi, e.zero_length])]
          simp
        · simp
        · omega
        · simp only [maxLen]; omega
        · rw [size_madeCells, hti.size]; omega
        · rw [zero_cells, hti.size, ← e.zero_length, madeCells_flat, List.drop_zero]
          have : n.toNat = m + (n.toNat - m) := by omega
          rw [this, ← List.replicate_append_replicate, List.flatten_append]
          rw [show m * e.zero.length = ((List.replicate m e.zero).flatten).length by rw [flatten_length (size := e.zero.length) (fun i cs hi => by rw [List.getElem?_replicate] at hi; split at hi <;> simp at hi; rw [hi])]; simp]
          exact List.take_left
      split at h
      · rename_i e1 eid1 hmu he1
        simp only [Option.some.injEq, Prod.mk.injEq] at h
        obtain ⟨_, rfl⟩ := h
        have hfl : (List.replicate m (Ty.sl e1).zero).flatten = List.replicate m (.slice none 0 0) := by
          simp only [Ty.zero]
          induction m with
          | zero => rfl
          | succ m ih => simp [List.replicate_succ]
        rw [hfl] at hrow
        refine ⟨_, .tuple (.slice (some ⟨w.heap.size, 0, none⟩) m n.toNat :: List.replicate m (.slice none 0 0)).toArray, _, _, hrun, fun S tab pl => ⟨_, _, rfl, by rw [List.length_replicate]; exact hrow, ⟨_, _, _, rfl⟩, fun j h xs hj hx => ?_, fun j j' b h h' hj _ hb => ?_, fun j b h hj hb => ?_⟩, fun b' hb' => ?_, fun w' S tab pl n' h1 h2 => ⟨eid, eid1, e1, _, _, _, _, h1, h2, rfl, rfl⟩, by simp, rfl⟩
        · rw [List.getElem?_replicate] at hj hx
          split at hj
          · rename_i hlt
            rw [if_pos hlt] at hx
            obtain rfl := Option.some.inj hj
            obtain rfl := Option.some.inj hx
            exact ⟨⟨_, _, _, rfl⟩, [], ⟨by simp, .inl ⟨rfl, rfl⟩⟩, rfl, fun i cs x hi => by simp at hi⟩
          · cases hj
        · rw [List.getElem?_replicate] at hj
          split at hj
          · obtain rfl := Option.some.inj hj; simp [blk] at hb
          · cases hj
        · rw [List.getElem?_replicate] at hj
          split at hj
          · obtain rfl := Option.some.inj hj; simp [blk] at hb
          · cases hj
        · obtain ⟨h, hm, hb⟩ := hb'
          simp only [List.mem_cons] at hm
          rcases hm with rfl | hm
          · simp [blk] at hb; exact hb.symm
          · rw [List.eq_of_mem_replicate hm] at hb; simp [blk] at hb
      · simp only [Option.some.injEq, Prod.mk.injEq] at h
        obtain ⟨_, rfl⟩ := h
        rename_i e' _ _ _ _
        refine ⟨_, .slice (some ⟨w.heap.size, 0, none⟩) m n.toNat, _, _, hrun, fun S tab pl => ⟨List.replicate m (Ty.zero _), by rw [List.length_replicate]; exact hrow, by simp, fun i cs x h1 h2 => ?_⟩, fun b' hb' => by simp [Lg.blks, blk] at hb'; exact hb'.symm, fun w' S tab pl n' h1 h2 => ⟨eid, _, _, _, h1, h2, ⟨_, _, _, rfl⟩, rfl⟩, by simp, rfl⟩
        rw [List.getElem?_replicate] at h1 h2
        split at h1
        · simp at h1
          rename_i hlt
          rw [if_pos hlt] at h2
          simp at h2
          rw [← h1, ← h2]
          exact Ty.R_zero _ _ _
        · cases h1
    · cases h
  · cases h

theorem opMake_sound (hT : thOk P C = true) (hi : Inv C w0 S0 O0 pl0 s a w S pl) (hpd : s.pd = []) {dst : Option Tmp} {t : TypeId} {l c : Operand} {g : Option Bool} {s' : St} (h : opMake C s dst t l c = some (g, s')) (hg : g ≠ some false)
    (hd : dstOk C s [] dst = true) : ∃ u w', (Instr.makeSlice t (a.eval l) (a.eval c)).run P w = .ok u w' ∧ ∃ S' pl', Inv C w0 S0 O0 pl0 s' (a.put dst u) w' S' pl' := by
  unfold opMake at h
  split at h
  · rename_i g' ent hme
    simp only [Option.some.injEq, Prod.mk.injEq] at h
    obtain ⟨rfl, rfl⟩ := h
    have hgt : g' = true := by cases g' <;> simp_all
    subst hgt
    obtain ⟨hv, hvp, cs, eid, hrun, hmd⟩ := makeEnt_sound hT hi.env hme
    have hi1 := hi.new hpd (cs := cs) (eid := eid) (e := ent) (hv := hvp) hmd.blks (fun _ => hmd.at_ _ _ _)
    exact ⟨_, _, hrun, S, _, hi1.put (by cases dst <;> exact hd) (.inl ⟨[hv], hmd.av _ _ _ _ _ (by simp) (by rw [← hi.hp.len]; simp), by rw [entAV_agg]; rfl⟩)⟩
  · cases h

end

end Go.Lg
