/-
  Calls, the second part: what a function does, as its caller sees it.
-/
import Derived.Test.YtejfaifipdhecaaEng13
set_option linter.unusedVariables false
set_option linter.unusedSimpArgs false
namespace Go.Lg
open Go.RowKit

def ArgsR (w : World) (S : Nat → Prop) (tab : List Ent) (pl : List Value) (as : List AV) (vs : List Value) : Prop :=
  vs.length = as.length ∧ ∀ (i : Nat) (a : AV) (v : Value), as[i]? = some a → vs[i]? = some v → ∃ cs, a.R w S tab pl cs ∧ v = pack a.isAgg cs

/-- A function came back with r and v; what it was handed reads as x' now. -/
def Back (ins res : Sh) (many : Bool) (x : ins.T) (r : res.T) (x' : ins.T) (w : World) (S : Nat → Prop) (pl : List Value) (v : Value) (w' : World) : Prop :=
  ∃ (S' : Nat → Prop) (pl' : List Value), Hp w' S' ((ins.enc x' 0).2 ++ (res.enc r ins.n).2) pl' ∧ (resSV many (res.enc r ins.n).1).R w' S' ((ins.enc x' 0).2 ++ (res.enc r ins.n).2) pl' v ∧
    Fr w (fun b => ∃ i, Own (ins.enc x 0).2 pl i b) w' ∧ (∀ b, S b → S' b) ∧ (∀ b, S' b → S b ∨ w.heap.size ≤ b) ∧
    (∀ i b : Nat, Own ((ins.enc x' 0).2 ++ (res.enc r ins.n).2) pl' i b → (∃ j, Own (ins.enc x 0).2 pl j b) ∨ w.heap.size ≤ b) ∧
    (∀ i b : Nat, ins.n ≤ i → Own ((ins.enc x' 0).2 ++ (res.enc r ins.n).2) pl' i b → w.heap.size ≤ b) ∧
    (∀ k ∈ ins.fx 0, ∀ hv : Value, pl[k]? = some hv → pl'[k]? = some hv)

def Does (P : Program) (f : FuncId) (ins res : Sh) (many : Bool) (x : ins.T) (r : res.T) (x' : ins.T) : Prop :=
  ∀ (w : World) (S : Nat → Prop) (pl vs : List Value), Hp w S (ins.enc x 0).2 pl → ArgsR w S (ins.enc x 0).2 pl (ins.enc x 0).1.list vs →
    Calls P f vs.toArray w fun e w' => ∃ v, e = .returned v ∧ Back ins res many x r x' w S pl v w'

def Sh.chain : Sh → Bool
  | .pr _ b => b.chain
  | .un => true
  | _ => false

structure Meets (P : Program) (f : FuncId) (sp : Spec) : Prop where
  go : ∀ (args : Array Value) (w : World), (callFunc f args).run P w = .ok (.enter f args) w
  chain : sp.ins.chain = true
  pure : (match sp.fn with | .inl _ => sp.ins.pure | .inr _ => true) = true
  does : match sp.fn with
    | .inl fn => ∀ x r, fn x = some r → Does P f sp.ins sp.res sp.many x r x
    | .inr fn => ∀ x r x', fn x = some (r, x') → Does P f sp.ins sp.res sp.many x r x'

theorem Sh.pure_n : ∀ {s : Sh}, s.pure = true → s.n = 0
  | .val _, _ => rfl
  | .ref _, _ => rfl
  | .clo _ _, h => by simp [Sh.pure] at h
  | .un, _ => rfl
  | .pr a b, h => by
    simp only [Sh.pure, Bool.and_eq_true] at h
    simp [Sh.n, Sh.pure_n h.1, Sh.pure_n h.2]
  | .own _ _, h => by simp [Sh.pure] at h
  | .box _, h => by simp [Sh.pure] at h

/-! ### lists -/

theorem pos_some {i : Nat} : ∀ {l : List Nat} {k : Nat}, pos i l = some k → l[k]? = some i
  | [], k, h => by simp [pos] at h
  | j :: r, k, h => by
    simp only [pos] at h
    split at h
    · rename_i hb
      obtain rfl := Option.some.inj h
      rw [Nat.eq_of_beq_eq_true hb]; rfl
    · split at h
      · rename_i n hn
        obtain rfl := Option.some.inj h
        simpa using pos_some hn
      · cases h

theorem pos_at {i : Nat} : ∀ {l : List Nat} {k : Nat}, nodup l = true → l[k]? = some i → pos i l = some k
  | [], k, _, h => by simp at h
  | j :: r, k, hn, h => by
    obtain ⟨h1, h2⟩ := nodup_cons hn
    cases k with
    | zero =>
      simp at h; subst h
      simp [pos]
    | succ k =>
      simp at h
      have hm : i ∈ r := List.mem_of_getElem? h
      have hne : j ≠ i := fun e => h1 (e ▸ hm)
      have : Nat.beq j i = false := by
        cases hb : Nat.beq j i with
        | true => exact absurd (Nat.eq_of_beq_eq_true hb) hne
        | false => rfl
      simp [pos, this, pos_at h2 h]

theorem pos_none {i : Nat} : ∀ {l : List Nat}, pos i l = none → i ∉ l
  | [], _ => by simp
  | j :: r, h => by
    simp only [pos] at h
    split at h
    · cases h
    · rename_i hb
      split at h
      · cases h
      · rename_i hn
        intro hm
        rcases List.mem_cons.1 hm with rfl | hm
        · exact Nat.ne_of_beq_eq_false hb rfl
        · exact pos_none hn hm

theorem length_setMany : ∀ {tab : List Ent} {l : List Nat} {es : List Ent}, (setMany tab l es).length = tab.length
  | tab, [], _ => by simp [setMany]
  | tab, _ :: _, [] => by simp [setMany]
  | tab, i :: l, e :: es => by simp [setMany, length_setMany, length_setAt]

theorem setMany_get {i : Nat} : ∀ {l : List Nat} {es tab : List Ent}, nodup l = true → es.length = l.length → (∀ j ∈ l, j < tab.length) →
    (setMany tab l es)[i]? = match pos i l with | some k => es[k]? | none => tab[i]?
  | [], es, tab, _, _, _ => by simp [setMany, pos]
  | j :: r, [], tab, _, h, _ => by simp at h
  | j :: r, e :: es, tab, hn, hl, hlt => by
    obtain ⟨h1, h2⟩ := nodup_cons hn
    simp only [setMany]
    rw [setMany_get h2 (by simpa using hl) (fun q hq => by rw [length_setAt]; exact hlt q (List.mem_cons_of_mem _ hq))]
    simp only [pos]
    cases hb : Nat.beq j i with
    | true =>
      obtain rfl := Nat.eq_of_beq_eq_true hb
      have : pos j r = none := by
        cases hp : pos j r with
        | none => rfl
        | some k => exact absurd (List.mem_of_getElem? (pos_some hp)) h1
      simp only [this]
      rw [getElem?_setAt (i := j) (j := j), if_pos ⟨rfl, hlt j (by simp)⟩]
      rfl
    | false =>
      have hne := Nat.ne_of_beq_eq_false hb
      simp only
      cases hp : pos i r with
      | none => simp only; rw [setAt_ne (Ne.symm hne)]
      | some k => simp

theorem moved_mem {fx : List Nat} {i : Nat} : ∀ {l : List Nat} {k : Nat}, i ∈ moved fx l k → ∃ j, l[j]? = some i ∧ k + j ∉ fx
  | [], k, h => by simp [moved] at h
  | q :: r, k, h => by
    simp only [moved] at h
    split at h
    · obtain ⟨j, h1, h2⟩ := moved_mem h
      exact ⟨j + 1, by simpa using h1, by rw [show k + (j + 1) = k + 1 + j by omega]; exact h2⟩
    · rename_i hh
      rcases List.mem_cons.1 h with rfl | h
      · exact ⟨0, rfl, has_false hh⟩
      · obtain ⟨j, h1, h2⟩ := moved_mem h
        exact ⟨j + 1, by simpa using h1, by rw [show k + (j + 1) = k + 1 + j by omega]; exact h2⟩

theorem mem_moved {fx : List Nat} {i : Nat} : ∀ {l : List Nat} {k j : Nat}, l[j]? = some i → k + j ∉ fx → i ∈ moved fx l k
  | [], k, j, h, _ => by simp at h
  | q :: r, k, j, h, hn => by
    cases j with
    | zero =>
      simp at h; subst h
      have : has k fx = false := by
        cases hb : has k fx with
        | true => exact absurd (has_iff.1 hb) hn
        | false => rfl
      simp [moved, this]
    | succ j =>
      have := mem_moved (fx := fx) (l := r) (k := k + 1) (j := j) (by simpa using h) (by rw [show k + 1 + j = k + (j + 1) by omega]; exact hn)
      simp only [moved]
      split
      · exact this
      · exact List.mem_cons_of_mem _ this

theorem movesOk_spec {cfx fx : List Nat} {i : Nat} : ∀ {l : List Nat} {k j : Nat}, movesOk cfx fx l k = true → l[j]? = some i → k + j ∈ fx ∨ i ∉ cfx
  | [], k, j, _, h => by simp at h
  | q :: r, k, j, hm, h => by
    simp only [movesOk, Bool.and_eq_true, Bool.or_eq_true, Bool.not_eq_true'] at hm
    cases j with
    | zero =>
      simp at h; subst h
      exact hm.1.imp has_iff.1 has_false
    | succ j =>
      have := movesOk_spec (l := r) (k := k + 1) (j := j) hm.2 (by simpa using h)
      rwa [show k + 1 + j = k + (j + 1) by omega] at this

/-! ### handing over -/

section
variable {P : Program} {C : Ctx} {w0 : World} {S0 O0 : Nat → Prop} {pl0 : List Value} {s : St} {a : Act} {w : World} {S : Nat → Prop} {pl : List Value}

def handed (pl : List Value) (idx : List Nat) : List Value := idx.map fun i => pl.getD i undef

theorem handed_at (hp : Hp w S s.tab pl) {idx : List Nat} (hl : ∀ i ∈ idx, ∃ e, s.tab[i]? = some e ∧ e.live = true) {j i : Nat} (h : idx[j]? = some i) : (handed pl idx)[j]? = pl[i]? := by
  obtain ⟨e, he, _⟩ := hl i (List.mem_of_getElem? h)
  obtain ⟨hv, hp', _⟩ := hp.pl he
  simp [handed, h, List.getD, hp']

theorem At.mk (hp : Hp w S s.tab pl) {ins : Sh} {x : ins.T} {idx : List Nat} (hl : ∀ i ∈ idx, ∃ e, s.tab[i]? = some e ∧ e.live = true) : At ins x 0 idx pl (ins.enc x 0).2 (handed pl idx) := fun j hj => by
  rw [Nat.zero_add]
  exact ⟨rfl, fun i hi => handed_at hp hl hi⟩

theorem hand_hp (hp : Hp w S s.tab pl) {ins : Sh} {av : AV} {x : ins.T} {idx l : List Nat} (hd : ins.dec s.tab av = some (x, idx, l)) (hn : nodup idx = true) (ha : ∀ i ∈ l, i ∉ idx) :
    Hp w (fun b => S b ∨ Lent s.tab pl l b) (ins.enc x 0).2 (handed pl idx) ∧ (∀ j b, Own (ins.enc x 0).2 (handed pl idx) j b → ∃ i, idx[j]? = some i ∧ Own s.tab pl i b) ∧
      (∀ j i b, idx[j]? = some i → Own s.tab pl i b → Own (ins.enc x 0).2 (handed pl idx) j b) := by
  have hdec := dec_sound (tc := (ins.enc x 0).2) (plc := handed pl idx) hp hd (n := 0)
  obtain ⟨h1, h2, h3, h4⟩ := hdec
  have hat := At.mk hp (x := x) h2
  have hget : ∀ {j : Nat} {e : Ent}, (ins.enc x 0).2[j]? = some e → ∃ i hv, idx[j]? = some i ∧ pl[i]? = some hv ∧ (handed pl idx)[j]? = some hv := fun {j e} he => by
    have hlt : j < idx.length := by
      have := (List.getElem?_eq_some_iff.1 he).1
      rw [Sh.enc_length] at this; omega
    obtain ⟨e', he', _⟩ := h2 idx[j] (List.getElem_mem hlt)
    obtain ⟨hv, hv', _⟩ := hp.pl he'
    exact ⟨idx[j], hv, List.getElem?_eq_getElem hlt, hv', by rw [handed_at hp h2 (List.getElem?_eq_getElem hlt)]; exact hv'⟩
  have hown : ∀ j b, Own (ins.enc x 0).2 (handed pl idx) j b → ∃ i, idx[j]? = some i ∧ Own s.tab pl i b := fun j b ⟨e, hv, k1, k2, k3, k4⟩ => by
    obtain ⟨i, hv', g1, g2, g3⟩ := hget k1
    rw [g3] at k3
    obtain rfl := Option.some.inj k3
    obtain ⟨e', he', hl'⟩ := h2 i (List.mem_of_getElem? g1)
    exact ⟨i, g1, e', hv', he', hl', g2, k4⟩
  refine ⟨⟨by simp [handed, Sh.enc_length, h1], fun j e hv k1 k2 => ?_, fun i j b k1 k2 => ?_, fun b hb => hb.elim (hp.stable b) fun ⟨i, _, ho⟩ => hp.lt ho, fun j b k1 => ?_⟩, hown, fun j i b k1 k2 => ?_⟩
  · obtain ⟨i, hv', g1, g2, g3⟩ := hget k1
    rw [g3] at k2
    obtain rfl := Option.some.inj k2
    exact (h4 hat j e i hv' k1 g1 g2).1
  · obtain ⟨p, g1, g2⟩ := hown i b k1
    obtain ⟨q, g3, g4⟩ := hown j b k2
    have := hp.inj p q b g2 g4
    subst this
    have e1 := pos_at hn g1
    have e2 := pos_at hn g3
    rw [e1] at e2
    exact Option.some.inj e2
  · obtain ⟨i, g1, g2⟩ := hown j b k1
    rintro (k | ⟨q, hq, ho⟩)
    · exact hp.off i b g2 k
    · have := hp.inj q i b ho g2
      exact ha q hq (this ▸ List.mem_of_getElem? g1)
  · obtain ⟨e, hv, g1, g2, g3, g4⟩ := k2
    have hlt : j < (ins.enc x 0).2.length := by rw [Sh.enc_length, ← h1]; exact (List.getElem?_eq_some_iff.1 k1).1
    obtain ⟨i', hv', q1, q2, q3⟩ := hget (List.getElem?_eq_getElem hlt)
    rw [k1] at q1
    obtain rfl := Option.some.inj q1
    rw [g3] at q2
    obtain rfl := Option.some.inj q2
    refine ⟨_, hv, List.getElem?_eq_getElem hlt, ?_, q3, g4⟩
    obtain ⟨_, q5, q6⟩ := h4 hat j _ i hv (List.getElem?_eq_getElem hlt) k1 g3
    cases hE : (ins.enc x 0).2[j] with
    | arr => rfl
    | box => rfl
    | rows => rfl
    | dead =>
      exfalso
      have : ∀ (s : Sh) (x : s.T) (n : Nat), ∀ e ∈ (s.enc x n).2, e ≠ .dead := by
        intro s
        induction s with
        | val t => intro x n e he; simp [Sh.enc] at he
        | ref t => intro x n e he; simp [Sh.enc] at he
        | clo f s ih => intro x n e he; exact ih x n e he
        | own eid t => intro x n e he; simp [Sh.enc] at he; subst he; simp
        | box s ih => intro x n e he; simp only [Sh.enc, List.mem_cons] at he; rcases he with rfl | he; · simp
                      · exact ih _ _ e he
        | pr a b iha ihb => intro x n e he; simp only [Sh.enc, List.mem_append] at he; rcases he with he | he; · exact iha _ _ e he
                            · exact ihb _ _ e he
        | un => intro x n e he; simp [Sh.enc] at he
      exact this ins x 0 _ (List.getElem_mem hlt) hE

/-- The arguments as the callee finds them. -/
theorem args_sound (hp : Hp w S s.tab pl) {tc : List Ent} {plc : List Value} : ∀ {args : List AV} {css : List (List Value)} {ins : Sh} {x : ins.T} {idx l : List Nat} {n : Nat}, ins.chain = true → ins.dec s.tab (prs args) = some (x, idx, l) →
    At ins x n idx pl tc plc → css.length = args.length → (∀ (i : Nat) (av : AV) (cs : List Value), args[i]? = some av → css[i]? = some cs → av.R w S s.tab pl cs) →
    ArgsR w (fun b => S b ∨ Lent s.tab pl l b) tc plc (ins.enc x n).1.list ((args.zip css).map fun p => pack p.1.isAgg p.2)
  | [], css, ins, x, idx, l, n, hc, hd, hat, hl, hr => by
    cases ins <;> simp only [Sh.chain, Bool.false_eq_true] at hc
    · simp [prs, Sh.dec] at hd
    · exact ⟨by simp [Sh.enc, AV.list], fun i a v h => by simp [Sh.enc, AV.list] at h⟩
  | av :: args, [], ins, x, idx, l, n, hc, hd, hat, hl, hr => by simp at hl
  | av :: args, cs :: css, ins, x, idx, l, n, hc, hd, hat, hl, hr => by
    cases ins with
    | pr p q =>
      simp only [Sh.chain] at hc
      have hd0 := hd
      simp only [prs, Sh.dec] at hd
      split at hd
      · rename_i u v hu hv
        obtain ⟨u1, u2, u3⟩ := u
        obtain ⟨v1, v2, v3⟩ := v
        simp only [Option.some.injEq, Prod.mk.injEq] at hd
        obtain ⟨rfl, rfl, rfl⟩ := hd
        obtain ⟨h1, h2, h3, h4⟩ := dec_sound (tc := tc) (plc := plc) hp hu (n := n)
        have hat1 : At p u1 n u2 pl tc plc := fun j hj => by
          obtain ⟨g1, g2⟩ := hat j (by simp only [Sh.n]; omega)
          refine ⟨?_, fun i' hi' => g2 i' (by rw [List.getElem?_append_left (List.getElem?_eq_some_iff.1 hi').1]; exact hi')⟩
          rw [g1]
          simp only [Sh.enc]
          rw [List.getElem?_append_left (by rw [Sh.enc_length]; exact hj)]
        have hat2 : At q v1 (n + p.n) v2 pl tc plc := fun j hj => by
          obtain ⟨g1, g2⟩ := hat (p.n + j) (by simp only [Sh.n]; omega)
          rw [← Nat.add_assoc] at g1 g2
          refine ⟨?_, fun i' hi' => g2 i' (by rw [List.getElem?_append_right (by omega), h1, Nat.add_sub_cancel_left]; exact hi')⟩
          rw [g1]
          simp only [Sh.enc]
          rw [List.getElem?_append_right (by rw [Sh.enc_length]; omega), Sh.enc_length, Nat.add_sub_cancel_left]
        obtain ⟨k1, k2⟩ := args_sound hp hc hv hat2 (by simpa using hl) (fun i av' cs' hi hi' => hr (i + 1) av' cs' (by simpa using hi) (by simpa using hi'))
        have up : ∀ {l l' : List Nat}, (∀ i ∈ l, i ∈ l') → ∀ b, (S b ∨ Lent s.tab pl l b) → b < w.heap.size → (S b ∨ Lent s.tab pl l' b) ∧ w.heap[b]? = w.heap[b]? := fun {l l'} hs b hb _ => ⟨hb.imp id fun ⟨j, hj, ho⟩ => ⟨j, hs j hj, ho⟩, rfl⟩
        have lt' : ∀ {l : List Nat} b, (S b ∨ Lent s.tab pl l b) → b < w.heap.size := fun {l} b hb => hb.elim (hp.stable b) fun ⟨j, _, ho⟩ => hp.lt ho
        simp only [Sh.enc, AV.list, Sh.enc_length, List.zip_cons_cons, List.map_cons]
        refine ⟨by simp [k1], fun i av' v' hi hv' => ?_⟩
        cases i with
        | zero =>
          simp only [List.getElem?_cons_zero, Option.some.injEq] at hi hv'
          subst hi hv'
          have := h3 hat1 (hr 0 av cs rfl rfl)
          exact ⟨cs, this.keep (up fun i hi => List.mem_append_left _ hi) lt' (Keep.refl _ _), by rw [dec_agg hu]⟩
        | succ i =>
          obtain ⟨cs', g1, g2⟩ := k2 i av' v' (by simpa using hi) (by simpa using hv')
          exact ⟨cs', g1.keep (up fun i hi => List.mem_append_right _ hi) lt' (Keep.refl _ _), g2⟩
      · cases hd
    | un => simp [prs, Sh.dec] at hd
    | val t => simp [Sh.chain] at hc
    | ref t => simp [Sh.chain] at hc
    | clo f s => simp [Sh.chain] at hc
    | own e t => simp [Sh.chain] at hc
    | box s => simp [Sh.chain] at hc

end

end Go.Lg
