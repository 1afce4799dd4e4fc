/-
  Regions that draw their order, the third part: whatever order comes up.
-/
import Derived.Test.YtjnpogjniihmcaaEng20
set_option linter.unusedVariables false
set_option linter.unusedSimpArgs false
namespace Go.Lg
open Go.RowKit

/-- The slots when the operations of L have been carried out: es tells for each what it puts. -/
def onL (L : Nat → Bool) : Nat → List Env → Env → Env
  | _, [], base => base
  | k, e :: es, base => onL L (k + 1) es (if L k = true then e ++ base else base)

theorem look_append {t : Nat} : ∀ {e base : Env}, look t (e ++ base) = match look t e with | some x => some x | none => look t base
  | [], base => rfl
  | (u, x) :: r, base => by
    simp only [List.cons_append, look_cons]
    split
    · rfl
    · exact look_append

theorem onL_agree {t : Nat} {L L' : Nat → Bool} : ∀ {es : List Env} {k : Nat} {base base' : Env}, (∀ i e, es[i]? = some e → look t e ≠ none → L (k + i) = L' (k + i)) → look t base = look t base' → look t (onL L k es base) = look t (onL L' k es base')
  | [], k, base, base', _, hb => hb
  | e :: es, k, base, base', h, hb => by
    simp only [onL]
    refine onL_agree (fun i e' he' hn => ?_) ?_
    · have := h (i + 1) e' (by simpa using he') hn
      rwa [show k + (i + 1) = k + 1 + i by omega] at this
    · by_cases hn : look t e = none
      · have h1 : ∀ b : Env, look t (e ++ b) = look t b := fun b => by rw [look_append, hn]
        split <;> split <;> simp [h1, hb]
      · have := h 0 e rfl hn
        rw [Nat.add_zero] at this
        rw [this]
        split
        · rw [look_append, look_append, hb]
        · exact hb

theorem onL_none {L : Nat → Bool} : ∀ {es : List Env} {k : Nat} {base : Env}, (∀ i, k ≤ i → L i = false) → onL L k es base = base
  | [], k, base, _ => rfl
  | e :: es, k, base, h => by
    simp only [onL, h k (Nat.le_refl _), Bool.false_eq_true, if_false]
    exact onL_none fun i hi => h i (by omega)

theorem onL_take : ∀ {es : List Env} {k j : Nat} {base : Env}, (es.take j).reverse.flatten ++ base = onL (fun i => decide (i < k + j)) k es base
  | [], k, j, base => by simp [onL]
  | e :: es, k, 0, base => by
    simp only [List.take_zero, List.reverse_nil, List.flatten_nil, List.nil_append]
    rw [onL_none fun i hi => by simp; omega]
  | e :: es, k, j + 1, base => by
    simp only [List.take_succ_cons, List.reverse_cons, List.flatten_append, List.append_assoc, onL]
    rw [if_pos (by simp)]
    have := onL_take (es := es) (k := k + 1) (j := j) (base := e ++ base)
    rw [show k + (j + 1) = k + 1 + j by omega, ← this]
    simp

theorem mem_onL {L : Nat → Bool} {p : Nat × SV × PC} : ∀ {es : List Env} {k : Nat} {base : Env}, p ∈ onL L k es base ↔ p ∈ base ∨ ∃ i e, es[i]? = some e ∧ L (k + i) = true ∧ p ∈ e
  | [], k, base => by simp [onL]
  | e :: es, k, base => by
    simp only [onL]
    rw [mem_onL]
    constructor
    · rintro (h | ⟨i, e', h1, h2, h3⟩)
      · split at h
        · rename_i hk
          rcases List.mem_append.1 h with h | h
          · exact .inr ⟨0, e, rfl, by simpa using hk, h⟩
          · exact .inl h
        · exact .inl h
      · exact .inr ⟨i + 1, e', by simpa using h1, by rw [show k + (i + 1) = k + 1 + i by omega]; exact h2, h3⟩
    · rintro (h | ⟨i, e', h1, h2, h3⟩)
      · left; split
        · exact List.mem_append_right _ h
        · exact h
      · cases i with
        | zero =>
          simp only [List.getElem?_cons_zero, Option.some.injEq] at h1
          subst h1
          rw [Nat.add_zero] at h2
          left; rw [if_pos h2]; exact List.mem_append_left _ h3
        | succ i => exact .inr ⟨i, e', by simpa using h1, by rw [show k + 1 + i = k + (i + 1) by omega]; exact h2, h3⟩

theorem onL_last {L : Nat → Bool} {t : Nat} {x : SV × PC} : ∀ {es : List Env} {k j : Nat} {e : Env} {base : Env}, es[j]? = some e → L (k + j) = true → look t e = some x → (∀ i e', j < i → es[i]? = some e' → L (k + i) = true → look t e' = none) → look t (onL L k es base) = some x
  | [], k, j, e, base, h, _, _, _ => by simp at h
  | e0 :: es, k, 0, e, base, h, hL, hx, hno => by
    simp only [List.getElem?_cons_zero, Option.some.injEq] at h
    subst h
    rw [Nat.add_zero] at hL
    simp only [onL, if_pos hL]
    have h0 : look t (onL (fun _ => false) (k + 1) es (e0 ++ base)) = some x := by
      rw [onL_none fun _ _ => rfl, look_append, hx]
    rw [← h0]
    refine onL_agree (fun i e' he' hne => ?_) rfl
    cases hb : L (k + 1 + i) with
    | false => rfl
    | true => exact absurd (hno (i + 1) e' (by omega) (by simpa using he') (by rw [show k + (i + 1) = k + 1 + i by omega]; exact hb)) hne
  | e0 :: es, k, j + 1, e, base, h, hL, hx, hno => by
    simp only [onL]
    refine onL_last (j := j) (by simpa using h) (by rw [show k + 1 + j = k + (j + 1) by omega]; exact hL) hx fun i e' hi he' hb => ?_
    exact hno (i + 1) e' (by omega) (by simpa using he') (by rw [show k + (i + 1) = k + 1 + i by omega]; exact hb)

theorem look_limit {t : Nat} {l : List Nat} : ∀ {env : Env}, look t (limit l env) = if t ∈ l then look t env else none
  | [] => by simp [limit, look]
  | (u, x) :: r => by
    have ih := look_limit (t := t) (l := l) (env := r)
    simp only [limit] at ih ⊢
    rw [List.filter_cons]
    split
    · rename_i hu
      have hu := has_iff.1 hu
      simp only [look_cons]
      by_cases e : u = t
      · subst e; simp [hu]
      · simp only [if_neg e, ih]
    · rename_i hu
      have hu : u ∉ l := fun h => hu (has_iff.2 h)
      simp only [look_cons, ih]
      by_cases e : u = t
      · subst e; simp [hu]
      · simp only [if_neg e]

/-- What is known of one operation of the head. -/
def Fact (P : Program) (C : Ctx) (ops : Array Oper) (tab : List Ent) (env : Env) (pd : List Pend) (o : Oper) (e : Env) : Prop :=
  ∃ G v, pathOf ⟨limit (slotsOf ops o) env, tab, []⟩ ops o.guard = some G ∧ dstOk C ⟨env, tab, pd⟩ G o.dst = true ∧ (∀ q ∈ G, q.1 ∈ slotsOf ops o) ∧
    e = (match o.dst with | some d => [(d, v, G)] | none => []) ∧ Frees P tab (limit (slotsOf ops o) env) o G v

def isMake : Pend → Bool
  | .make _ _ => true
  | _ => false

/-- An operation that makes what is not in the table yet. -/
def Makes (P : Program) (tab : List Ent) (env : Env) (o : Oper) (p : Pend) : Prop :=
  ∀ {w : World} {S : Nat → Prop} {pl : List Value} {a : Act}, Hp w S tab pl → EnvR w S tab pl env a.tmps →
    ∃ u w', (execOp a.eval o).run P w = .ok (.value u) w' ∧ Hp w' S tab pl ∧ Fr w (fun b => ∃ i, Own tab pl i b) w' ∧ (∀ b, S b → w'.heap[b]? = w.heap[b]?) ∧ (isMake p = true → Fr w (fun _ => False) w') ∧
      ∀ (n0 : Nat) (tmps : Array Value), n0 ≤ w.heap.size → tmps[p.d]? = some u → ∃ b, (b = none ∨ b = some w.heap.size) ∧ PendR n0 w' S tab pl tmps b p

def PFact (P : Program) (C : Ctx) (ops : Array Oper) (tab : List Ent) (env : Env) (pd : List Pend) (o : Oper) (p : Pend) (e : Env) : Prop :=
  pathOf ⟨limit (slotsOf ops o) env, tab, []⟩ ops o.guard = some [] ∧ dstOk C ⟨env, tab, pd⟩ [] o.dst = true ∧ o.dst = some p.d ∧ e = [(p.d, .dd, [])] ∧ Makes P tab (limit (slotsOf ops o) env) o p

theorem pendHead_sound {P : Program} {C : Ctx} (hT : thOk P C = true) {s : St} {o : Oper} {p : Pend} (h : pendHead C s o = some (true, p)) : o.dst = some p.d ∧ Makes P s.tab s.env o p := by
  unfold pendHead at h
  split at h
  · rename_i t l c d hop hdst
    simp only [Option.map_eq_some_iff, Prod.mk.injEq] at h
    obtain ⟨⟨g, ent⟩, hme, rfl, rfl⟩ := h
    refine ⟨hdst, fun {w S pl a} hp he => ?_⟩
    obtain ⟨hv, hvp, cs, eid, hrun, hmd⟩ := makeEnt_sound (P := P) (s := s) hT he hme
    have hfr := Fr.alloc w (fun b => ∃ i, Own s.tab pl i b) (.cells cs eid)
    have hall : ∀ b, b < w.heap.size → (w.alloc (.cells cs eid)).heap[b]? = w.heap[b]? := fun b hb' => Below.heap_alloc _ _ _ hb'
    have hp1 : Hp (w.alloc (.cells cs eid)) S s.tab pl := hp.grow (fun b hb => hb) (fun b hb => Nat.lt_of_lt_of_le (hp.stable b hb) hfr.size) hp.off (fun b hb => hall b (hb.elim (hp.stable b) (fun ⟨i, ho⟩ => hp.lt ho)))
    obtain ⟨dst, op, ty, pos, af, gd⟩ := o
    simp only at hop
    subst hop
    refine ⟨hv, w.alloc (.cells cs eid), ?_, hp1, hfr, fun b hb => hall b (hp.stable b hb), fun _ => Fr.alloc w _ _, fun n0 tmps hn0 ht => ⟨some w.heap.size, .inr rfl, hv, hvp, w.heap.size, ht, hmd, rfl, hn0, hmd.lt, fun hb => Nat.lt_irrefl _ (hp.stable _ hb), fun k ho => Nat.lt_irrefl _ (hp.lt ho)⟩⟩
    show (do pure (Next.value (← Instr.makeSlice t (a.eval l) (a.eval c))) : Sem Next).run P w = _
    rw [Sem.run_bind, hrun]
    simp only [Result.andThen_ok, Sem.run_pure]
  · have hd := fun {w : World} {S : Nat → Prop} {pl : List Value} {a : Act} (hp : Hp w S s.tab pl) (he : EnvR w S s.tab pl s.env a.tmps) => pendOp_sound (P := P) hT hp he h
    have happ : isMake p = false := by
      unfold pendOp at h
      split at h
      · split at h
        · split at h
          · unfold pendApp at h
            split at h
            · split at h
              · split at h
                · split at h
                  · split at h
                    · simp only [Option.some.injEq, Prod.mk.injEq] at h; rw [← h.2]; rfl
                    · cases h
                  · cases h
                · split at h
                  · split at h
                    · simp only [Option.some.injEq, Prod.mk.injEq] at h; rw [← h.2]; rfl
                    · cases h
                  · cases h
                · cases h
              · cases h
            · cases h
          · cases h
        · cases h
      · cases h
    have hdst : o.dst = some p.d := by
      unfold pendOp at h
      split at h
      · split at h
        · split at h
          · unfold pendApp at h
            split at h
            · rename_i d _ _ hd2 _ _
              split at h
              · split at h
                · split at h
                  · split at h
                    · simp only [Option.some.injEq, Prod.mk.injEq] at h; rw [← h.2]; exact hd2
                    · cases h
                  · cases h
                · split at h
                  · split at h
                    · simp only [Option.some.injEq, Prod.mk.injEq] at h; rw [← h.2]; exact hd2
                    · cases h
                  · cases h
                · cases h
              · cases h
            · cases h
          · cases h
        · cases h
      · cases h
    refine ⟨hdst, fun {w S pl a} hp he => ?_⟩
    obtain ⟨_, u, w', h1, h2, h3, h4, h5⟩ := hd hp he
    exact ⟨u, w', h1, h2, h3, h4, fun k => (by rw [happ] at k; cases k), fun n0 tmps hn0 ht => h5 n0 tmps hn0 ht⟩

theorem runFree_facts {A : Type} {P : Program} {C : Ctx} (hT : thOk P C = true) (hS : Sigs P C) {ops : Array Oper} {K : St → List Pend → Option A} {r : A} : ∀ {l : List (Option Oper)} {s : St} {ps : List Pend}, runFree C ops l s ps K = some r →
    ∃ (es : List Env) (qs : List (Option Pend)), es.length = l.length ∧ qs.length = l.length ∧ K { s with env := es.reverse.flatten ++ s.env } (ps ++ qs.filterMap id) = some r ∧
      (∀ (j : Nat) (o : Oper) (e : Env) (q : Option Pend), l[j]? = some (some o) → es[j]? = some e → qs[j]? = some q → match q with
        | none => Fact P C ops s.tab ((es.take j).reverse.flatten ++ s.env) (ps ++ (qs.take j).filterMap id) o e
        | some p => PFact P C ops s.tab ((es.take j).reverse.flatten ++ s.env) (ps ++ (qs.take j).filterMap id) o p e) ∧ ∀ j : Nat, l[j]? = some none → es[j]? = some [] ∧ qs[j]? = some none
  | [], s, ps, h => ⟨[], [], rfl, rfl, by simpa [runFree] using h, fun j o e q hj => by simp at hj, fun j hj => by simp at hj⟩
  | none :: l, s, ps, h => by
    simp only [runFree] at h
    obtain ⟨es, qs, h1, h1', h2, h3, h4⟩ := runFree_facts hT hS h
    refine ⟨[] :: es, none :: qs, by simp [h1], by simp [h1'], by simpa using h2, fun j o' e q hj he hq => ?_, fun j hj => ?_⟩
    · cases j with
      | zero => simp at hj
      | succ j =>
        have := h3 j o' e q (by simpa using hj) (by simpa using he) (by simpa using hq)
        simpa using this
    · cases j with
      | zero => exact ⟨rfl, rfl⟩
      | succ j => simpa using h4 j (by simpa using hj)
  | some o :: l, s, ps, h => by
    simp only [runFree] at h
    split at h
    · rename_i G hp
      split at h
      · rename_i hok
        simp only [Bool.and_eq_true, List.all_eq_true] at hok
        obtain ⟨hd, hGs⟩ := hok
        split at h
        · rename_i hfree
          obtain ⟨v, hK, hfr⟩ := free_sem hT hS hfree h
          have hfact : Fact P C ops s.tab s.env ps o (match o.dst with | some d => [(d, v, G)] | none => []) := ⟨G, v, hp, hd, fun q hq => has_iff.1 (hGs q hq), rfl, hfr⟩
          have hK' : runFree C ops l { s with env := (match o.dst with | some d => [(d, v, G)] | none => []) ++ s.env } ps K = some r := by
            revert hK
            cases o.dst with
            | none => exact id
            | some d => exact id
          obtain ⟨es, qs, h1, h1', h2, h3, h4⟩ := runFree_facts hT hS hK'
          refine ⟨_ :: es, none :: qs, by simp [h1], by simp [h1'], by simpa using h2, fun j o' e q hj he hq => ?_, fun j hj => ?_⟩
          · cases j with
            | zero =>
              simp only [List.getElem?_cons_zero, Option.some.injEq] at hj he hq
              subst hj he hq
              simpa using hfact
            | succ j =>
              have := h3 j o' e q (by simpa using hj) (by simpa using he) (by simpa using hq)
              simpa using this
          · cases j with
            | zero => simp at hj
            | succ j => simpa using h4 j (by simpa using hj)
        · split at h
          · rename_i g p hph _
            split at h
            · rename_i hg
              subst hg
              obtain ⟨hdst, hmk⟩ := pendHead_sound (P := P) hT hph
              have hfact : PFact P C ops s.tab s.env ps o p [(p.d, .dd, [])] := ⟨hp, hd, hdst, rfl, hmk⟩
              obtain ⟨es, qs, h1, h1', h2, h3, h4⟩ := runFree_facts hT hS h
              refine ⟨[(p.d, .dd, [])] :: es, some p :: qs, by simp [h1], by simp [h1'], by simpa using h2, fun j o' e q hj he hq => ?_, fun j hj => ?_⟩
              · cases j with
                | zero =>
                  simp only [List.getElem?_cons_zero, Option.some.injEq] at hj he hq
                  subst hj he hq
                  simpa using hfact
                | succ j =>
                  have := h3 j o' e q (by simpa using hj) (by simpa using he) (by simpa using hq)
                  simpa using this
              · cases j with
                | zero => simp at hj
                | succ j => simpa using h4 j (by simpa using hj)
            · cases h
          · cases h
      · cases h
    · cases h

/-- The pending ones among the operations of L. -/
def pdL (L : Nat → Bool) : Nat → List (Option Pend) → List Pend
  | _, [] => []
  | k, q :: qs => (match q with | some p => if L k = true then [p] else [] | none => []) ++ pdL L (k + 1) qs

theorem mem_pdL {L : Nat → Bool} {p : Pend} : ∀ {qs : List (Option Pend)} {k : Nat}, p ∈ pdL L k qs ↔ ∃ i, qs[i]? = some (some p) ∧ L (k + i) = true
  | [], k => by simp [pdL]
  | q :: qs, k => by
    simp only [pdL, List.mem_append]
    rw [mem_pdL]
    constructor
    · rintro (h | ⟨i, h1, h2⟩)
      · cases q with
        | none => simp at h
        | some p' =>
          simp only at h
          split at h
          · rename_i hk
            simp only [List.mem_singleton] at h
            subst h
            exact ⟨0, rfl, by simpa using hk⟩
          · simp at h
      · exact ⟨i + 1, by simpa using h1, by rw [show k + (i + 1) = k + 1 + i by omega]; exact h2⟩
    · rintro ⟨i, h1, h2⟩
      cases i with
      | zero =>
        simp only [List.getElem?_cons_zero, Option.some.injEq] at h1
        subst h1
        rw [Nat.add_zero] at h2
        left; simp [h2]
      | succ i => exact .inr ⟨i, by simpa using h1, by rw [show k + 1 + i = k + (i + 1) by omega]; exact h2⟩

theorem pdL_all {L : Nat → Bool} : ∀ {qs : List (Option Pend)} {k : Nat}, (∀ i, i < qs.length → L (k + i) = true) → pdL L k qs = qs.filterMap id
  | [], k, _ => rfl
  | q :: qs, k, h => by
    simp only [pdL]
    rw [pdL_all (fun i hi => by rw [show k + 1 + i = k + (i + 1) by omega]; exact h (i + 1) (by simpa using hi))]
    have := h 0 (by simp)
    rw [Nat.add_zero] at this
    cases q with
    | none => simp
    | some p => simp [this]

theorem pdL_none {L : Nat → Bool} : ∀ {qs : List (Option Pend)} {k : Nat}, (∀ i, k ≤ i → L i = false) → pdL L k qs = []
  | [], k, _ => rfl
  | q :: qs, k, h => by
    simp only [pdL]
    rw [pdL_none (fun i hi => h i (by omega)), h k (Nat.le_refl _)]
    cases q <;> simp

theorem pdL_take : ∀ {qs : List (Option Pend)} {k j : Nat}, pdL (fun i => decide (i < k + j)) k qs = (qs.take j).filterMap id
  | [], k, j => by simp [pdL]
  | q :: qs, k, 0 => by
    rw [pdL_none (fun i hi => by simp; omega)]
    simp
  | q :: qs, k, j + 1 => by
    simp only [pdL, List.take_succ_cons]
    have := pdL_take (qs := qs) (k := k + 1) (j := j)
    rw [show k + 1 + j = k + (j + 1) by omega] at this
    rw [this]
    cases q with
    | none => simp
    | some p => simp

theorem headL_get {X : List Nat} : ∀ {l : List Oper} {k j : Nat}, (headL X l k)[j]? = (l[j]?).map fun o => if has (k + j) X = true then none else some o
  | [], k, j => by simp [headL]
  | o :: r, k, 0 => by simp only [headL, List.getElem?_cons_zero, Option.map_some, Nat.add_zero]; cases has k X <;> rfl
  | o :: r, k, j + 1 => by
    simp only [headL, List.getElem?_cons_succ, headL_get]
    rw [show k + 1 + j = k + (j + 1) by omega]

theorem headL_length {X : List Nat} : ∀ {l : List Oper} {k : Nat}, (headL X l k).length = l.length
  | [], k => rfl
  | o :: r, k => by simp [headL, headL_length]

end Go.Lg
