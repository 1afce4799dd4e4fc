/-
  Regions that draw their order, the last part.
-/
import Derived.Test.YtjnpogjniihmcaaEng21
set_option linter.unusedVariables false
set_option linter.unusedSimpArgs false
namespace Go.Lg
open Go.RowKit

section
variable {P : Program} {C : Ctx} {ops : Array Oper} {tab : List Ent} {base : Env} {es : List Env} {qs : List (Option Pend)} {n : Nat} {w0 : World} {S0 O0 : Nat → Prop} {pl0 : List Value}

/-- The operations of L have been carried out. -/
def Mid (C : Ctx) (tab : List Ent) (base : Env) (es : List Env) (qs : List (Option Pend)) (w0 : World) (S0 O0 : Nat → Prop) (pl0 : List Value) (L : Nat → Bool) (a : Act) (w : World) : Prop :=
  Ok C w0 S0 O0 pl0 ⟨onL L 0 es base, tab, pdL L 0 qs⟩ a w

def HFact (P : Program) (C : Ctx) (ops : Array Oper) (tab : List Ent) (env : Env) (pd : List Pend) (o : Oper) (e : Env) (q : Option Pend) : Prop :=
  match q with
  | none => Fact P C ops tab env pd o e
  | some p => PFact P C ops tab env pd o p e

theorem fact_slot {env : Env} {pd : List Pend} {o : Oper} {e : Env} {q : Option Pend} (h : HFact P C ops tab env pd o e q) {t : Nat} (hn : look t e ≠ none) : o.dst = some t := by
  cases q with
  | none =>
    obtain ⟨G, v, _, _, _, rfl, _⟩ := h
    cases hd : o.dst with
    | none => rw [hd] at hn; simp [look] at hn
    | some d =>
      rw [hd] at hn
      simp only [look_cons] at hn
      by_cases e : d = t
      · rw [e]
      · rw [if_neg e] at hn; simp [look] at hn
  | some p =>
    obtain ⟨_, _, hd, rfl, _⟩ := h
    rw [hd]
    simp only [look_cons] at hn
    by_cases e : p.d = t
    · rw [e]
    · rw [if_neg e] at hn; simp [look] at hn

/-- What one operation of the head puts, its path condition, and that its slot is free. -/
theorem fact_put {env : Env} {pd : List Pend} {o : Oper} {e : Env} {q : Option Pend} (h : HFact P C ops tab env pd o e q) : ∃ G v, pathOf ⟨limit (slotsOf ops o) env, tab, []⟩ ops o.guard = some G ∧ dstOk C ⟨env, tab, pd⟩ G o.dst = true ∧ (∀ q ∈ G, q.1 ∈ slotsOf ops o) ∧
    e = (match o.dst with | some d => [(d, v, G)] | none => []) := by
  cases q with
  | none => obtain ⟨G, v, h1, h2, h3, h4, _⟩ := h; exact ⟨G, v, h1, h2, h3, h4⟩
  | some p => obtain ⟨h1, h2, h3, h4, _⟩ := h; exact ⟨[], .dd, h1, h2, fun q hq => by simp at hq, by rw [h3]; exact h4⟩

/-- One operation of the head comes up. -/
theorem head_step {X : List Nat} (hok : headOk ops n X = true) (hes : es.length = (ops.toList.take n).length) (hqs : qs.length = es.length) (hone : (∀ p, some p ∈ qs → isMake p = true) ∨ ∀ (i j : Nat) (p q : Pend), qs[i]? = some (some p) → qs[j]? = some (some q) → i = j)
    (hX : ∀ i, has i X = true → i < es.length → es[i]? = some [] ∧ qs[i]? = some none)
    (hfacts : ∀ j o e q, has j X = false → ops[j]? = some o → es[j]? = some e → qs[j]? = some q → HFact P C ops tab (onL (fun i => decide (i < j)) 0 es base) (pdL (fun i => decide (i < j)) 0 qs) o e q)
    {L L' : Nat → Bool} (hcl : Closed ops L) {j : Nat} {o : Oper} (ho : ops[j]? = some o) (hjn : j < n) (hjX : has j X = false) (hjL : L j = false) (hdeps : ∀ e ∈ o.after, Region.binds .any e = true → L e.on = true) (hL' : ∀ i, L' i = if i = j then true else L i)
    {a : Act} {w : World} (hm : Mid C tab base es qs w0 S0 O0 pl0 L a w) {Q : Exit → Act → World → Prop} :
    wpOp P ops Q j (fun a' w' => Mid C tab base es qs w0 S0 O0 pl0 L' a' w') a w := by
  have hjs : j < ops.size := (Array.getElem?_eq_some_iff.1 ho).1
  have hje : j < es.length := by rw [hes, List.length_take, Array.length_toList]; omega
  obtain ⟨e, he⟩ : ∃ e, es[j]? = some e := ⟨es[j], List.getElem?_eq_getElem hje⟩
  obtain ⟨qj, hqj⟩ : ∃ q, qs[j]? = some q := ⟨qs[j]'(by omega), List.getElem?_eq_getElem (by omega)⟩
  have hopi : ∀ {i : Nat} {e' : Env}, es[i]? = some e' → ∃ o', ops[i]? = some o' ∧ i < n := fun {i e'} h => by
    have hlt := (List.getElem?_eq_some_iff.1 h).1
    rw [hes, List.length_take, Array.length_toList] at hlt
    exact ⟨ops[i]'(by omega), Array.getElem?_eq_getElem (by omega), by omega⟩
  have hq' : ∀ {i : Nat} {e' : Env}, es[i]? = some e' → ∃ q, qs[i]? = some q := fun {i e'} h => ⟨qs[i]'(by have := (List.getElem?_eq_some_iff.1 h).1; omega), List.getElem?_eq_getElem _⟩
  have hfact := hfacts j o e qj hjX ho he hqj
  have nox : ∀ {i : Nat} {e' : Env} {t : Nat}, es[i]? = some e' → look t e' ≠ none → has i X = false := fun {i e' t} h1 h2 => by
    cases hb : has i X with
    | false => rfl
    | true =>
      have := (hX i hb (List.getElem?_eq_some_iff.1 h1).1).1
      rw [h1] at this
      obtain rfl := Option.some.inj this
      exact absurd rfl h2
  have noxq : ∀ {i : Nat} {p : Pend}, qs[i]? = some (some p) → has i X = false := fun {i p} h1 => by
    cases hb : has i X with
    | false => rfl
    | true =>
      have := (hX i hb (by have := (List.getElem?_eq_some_iff.1 h1).1; omega)).2
      rw [h1] at this
      cases this
  obtain ⟨G, v, hp, hd, hGs, hE⟩ := fact_put hfact
  -- L with j is closed too
  have hcl' : Closed ops L' := fun q oq hq hLq e' he' hb => by
    rw [hL'] at hLq ⊢
    split
    · rfl
    · split at hLq
      · rename_i hqj
        subst hqj
        rw [ho] at hq
        obtain rfl := Option.some.inj hq
        exact hdeps e' he' hb
      · exact hcl q oq hq hLq e' he' hb
  -- who touches a slot of o before it is in L, who comes behind is not
  have order : ∀ {i : Nat} {e' : Env}, es[i]? = some e' → ∀ o', ops[i]? = some o' → i ≠ j → (L i = decide (i < j)) ∨ (i < j ∧ alien (o'.dst, slotsOf ops o') (o.dst, slotsOf ops o) = true) ∨ (j < i ∧ alien (o.dst, slotsOf ops o) (o'.dst, slotsOf ops o') = true) := fun {i e'} he' o' ho' hij => by
    obtain ⟨_, _, hin⟩ := hopi he'
    by_cases hlt : i < j
    · rcases drawOk_order hok hcl' ho' ho hlt hjn with h | h
      · left
        have := h (by rw [hL', if_pos rfl])
        rw [hL', if_neg hij] at this
        simp [this, hlt]
      · exact .inr (.inl ⟨hlt, h⟩)
    · have hgt : j < i := by omega
      rcases drawOk_order hok hcl ho ho' hgt hin with h | h
      · left
        cases hb : L i with
        | false => simp [hlt]
        | true => rw [h hb] at hjL; cases hjL
      · exact .inr (.inr ⟨hgt, h⟩)
  have agree : ∀ t ∈ slotsOf ops o, look t (onL (fun i => decide (i < j)) 0 es base) = look t (onL L 0 es base) := fun t ht => by
    refine onL_agree (fun i e' he' hn => ?_) rfl
    rw [Nat.zero_add]
    obtain ⟨o', ho', hin⟩ := hopi he'
    obtain ⟨q', hq''⟩ := hq' he'
    have hslot := fact_slot (hfacts i o' e' q' (nox he' hn) ho' he' hq'') hn
    by_cases hij : i = j
    · subst hij; simp [hjL]
    · rcases order he' o' ho' hij with h | ⟨_, h⟩ | ⟨_, h⟩
      · exact h.symm
      · exact absurd ht ((alien_spec h).1 t hslot).1
      · exact absurd ht ((alien_spec h).2 t hslot)
  obtain ⟨⟨S, pl, hi⟩, hu⟩ := hm
  have he' : EnvR w S tab pl (limit (slotsOf ops o) (onL (fun i => decide (i < j)) 0 es base)) a.tmps := fun t x T hl hT => by
    rw [look_limit] at hl
    split at hl
    · rename_i ht; rw [agree t ht] at hl; exact hi.env t x T hl hT
    · cases hl
  have hu' : UndefR (limit (slotsOf ops o) (onL (fun i => decide (i < j)) 0 es base)) a.tmps := fun t x T hl hT => by
    rw [look_limit] at hl
    split at hl
    · rename_i ht; rw [agree t ht] at hl; exact hu t x T hl hT
    · cases hl
  have hw := path_holds (s := ⟨limit (slotsOf ops o) (onL (fun i => decide (i < j)) 0 es base), tab, []⟩) hu' hp
  -- the entries of the state behind
  have hd1 : ∀ d, o.dst = some d → d < C.n ∧ (∀ p ∈ G, p.1 ≠ d) ∧ (∀ p ∈ onL L 0 es base, ∀ q ∈ p.2.2, q.1 ≠ d) ∧ ∀ p ∈ pdL L 0 qs, p.d ≠ d := fun d hdd => by
    rw [hdd] at hd
    have hd0 := hd
    simp only [dstOk, Bool.and_eq_true, List.all_eq_true, Bool.not_eq_true'] at hd
    obtain ⟨⟨⟨k1, k2⟩, k3⟩, k4⟩ := hd
    refine ⟨by rwa [Nat.blt_eq] at k1, fun p hp => Nat.ne_of_beq_eq_false (k2 p hp), fun p hp q hq => ?_, fun p hp => ?_⟩
    · rcases mem_onL.1 hp with hp | ⟨i, e2, h1, h2, h3⟩
      · exact Nat.ne_of_beq_eq_false (k3 p (mem_onL.2 (.inl hp)) q hq)
      · rw [Nat.zero_add] at h2
        obtain ⟨o2, ho2, hin⟩ := hopi h1
        have hij : i ≠ j := fun e => by subst e; rw [hjL] at h2; cases h2
        by_cases hlt : i < j
        · exact Nat.ne_of_beq_eq_false (k3 p (mem_onL.2 (.inr ⟨i, e2, h1, by simpa using hlt, h3⟩)) q hq)
        · have hgt : j < i := by omega
          have hiX : has i X = false := by
            cases hb : has i X with
            | false => rfl
            | true =>
              have := (hX i hb (List.getElem?_eq_some_iff.1 h1).1).1
              rw [h1] at this
              obtain rfl := Option.some.inj this
              simp at h3
          obtain ⟨q2, hq2⟩ := hq' h1
          obtain ⟨G2, v2, _, _, hGs2, hE2⟩ := fact_put (hfacts i o2 e2 q2 hiX ho2 h1 hq2)
          rcases drawOk_order hok hcl ho ho2 hgt hin with h | h
          · rw [h h2] at hjL; cases hjL
          · have hp2 : p.2.2 = G2 := by
              rw [hE2] at h3
              cases hd2 : o2.dst with
              | none => rw [hd2] at h3; simp at h3
              | some d2 => rw [hd2] at h3; simp only [List.mem_singleton] at h3; rw [h3]
            rw [hp2] at hq
            intro heq
            exact ((alien_spec h).1 d hdd).1 (heq ▸ hGs2 q hq)
    · obtain ⟨i, h1, h2⟩ := mem_pdL.1 hp
      rw [Nat.zero_add] at h2
      have hij : i ≠ j := fun e => by subst e; rw [hjL] at h2; cases h2
      by_cases hlt : i < j
      · exact Nat.ne_of_beq_eq_false (k4 p (mem_pdL.2 ⟨i, h1, by simpa using hlt⟩))
      · have hgt : j < i := by omega
        have hie : i < es.length := by have := (List.getElem?_eq_some_iff.1 h1).1; omega
        obtain ⟨o2, ho2, hin⟩ := hopi (List.getElem?_eq_getElem hie)
        obtain ⟨_, _, h3, _, _⟩ : PFact P C ops tab _ _ o2 p _ := hfacts i o2 _ (some p) (noxq h1) ho2 (List.getElem?_eq_getElem hie) h1
        rcases drawOk_order hok hcl ho ho2 hgt hin with h | h
        · rw [h h2] at hjL; cases hjL
        · intro heq
          exact ((alien_spec h).1 d hdd).2 (by rw [← heq]; exact h3)
  -- the slots behind
  have look_other : ∀ t, o.dst ≠ some t → look t (onL L' 0 es base) = look t (onL L 0 es base) := fun t ht => by
    refine onL_agree (fun i e2 he2 hn => ?_) rfl
    rw [Nat.zero_add, hL']
    split
    · rename_i hij
      subst hij
      rw [he] at he2
      obtain rfl := Option.some.inj he2
      rw [hE] at hn
      cases hdd : o.dst with
      | none => rw [hdd] at hn; simp [look] at hn
      | some d =>
        rw [hdd] at hn ht
        rw [look_cons, if_neg (fun e => ht (by rw [e]))] at hn
        simp [look] at hn
    · rfl
  have look_dst : ∀ d, o.dst = some d → look d (onL L' 0 es base) = some (v, G) := fun d hdd => by
    refine onL_last (j := j) he (by rw [Nat.zero_add, hL', if_pos rfl]) (by rw [hE, hdd]; simp [look_cons]) fun i e2 hi2 he2 hLi => ?_
    rw [Nat.zero_add, hL', if_neg (by omega)] at hLi
    obtain ⟨o2, ho2, hin⟩ := hopi he2
    cases hlk : look d e2 with
    | none => rfl
    | some x =>
      obtain ⟨q2, hq2⟩ := hq' he2
      have hslot := fact_slot (hfacts i o2 e2 q2 (nox he2 (t := d) (by rw [hlk]; simp)) ho2 he2 hq2) (t := d) (by rw [hlk]; simp)
      rcases drawOk_order hok hcl ho ho2 hi2 hin with h | h
      · rw [h hLi] at hjL; cases hjL
      · exact absurd hslot ((alien_spec h).1 d hdd).2
  have hsz : ∀ u, (a.put o.dst u).tmps.size = C.n := fun u => by rw [← hi.size]; cases o.dst <;> simp [Act.put]
  have hT : ∀ {u : Value} {t x T}, look t (onL L 0 es base) = some (x, T) → (Holds (a.put o.dst u).tmps T ↔ Holds a.tmps T) := fun {u t x T} hl => by
    cases hdd : o.dst with
    | none => exact Iff.rfl
    | some d => exact Holds.set fun p hp => (hd1 d hdd).2.2.1 (t, x, T) (mem_of_look hl) p hp
  have hGd : ∀ {u : Value}, Holds (a.put o.dst u).tmps G ↔ Holds a.tmps G := fun {u} => by
    cases hdd : o.dst with
    | none => exact Iff.rfl
    | some d => exact Holds.set (hd1 d hdd).2.1
  have hget : ∀ u t, o.dst ≠ some t → (a.put o.dst u).tmps[t]? = a.tmps[t]? := fun u t ht => by
    cases hdd : o.dst with
    | none => rfl
    | some d => exact Array.getElem?_setIfInBounds_ne (fun e => ht (by rw [hdd, e]))
  have hgetd : ∀ u d, o.dst = some d → (a.put o.dst u).tmps[d]? = some u := fun u d hdd => by
    have := (hd1 d hdd).1
    rw [hdd]
    simp [Act.put, hi.size, this]
  have hpdd : ∀ p ∈ pdL L 0 qs, ∀ u, (a.put o.dst u).tmps[p.d]? = a.tmps[p.d]? := fun p hp u => hget u p.d fun e => (hd1 p.d e).2.2.2 p hp rfl
  -- and what they hold
  have behind : ∀ {w' : World} {S' : Nat → Prop} {u : Value}, Hp w' S' tab pl → Fr w (fun b => ∃ i, Own tab pl i b) w' → (∀ b, S b → S' b ∧ w'.heap[b]? = w.heap[b]?) → (∀ b, S' b → S b ∨ w.heap.size ≤ b) →
      (Holds a.tmps G ∧ v.R w' S' tab pl u ∨ ¬ Holds a.tmps G ∧ u = undef) → PendsR w0.heap.size w' S' tab pl (a.put o.dst u).tmps (pdL L' 0 qs) → Mid C tab base es qs w0 S0 O0 pl0 L' (a.put o.dst u) w' := by
    intro w' S' u hp' hf hup hsub hv hpend
    have henv' := hi.env.keep (w' := w') (S' := S') (fun b hb hlt => hup b hb) hi.hp.stable (fun i => Keep.refl tab pl i)
    refine ⟨⟨S', pl, ⟨hp', hi.fr.step hf (fun b ⟨i, ho⟩ => hi.own i b ho), hi.own, hi.fix, hi.fresh, fun b hb => (hup b (hi.up b hb)).1, fun b hb => (hsub b hb).elim (hi.sub b) (fun h => .inr (Nat.le_trans hi.fr.size h)), fun t x T hl hh => ?_, hsz u, by cases o.dst <;> exact hi.defers, hpend⟩⟩, fun t x T hl hh => ?_⟩
    · by_cases hdt : o.dst = some t
      · rw [look_dst t hdt] at hl
        simp only [Option.some.injEq, Prod.mk.injEq] at hl
        obtain ⟨rfl, rfl⟩ := hl
        have := hGd.1 hh
        refine ⟨u, hgetd u t hdt, ?_⟩
        rcases hv with ⟨_, hv⟩ | ⟨hn, _⟩
        · exact hv
        · exact absurd this hn
      · rw [look_other t hdt] at hl
        obtain ⟨y, h1, h2⟩ := henv' t x T hl ((hT hl).1 hh)
        exact ⟨y, by rw [hget u t hdt]; exact h1, h2⟩
    · by_cases hdt : o.dst = some t
      · rw [look_dst t hdt] at hl
        simp only [Option.some.injEq, Prod.mk.injEq] at hl
        obtain ⟨rfl, rfl⟩ := hl
        rcases hv with ⟨hh', _⟩ | ⟨_, rfl⟩
        · exact absurd (hGd.2 hh') hh
        · exact hgetd _ t hdt
      · rw [look_other t hdt] at hl
        rw [hget u t hdt]
        exact hu t x T hl (fun k => hh ((hT hl).2 k))
  -- without an effect on what was there
  have calm : ∀ {w' : World} {S' : Nat → Prop} {u : Value}, qj = none → Fr w (fun _ => False) w' → (∀ b, S b → S' b) → (∀ b, S' b → S b ∨ w.heap.size ≤ b) → (∀ b, S' b → b < w'.heap.size) →
      (Holds a.tmps G ∧ v.R w' S' tab pl u ∨ ¬ Holds a.tmps G ∧ u = undef) → Mid C tab base es qs w0 S0 O0 pl0 L' (a.put o.dst u) w' := by
    intro w' S' u hqn hf hup hsub hlt hv
    have hall : ∀ b, b < w.heap.size → w'.heap[b]? = w.heap[b]? := fun b hb => hf.block b hb (fun k => k)
    have hp' : Hp w' S' tab pl := hi.hp.grow hup hlt (fun i b ho hb => (hsub b hb).elim (hi.hp.off i b ho) (fun h => by have := hi.hp.lt ho; omega)) (fun b hb => hall b (hb.elim (hi.hp.stable b) (fun ⟨i, ho⟩ => hi.hp.lt ho)))
    refine behind hp' ⟨hf.os, hf.tape, hf.output, hf.size, fun b hb _ => hall b hb⟩ (fun b hb => ⟨hup b hb, hall b (hi.hp.stable b hb)⟩) hsub hv ?_
    have hk := hi.pend.keep (w' := w') (S' := S') (tmps' := (a.put o.dst u).tmps) hi.hp hall hf.size hup hsub (fun p hp => hpdd p hp u)
    have hmem : ∀ p, p ∈ pdL L' 0 qs → p ∈ pdL L 0 qs := fun p hp => by
      obtain ⟨i, h1, h2⟩ := mem_pdL.1 hp
      refine mem_pdL.2 ⟨i, h1, ?_⟩
      rw [Nat.zero_add] at h2 ⊢
      rw [hL'] at h2
      split at h2
      · rename_i hij
        subst hij
        rw [hqj, hqn] at h1
        cases h1
      · exact h2
    obtain ⟨bs, h1, h2⟩ := hk
    exact ⟨bs, fun p hp => h1 p (hmem p hp), fun p hp q hq => h2 p (hmem p hp) q (hmem q hq)⟩
  unfold wpOp
  simp only [ho]
  cases qj with
  | none =>
    obtain ⟨G', v', hp2, _, _, hE2, hfr⟩ := hfact
    have hGG : G' = G := by rw [hp] at hp2; exact (Option.some.inj hp2).symm
    subst hGG
    split
    · rename_i hwt
      have hG := hw.1 hwt
      refine .inl ?_
      have hvv : o.dst = none ∨ v' = v := by
        cases hdd : o.dst with
        | none => exact .inl rfl
        | some d =>
          right
          rw [hdd] at hE hE2
          rw [hE] at hE2
          simp only [List.cons.injEq, Prod.mk.injEq, and_true, true_and] at hE2
          exact hE2.symm
      have rv : ∀ {w' : World} {S' : Nat → Prop} {u : Value}, v'.R w' S' tab pl u → Fr w (fun _ => False) w' → (∀ b, S b → S' b) → (∀ b, S' b → S b ∨ w.heap.size ≤ b) → (∀ b, S' b → b < w'.heap.size) → Mid C tab base es qs w0 S0 O0 pl0 L' (a.put o.dst u) w' := fun {w' S' u} hv h1 h2 h3 h4 => by
        rcases hvv with hdd | rfl
        · -- nothing is written
          have hall : ∀ b, b < w.heap.size → w'.heap[b]? = w.heap[b]? := fun b hb => h1.block b hb (fun k => k)
          have hp' : Hp w' S' tab pl := hi.hp.grow h2 h4 (fun i b ho hb => (h3 b hb).elim (hi.hp.off i b ho) (fun h => by have := hi.hp.lt ho; omega)) (fun b hb => hall b (hb.elim (hi.hp.stable b) (fun ⟨i, ho⟩ => hi.hp.lt ho)))
          have henv' := hi.env.keep (w' := w') (S' := S') (fun b hb hlt => ⟨h2 b hb, hall b hlt⟩) hi.hp.stable (fun i => Keep.refl tab pl i)
          have hk := hi.pend.keep (w' := w') (S' := S') (tmps' := (a.put o.dst u).tmps) hi.hp hall h1.size h2 h3 (fun p hp => hpdd p hp u)
          have hmem : ∀ p, p ∈ pdL L' 0 qs → p ∈ pdL L 0 qs := fun p hp => by
            obtain ⟨i, g1, g2⟩ := mem_pdL.1 hp
            refine mem_pdL.2 ⟨i, g1, ?_⟩
            rw [Nat.zero_add] at g2 ⊢
            rw [hL'] at g2
            split at g2
            · rename_i hij
              subst hij
              rw [hqj] at g1
              cases g1
            · exact g2
          obtain ⟨bs, g1, g2⟩ := hk
          have hlk : ∀ t, look t (onL L' 0 es base) = look t (onL L 0 es base) := fun t => look_other t (by rw [hdd]; simp)
          rw [hdd] at g1 ⊢
          exact ⟨⟨S', pl, ⟨hp', hi.fr.step h1 (fun b k => k.elim), hi.own, hi.fix, hi.fresh, fun b hb => h2 b (hi.up b hb), fun b hb => (h3 b hb).elim (hi.sub b) (fun h => .inr (Nat.le_trans hi.fr.size h)), fun t x T hl hh => henv' t x T (by rw [← hlk t]; exact hl) hh, hi.size, hi.defers, bs, fun p hp => g1 p (hmem p hp), fun p hp q hq => g2 p (hmem p hp) q (hmem q hq)⟩⟩, fun t x T hl hh => hu t x T (by rw [← hlk t]; exact hl) hh⟩
        · exact calm rfl h1 h2 h3 h4 (.inl ⟨hG, hv⟩)
      rcases hfr hi.hp he' hu' hG with ⟨u, w', hrun, S', k1, k2, k3, k4, hv⟩ | ⟨fid, vs, hrun, hc⟩
      · unfold Oper.wp
        rw [hrun, Oper.upon_value]
        exact rv hv k1 k2 k3 k4
      · refine wp_of_calls hrun (R := fun u' w' => ∃ S' : Nat → Prop, Fr w (fun _ => False) w' ∧ (∀ b, S b → S' b) ∧ (∀ b, S' b → S b ∨ w.heap.size ≤ b) ∧ (∀ b, S' b → b < w'.heap.size) ∧ v'.R w' S' tab pl u') (hc.mono fun e w' ⟨u, h1, h2⟩ => ⟨u, h1, h2⟩) fun u' w' ⟨S', k1, k2, k3, k4, k5⟩ => rv k5 k1 k2 k3 k4
    · rename_i hwt
      exact calm rfl (Fr.refl w _) (fun b hb => hb) (fun b hb => .inl hb) hi.hp.stable (.inr ⟨fun hG => hwt (hw.2 hG), rfl⟩)
  | some p =>
    obtain ⟨hp2, _, hdst, hE2, hmk⟩ := hfact
    have hGG : G = [] := by rw [hp] at hp2; exact Option.some.inj hp2
    subst hGG
    have hvd : v = .dd := by
      rw [hdst] at hE
      rw [hE2] at hE
      simp only [List.cons.injEq, Prod.mk.injEq, and_true, true_and] at hE
      exact hE.symm
    subst hvd
    split
    · rename_i hwt
      refine .inl ?_
      obtain ⟨u, w', hrun, hp', hfr, hS, hmake, hpr⟩ := hmk hi.hp he'
      unfold Oper.wp
      rw [hrun, Oper.upon_value]
      refine behind hp' hfr (fun b hb => ⟨hb, hS b hb⟩) (fun b hb => .inl hb) (.inl ⟨holds_nil, trivial⟩) ?_
      obtain ⟨b, hb, hpp⟩ := hpr w0.heap.size (a.put o.dst u).tmps hi.fr.size (hgetd u p.d hdst)
      obtain ⟨bs, h1, h2⟩ := hi.pend
      have hmem : ∀ q, q ∈ pdL L' 0 qs → q = p ∨ q ∈ pdL L 0 qs := fun q hq => by
        obtain ⟨i, g1, g2⟩ := mem_pdL.1 hq
        rw [Nat.zero_add, hL'] at g2
        split at g2
        · rename_i hij
          subst hij
          rw [hqj] at g1
          exact .inl (Option.some.inj (Option.some.inj g1)).symm
        · exact .inr (mem_pdL.2 ⟨i, g1, by rw [Nat.zero_add]; exact g2⟩)
      have hne : ∀ q ∈ pdL L 0 qs, q.d ≠ p.d := fun q hq => (hd1 p.d hdst).2.2.2 q hq
      have hothers : ∀ q ∈ pdL L 0 qs, PendR w0.heap.size w' S tab pl (a.put o.dst u).tmps (bs q.d) q ∧ ∀ c, bs q.d = some c → c < w.heap.size := fun q hq => by
        have hlt : ∀ c, bs q.d = some c → c < w.heap.size := fun c hc => by
          have := h1 q hq
          cases q with
          | make d e => obtain ⟨_, _, b', _, _, g3, g4⟩ := this; rw [hc] at g3; rw [Option.some.inj g3]; exact g4.2.1
          | app d i j' eid e xs =>
            obtain ⟨_, _, _, _, _, _, _, _, g⟩ := this
            rcases g with ⟨_, g⟩ | ⟨b', _, g, g'⟩
            · rw [hc] at g; cases g
            · rw [hc] at g; rw [Option.some.inj g]; exact g'.2.1
        refine ⟨?_, hlt⟩
        obtain ⟨i, g1, g2⟩ := mem_pdL.1 hq
        have hij : i ≠ j := fun e => by subst e; rw [Nat.zero_add, hjL] at g2; cases g2
        rcases hone with hone | hone
        · have hfr' := hmake (hone p (List.mem_of_getElem? hqj))
          exact (h1 q hq).keep hi.hp (fun b hb => hfr'.block b hb (fun k => k)) hfr'.size (fun _ h => h) (fun _ h => .inl h) (hpdd q hq u)
        · exact absurd (hone i j q p g1 hqj) hij
      refine ⟨fun d => if d = p.d then b else bs d, fun q hq => ?_, fun q hq q' hq' c hc hc' => ?_⟩
      case refine_2 =>
        simp only at hc hc'
        rcases hmem q hq with rfl | hq1 <;> rcases hmem q' hq' with rfl | hq1'
        · rfl
        · simp only [if_pos] at hc
          rw [if_neg (hne q' hq1')] at hc'
          have := (hothers q' hq1').2 c hc'
          rcases hb with rfl | rfl
          · cases hc
          · rw [← Option.some.inj hc] at this; omega
        · simp only [if_pos] at hc'
          rw [if_neg (hne q hq1)] at hc
          have := (hothers q hq1).2 c hc
          rcases hb with rfl | rfl
          · cases hc'
          · rw [← Option.some.inj hc'] at this; omega
        · rw [if_neg (hne q hq1)] at hc
          rw [if_neg (hne q' hq1')] at hc'
          exact h2 q hq1 q' hq1' c hc hc'
      · rcases hmem q hq with rfl | hq
        · simp only [if_pos]; exact hpp
        · show PendR _ _ _ _ _ _ (if q.d = p.d then b else bs q.d) q
          rw [if_neg (hne q hq)]; exact (hothers q hq).1
    · rename_i hwt
      exact absurd (hw.2 holds_nil) hwt

end
end Go.Lg
