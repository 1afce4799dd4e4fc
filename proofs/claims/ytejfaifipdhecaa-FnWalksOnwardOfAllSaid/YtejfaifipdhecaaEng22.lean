/-
  Regions that draw their order, the last part.
-/
import Derived.Test.YtejfaifipdhecaaEng21
set_option linter.unusedVariables false
set_option linter.unusedSimpArgs false
namespace Go.Lg
open Go.RowKit

section
variable {P : Program} {C : Ctx} {ops : Array Oper} {tab : List Ent} {base : Env} {es : List Env} {qs : List (Option Pend)} {n : Nat} {w0 : World} {S0 O0 : Nat → Prop} {pl0 : List Value}

/-- The state in the midst of a region that draws its order. -/
def OkW (C : Ctx) (w0 : World) (S0 O0 : Nat → Prop) (pl0 : List Value) (s : St) (ps : List Pend) (a : Act) (w : World) : Prop :=
  (∃ S pl, Inv C w0 S0 O0 pl0 s a w S pl ∧ PendsW w0.heap.size w S s.tab pl a.tmps ps) ∧ UndefR s.env a.tmps

/-- The operations of L have been carried out. -/
def Mid (C : Ctx) (tab : List Ent) (base : Env) (es : List Env) (qs : List (Option Pend)) (w0 : World) (S0 O0 : Nat → Prop) (pl0 : List Value) (L : Nat → Bool) (a : Act) (w : World) : Prop :=
  OkW C w0 S0 O0 pl0 ⟨onL L 0 es base, tab, []⟩ (pdL L 0 qs) a w

def HFact (P : Program) (C : Ctx) (ops : Array Oper) (tab : List Ent) (env : Env) (pd : List Pend) (o : Oper) (e : Env) (q : Option Pend) : Prop :=
  match q with
  | none => Fact P C ops tab env pd o e
  | some p => PFact P C ops tab env pd o p e

theorem fact_slot {env : Env} {pd : List Pend} {o : Oper} {e : Env} {q : Option Pend} (h : HFact P C ops tab env pd o e q) {t : Nat} (hn : look t e ≠ none) : o.dst = some t := by
  cases q with
  | none =>
    obtain ⟨G, v, _, _, _, rfl, _⟩ := h
    cases hd : o.dst with
    | none => rw [hd] at hn; simp [look] at hn
    | some d =>
      rw [hd] at hn
      simp only [look_cons] at hn
      by_cases e : d = t
      · rw [e]
      · rw [if_neg e] at hn; simp [look] at hn
  | some p =>
    obtain ⟨_, _, _, rfl, _⟩ := h
    cases hd : o.dst with
    | none => rw [hd] at hn; simp [look] at hn
    | some d =>
      rw [hd] at hn
      simp only [look_cons] at hn
      by_cases e : d = t
      · rw [e]
      · rw [if_neg e] at hn; simp [look] at hn

/-- What one operation of the head puts, its path condition, and that its slot is free. -/
theorem fact_put {env : Env} {pd : List Pend} {o : Oper} {e : Env} {q : Option Pend} (h : HFact P C ops tab env pd o e q) : ∃ G v, pathOf ⟨limit (slotsOf ops o) env, tab, []⟩ ops o.guard = some G ∧ dstOk C ⟨env, tab, pd⟩ G o.dst = true ∧ (∀ q ∈ G, q.1 ∈ slotsOf ops o) ∧
    e = (match o.dst with | some d => [(d, v, G)] | none => []) := by
  cases q with
  | none => obtain ⟨G, v, h1, h2, h3, h4, _⟩ := h; exact ⟨G, v, h1, h2, h3, h4⟩
  | some p => obtain ⟨h1, h2, _, h4, _⟩ := h; exact ⟨[], .dd, h1, h2, fun q hq => by simp at hq, h4⟩

/-- One operation of the head comes up. -/
theorem head_step {X : List Nat} (hok : headOk ops n X = true) (hes : es.length = (ops.toList.take n).length) (hqs : qs.length = es.length) (hone : (∀ p, some p ∈ qs → isMake p = true) ∨ ∀ (i j : Nat) (p q : Pend), qs[i]? = some (some p) → qs[j]? = some (some q) → i = j)
    (hX : ∀ i, has i X = true → i < es.length → es[i]? = some [] ∧ qs[i]? = some none)
    (hfacts : ∀ j o e q, has j X = false → ops[j]? = some o → es[j]? = some e → qs[j]? = some q → HFact P C ops tab (onL (fun i => decide (i < j)) 0 es base) (pdL (fun i => decide (i < j)) 0 qs) o e q)
    {L L' : Nat → Bool} (hcl : Closed ops L) {j : Nat} {o : Oper} (ho : ops[j]? = some o) (hjn : j < n) (hjX : has j X = false) (hjL : L j = false) (hdeps : ∀ e ∈ o.after, Region.binds .any e = true → L e.on = true) (hL' : ∀ i, L' i = if i = j then true else L i)
    {a : Act} {w : World} (hm : Mid C tab base es qs w0 S0 O0 pl0 L a w) {Q : Exit → Act → World → Prop} :
    wpOp P ops Q j (fun a' w' => Mid C tab base es qs w0 S0 O0 pl0 L' a' w') a w := by
  have hjs : j < ops.size := (Array.getElem?_eq_some_iff.1 ho).1
  have hje : j < es.length := by rw [hes, List.length_take, Array.length_toList]; omega
  obtain ⟨e, he⟩ : ∃ e, es[j]? = some e := ⟨es[j], List.getElem?_eq_getElem hje⟩
  obtain ⟨qj, hqj⟩ : ∃ q, qs[j]? = some q := ⟨qs[j]'(by omega), List.getElem?_eq_getElem (by omega)⟩
  have hopi : ∀ {i : Nat} {e' : Env}, es[i]? = some e' → ∃ o', ops[i]? = some o' ∧ i < n := fun {i e'} h => by
    have hlt := (List.getElem?_eq_some_iff.1 h).1
    rw [hes, List.length_take, Array.length_toList] at hlt
    exact ⟨ops[i]'(by omega), Array.getElem?_eq_getElem (by omega), by omega⟩
  have hq' : ∀ {i : Nat} {e' : Env}, es[i]? = some e' → ∃ q, qs[i]? = some q := fun {i e'} h => ⟨qs[i]'(by have := (List.getElem?_eq_some_iff.1 h).1; omega), List.getElem?_eq_getElem _⟩
  have hfact := hfacts j o e qj hjX ho he hqj
  have nox : ∀ {i : Nat} {e' : Env} {t : Nat}, es[i]? = some e' → look t e' ≠ none → has i X = false := fun {i e' t} h1 h2 => by
    cases hb : has i X with
    | false => rfl
    | true =>
      have := (hX i hb (List.getElem?_eq_some_iff.1 h1).1).1
      rw [h1] at this
      obtain rfl := Option.some.inj this
      exact absurd rfl h2
  have noxq : ∀ {i : Nat} {p : Pend}, qs[i]? = some (some p) → has i X = false := fun {i p} h1 => by
    cases hb : has i X with
    | false => rfl
    | true =>
      have := (hX i hb (by have := (List.getElem?_eq_some_iff.1 h1).1; omega)).2
      rw [h1] at this
      cases this
  obtain ⟨G, v, hp, hd, hGs, hE⟩ := fact_put hfact
  -- L with j is closed too
  have hcl' : Closed ops L' := fun q oq hq hLq e' he' hb => by
    rw [hL'] at hLq ⊢
    split
    · rfl
    · split at hLq
      · rename_i hqj
        subst hqj
        rw [ho] at hq
        obtain rfl := Option.some.inj hq
        exact hdeps e' he' hb
      · exact hcl q oq hq hLq e' he' hb
  -- who touches a slot of o before it is in L, who comes behind is not
  have order : ∀ {i : Nat} {e' : Env}, es[i]? = some e' → ∀ o', ops[i]? = some o' → i ≠ j → (L i = decide (i < j)) ∨ (i < j ∧ alien (o'.dst, slotsOf ops o') (o.dst, slotsOf ops o) = true) ∨ (j < i ∧ alien (o.dst, slotsOf ops o) (o'.dst, slotsOf ops o') = true) := fun {i e'} he' o' ho' hij => by
    obtain ⟨_, _, hin⟩ := hopi he'
    by_cases hlt : i < j
    · rcases drawOk_order hok hcl' ho' ho hlt hjn with h | h
      · left
        have := h (by rw [hL', if_pos rfl])
        rw [hL', if_neg hij] at this
        simp [this, hlt]
      · exact .inr (.inl ⟨hlt, h⟩)
    · have hgt : j < i := by omega
      rcases drawOk_order hok hcl ho ho' hgt hin with h | h
      · left
        cases hb : L i with
        | false => simp [hlt]
        | true => rw [h hb] at hjL; cases hjL
      · exact .inr (.inr ⟨hgt, h⟩)
  have agree : ∀ t ∈ slotsOf ops o, look t (onL (fun i => decide (i < j)) 0 es base) = look t (onL L 0 es base) := fun t ht => by
    refine onL_agree (fun i e' he' hn => ?_) rfl
    rw [Nat.zero_add]
    obtain ⟨o', ho', hin⟩ := hopi he'
    obtain ⟨q', hq''⟩ := hq' he'
    have hslot := fact_slot (hfacts i o' e' q' (nox he' hn) ho' he' hq'') hn
    by_cases hij : i = j
    · subst hij; simp [hjL]
    · rcases order he' o' ho' hij with h | ⟨_, h⟩ | ⟨_, h⟩
      · exact h.symm
      · exact absurd ht ((alien_spec h).1 t hslot).1
      · exact absurd ht ((alien_spec h).2 t hslot)
  obtain ⟨⟨S, pl, hi, hpw⟩, hu⟩ := hm
  have he' : EnvR w S tab pl (limit (slotsOf ops o) (onL (fun i => decide (i < j)) 0 es base)) a.tmps := fun t x T hl hT => by
    rw [look_limit] at hl
    split at hl
    · rename_i ht; rw [agree t ht] at hl; exact hi.env t x T hl hT
    · cases hl
  have hu' : UndefR (limit (slotsOf ops o) (onL (fun i => decide (i < j)) 0 es base)) a.tmps := fun t x T hl hT => by
    rw [look_limit] at hl
    split at hl
    · rename_i ht; rw [agree t ht] at hl; exact hu t x T hl hT
    · cases hl
  have hw := path_holds (s := ⟨limit (slotsOf ops o) (onL (fun i => decide (i < j)) 0 es base), tab, []⟩) hu' hp
  -- the entries of the state behind
  have hd1 : ∀ d, o.dst = some d → d < C.n ∧ (∀ p ∈ G, p.1 ≠ d) ∧ (∀ p ∈ onL L 0 es base, ∀ q ∈ p.2.2, q.1 ≠ d) ∧ ∀ p ∈ pdL L 0 qs, p.d ≠ d := fun d hdd => by
    rw [hdd] at hd
    have hd0 := hd
    simp only [dstOk, Bool.and_eq_true, List.all_eq_true, Bool.not_eq_true'] at hd
    obtain ⟨⟨⟨k1, k2⟩, k3⟩, k4⟩ := hd
    refine ⟨by rwa [Nat.blt_eq] at k1, fun p hp => Nat.ne_of_beq_eq_false (k2 p hp), fun p hp q hq => ?_, fun p hp => ?_⟩
    · rcases mem_onL.1 hp with hp | ⟨i, e2, h1, h2, h3⟩
      · exact Nat.ne_of_beq_eq_false (k3 p (mem_onL.2 (.inl hp)) q hq)
      · rw [Nat.zero_add] at h2
        obtain ⟨o2, ho2, hin⟩ := hopi h1
        have hij : i ≠ j := fun e => by subst e; rw [hjL] at h2; cases h2
        by_cases hlt : i < j
        · exact Nat.ne_of_beq_eq_false (k3 p (mem_onL.2 (.inr ⟨i, e2, h1, by simpa using hlt, h3⟩)) q hq)
        · have hgt : j < i := by omega
          have hiX : has i X = false := by
            cases hb : has i X with
            | false => rfl
            | true =>
              have := (hX i hb (List.getElem?_eq_some_iff.1 h1).1).1
              rw [h1] at this
              obtain rfl := Option.some.inj this
              simp at h3
          obtain ⟨q2, hq2⟩ := hq' h1
          obtain ⟨G2, v2, _, _, hGs2, hE2⟩ := fact_put (hfacts i o2 e2 q2 hiX ho2 h1 hq2)
          rcases drawOk_order hok hcl ho ho2 hgt hin with h | h
          · rw [h h2] at hjL; cases hjL
          · have hp2 : p.2.2 = G2 := by
              rw [hE2] at h3
              cases hd2 : o2.dst with
              | none => rw [hd2] at h3; simp at h3
              | some d2 => rw [hd2] at h3; simp only [List.mem_singleton] at h3; rw [h3]
            rw [hp2] at hq
            intro heq
            exact ((alien_spec h).1 d hdd).1 (heq ▸ hGs2 q hq)
    · obtain ⟨i, h1, h2⟩ := mem_pdL.1 hp
      rw [Nat.zero_add] at h2
      have hij : i ≠ j := fun e => by subst e; rw [hjL] at h2; cases h2
      by_cases hlt : i < j
      · exact Nat.ne_of_beq_eq_false (k4 p (mem_pdL.2 ⟨i, h1, by simpa using hlt⟩))
      · have hgt : j < i := by omega
        have hie : i < es.length := by have := (List.getElem?_eq_some_iff.1 h1).1; omega
        obtain ⟨o2, ho2, hin⟩ := hopi (List.getElem?_eq_getElem hie)
        obtain ⟨_, _, h3, _, _⟩ : PFact P C ops tab _ _ o2 p _ := hfacts i o2 _ (some p) (noxq h1) ho2 (List.getElem?_eq_getElem hie) h1
        rcases drawOk_order hok hcl ho ho2 hgt hin with h | h
        · rw [h h2] at hjL; cases hjL
        · intro heq
          rcases h3 with h3 | h3
          · exact ((alien_spec h).1 d hdd).2 (by rw [← heq]; exact h3)
          · exact ((alien_spec h).1 d hdd).1 (by rw [← heq]; exact h3)
  -- the slots behind
  have look_other : ∀ t, o.dst ≠ some t → look t (onL L' 0 es base) = look t (onL L 0 es base) := fun t ht => by
    refine onL_agree (fun i e2 he2 hn => ?_) rfl
    rw [Nat.zero_add, hL']
    split
    · rename_i hij
      subst hij
      rw [he] at he2
      obtain rfl := Option.some.inj he2
      rw [hE] at hn
      cases hdd : o.dst with
      | none => rw [hdd] at hn; simp [look] at hn
      | some d =>
        rw [hdd] at hn ht
        rw [look_cons, if_neg (fun e => ht (by rw [e]))] at hn
        simp [look] at hn
    · rfl
  have look_dst : ∀ d, o.dst = some d → look d (onL L' 0 es base) = some (v, G) := fun d hdd => by
    refine onL_last (j := j) he (by rw [Nat.zero_add, hL', if_pos rfl]) (by rw [hE, hdd]; simp [look_cons]) fun i e2 hi2 he2 hLi => ?_
    rw [Nat.zero_add, hL', if_neg (by omega)] at hLi
    obtain ⟨o2, ho2, hin⟩ := hopi he2
    cases hlk : look d e2 with
    | none => rfl
    | some x =>
      obtain ⟨q2, hq2⟩ := hq' he2
      have hslot := fact_slot (hfacts i o2 e2 q2 (nox he2 (t := d) (by rw [hlk]; simp)) ho2 he2 hq2) (t := d) (by rw [hlk]; simp)
      rcases drawOk_order hok hcl ho ho2 hi2 hin with h | h
      · rw [h hLi] at hjL; cases hjL
      · exact absurd hslot ((alien_spec h).1 d hdd).2
  have hsz : ∀ u, (a.put o.dst u).tmps.size = C.n := fun u => by rw [← hi.size]; cases o.dst <;> simp [Act.put]
  have hT : ∀ {u : Value} {t x T}, look t (onL L 0 es base) = some (x, T) → (Holds (a.put o.dst u).tmps T ↔ Holds a.tmps T) := fun {u t x T} hl => by
    cases hdd : o.dst with
    | none => exact Iff.rfl
    | some d => exact Holds.set fun p hp => (hd1 d hdd).2.2.1 (t, x, T) (mem_of_look hl) p hp
  have hGd : ∀ {u : Value}, Holds (a.put o.dst u).tmps G ↔ Holds a.tmps G := fun {u} => by
    cases hdd : o.dst with
    | none => exact Iff.rfl
    | some d => exact Holds.set (hd1 d hdd).2.1
  have hget : ∀ u t, o.dst ≠ some t → (a.put o.dst u).tmps[t]? = a.tmps[t]? := fun u t ht => by
    cases hdd : o.dst with
    | none => rfl
    | some d => exact Array.getElem?_setIfInBounds_ne (fun e => ht (by rw [hdd, e]))
  have hgetd : ∀ u d, o.dst = some d → (a.put o.dst u).tmps[d]? = some u := fun u d hdd => by
    have := (hd1 d hdd).1
    rw [hdd]
    simp [Act.put, hi.size, this]
  have hpdd : ∀ p ∈ pdL L 0 qs, ∀ u, (a.put o.dst u).tmps[p.d]? = a.tmps[p.d]? := fun p hp u => hget u p.d fun e => (hd1 p.d e).2.2.2 p hp rfl
  -- and what they hold
  have behind : ∀ {w' : World} {S' : Nat → Prop} {u : Value} {O : Nat → Prop}, (∀ b, O b → O0 b ∨ w0.heap.size ≤ b) → Hp w' S' tab pl → Fr w O w' → (∀ b, S b → S' b ∧ w'.heap[b]? = w.heap[b]?) → (∀ b, S' b → S b ∨ w.heap.size ≤ b) →
      (Holds a.tmps G ∧ v.R w' S' tab pl u ∨ ¬ Holds a.tmps G ∧ u = undef) → PendsW w0.heap.size w' S' tab pl (a.put o.dst u).tmps (pdL L' 0 qs) → Mid C tab base es qs w0 S0 O0 pl0 L' (a.put o.dst u) w' := by
    intro w' S' u O hO hp' hf hup hsub hv hpend
    have henv' := hi.env.keep (w' := w') (S' := S') (fun b hb hlt => hup b hb) hi.hp.stable (fun i => Keep.refl tab pl i)
    refine ⟨⟨S', pl, ⟨hp', hi.fr.step hf hO, hi.own, hi.fix, hi.fresh, fun b hb => (hup b (hi.up b hb)).1, fun b hb => (hsub b hb).elim (hi.sub b) (fun h => .inr (Nat.le_trans hi.fr.size h)), fun t x T hl hh => ?_, hsz u, by cases o.dst <;> exact hi.defers, PendsR.nil rfl⟩, hpend⟩, fun t x T hl hh => ?_⟩
    · by_cases hdt : o.dst = some t
      · rw [look_dst t hdt] at hl
        simp only [Option.some.injEq, Prod.mk.injEq] at hl
        obtain ⟨rfl, rfl⟩ := hl
        have := hGd.1 hh
        refine ⟨u, hgetd u t hdt, ?_⟩
        rcases hv with ⟨_, hv⟩ | ⟨hn, _⟩
        · exact hv
        · exact absurd this hn
      · rw [look_other t hdt] at hl
        obtain ⟨y, h1, h2⟩ := henv' t x T hl ((hT hl).1 hh)
        exact ⟨y, by rw [hget u t hdt]; exact h1, h2⟩
    · by_cases hdt : o.dst = some t
      · rw [look_dst t hdt] at hl
        simp only [Option.some.injEq, Prod.mk.injEq] at hl
        obtain ⟨rfl, rfl⟩ := hl
        rcases hv with ⟨hh', _⟩ | ⟨_, rfl⟩
        · exact absurd (hGd.2 hh') hh
        · exact hgetd _ t hdt
      · rw [look_other t hdt] at hl
        rw [hget u t hdt]
        exact hu t x T hl (fun k => hh ((hT hl).2 k))
  -- without an effect on what was there
  have calm : ∀ {w' : World} {S' : Nat → Prop} {u : Value}, qj = none → Fr w (fun _ => False) w' → (∀ b, S b → S' b) → (∀ b, S' b → S b ∨ w.heap.size ≤ b) → (∀ b, S' b → b < w'.heap.size) →
      (Holds a.tmps G ∧ v.R w' S' tab pl u ∨ ¬ Holds a.tmps G ∧ u = undef) → Mid C tab base es qs w0 S0 O0 pl0 L' (a.put o.dst u) w' := by
    intro w' S' u hqn hf hup hsub hlt hv
    have hall : ∀ b, b < w.heap.size → w'.heap[b]? = w.heap[b]? := fun b hb => hf.block b hb (fun k => k)
    have hp' : Hp w' S' tab pl := hi.hp.grow hup hlt (fun i b ho hb => (hsub b hb).elim (hi.hp.off i b ho) (fun h => by have := hi.hp.lt ho; omega)) (fun b hb => hall b (hb.elim (hi.hp.stable b) (fun ⟨i, ho⟩ => hi.hp.lt ho)))
    refine behind (O := fun _ => False) (fun b k => k.elim) hp' ⟨hf.os, hf.tape, hf.output, hf.size, fun b hb _ => hall b hb⟩ (fun b hb => ⟨hup b hb, hall b (hi.hp.stable b hb)⟩) hsub hv ?_
    have hk := hpw.keep (w' := w') (S' := S') (tmps' := (a.put o.dst u).tmps) hi.hp hall hf.size hup hsub (fun p hp => hpdd p hp u)
    have hmem : ∀ p, p ∈ pdL L' 0 qs → p ∈ pdL L 0 qs := fun p hp => by
      obtain ⟨i, h1, h2⟩ := mem_pdL.1 hp
      refine mem_pdL.2 ⟨i, h1, ?_⟩
      rw [Nat.zero_add] at h2 ⊢
      rw [hL'] at h2
      split at h2
      · rename_i hij
        subst hij
        rw [hqj, hqn] at h1
        cases h1
      · exact h2
    obtain ⟨bs, h1, h2⟩ := hk
    exact ⟨bs, fun p hp => h1 p (hmem p hp), fun p hp q hq => h2 p (hmem p hp) q (hmem q hq)⟩
  unfold wpOp
  simp only [ho]
  cases qj with
  | none =>
    obtain ⟨G', v', hp2, _, _, hE2, hfr⟩ := hfact
    have hGG : G' = G := by rw [hp] at hp2; exact (Option.some.inj hp2).symm
    subst hGG
    split
    · rename_i hwt
      have hG := hw.1 hwt
      refine .inl ?_
      have hvv : o.dst = none ∨ v' = v := by
        cases hdd : o.dst with
        | none => exact .inl rfl
        | some d =>
          right
          rw [hdd] at hE hE2
          rw [hE] at hE2
          simp only [List.cons.injEq, Prod.mk.injEq, and_true, true_and] at hE2
          exact hE2.symm
      have rv : ∀ {w' : World} {S' : Nat → Prop} {u : Value}, v'.R w' S' tab pl u → Fr w (fun _ => False) w' → (∀ b, S b → S' b) → (∀ b, S' b → S b ∨ w.heap.size ≤ b) → (∀ b, S' b → b < w'.heap.size) → Mid C tab base es qs w0 S0 O0 pl0 L' (a.put o.dst u) w' := fun {w' S' u} hv h1 h2 h3 h4 => by
        rcases hvv with hdd | rfl
        · -- nothing is written
          have hall : ∀ b, b < w.heap.size → w'.heap[b]? = w.heap[b]? := fun b hb => h1.block b hb (fun k => k)
          have hp' : Hp w' S' tab pl := hi.hp.grow h2 h4 (fun i b ho hb => (h3 b hb).elim (hi.hp.off i b ho) (fun h => by have := hi.hp.lt ho; omega)) (fun b hb => hall b (hb.elim (hi.hp.stable b) (fun ⟨i, ho⟩ => hi.hp.lt ho)))
          have henv' := hi.env.keep (w' := w') (S' := S') (fun b hb hlt => ⟨h2 b hb, hall b hlt⟩) hi.hp.stable (fun i => Keep.refl tab pl i)
          have hk := hpw.keep (w' := w') (S' := S') (tmps' := (a.put o.dst u).tmps) hi.hp hall h1.size h2 h3 (fun p hp => hpdd p hp u)
          have hmem : ∀ p, p ∈ pdL L' 0 qs → p ∈ pdL L 0 qs := fun p hp => by
            obtain ⟨i, g1, g2⟩ := mem_pdL.1 hp
            refine mem_pdL.2 ⟨i, g1, ?_⟩
            rw [Nat.zero_add] at g2 ⊢
            rw [hL'] at g2
            split at g2
            · rename_i hij
              subst hij
              rw [hqj] at g1
              cases g1
            · exact g2
          obtain ⟨bs, g1, g2⟩ := hk
          have hlk : ∀ t, look t (onL L' 0 es base) = look t (onL L 0 es base) := fun t => look_other t (by rw [hdd]; simp)
          rw [hdd] at g1 ⊢
          exact ⟨⟨S', pl, ⟨hp', hi.fr.step h1 (fun b k => k.elim), hi.own, hi.fix, hi.fresh, fun b hb => h2 b (hi.up b hb), fun b hb => (h3 b hb).elim (hi.sub b) (fun h => .inr (Nat.le_trans hi.fr.size h)), fun t x T hl hh => henv' t x T (by rw [← hlk t]; exact hl) hh, hi.size, hi.defers, PendsR.nil rfl⟩, bs, fun p hp => g1 p (hmem p hp), fun p hp q hq => g2 p (hmem p hp) q (hmem q hq)⟩, fun t x T hl hh => hu t x T (by rw [← hlk t]; exact hl) hh⟩
        · exact calm rfl h1 h2 h3 h4 (.inl ⟨hG, hv⟩)
      rcases hfr hi.hp he' hu' hG with ⟨u, w', hrun, S', k1, k2, k3, k4, hv⟩ | ⟨fid, vs, hrun, hc⟩
      · unfold Oper.wp
        rw [hrun, Oper.upon_value]
        exact rv hv k1 k2 k3 k4
      · refine wp_of_calls hrun (R := fun u' w' => ∃ S' : Nat → Prop, Fr w (fun _ => False) w' ∧ (∀ b, S b → S' b) ∧ (∀ b, S' b → S b ∨ w.heap.size ≤ b) ∧ (∀ b, S' b → b < w'.heap.size) ∧ v'.R w' S' tab pl u') (hc.mono fun e w' ⟨u, h1, h2⟩ => ⟨u, h1, h2⟩) fun u' w' ⟨S', k1, k2, k3, k4, k5⟩ => rv k5 k1 k2 k3 k4
    · rename_i hwt
      exact calm rfl (Fr.refl w _) (fun b hb => hb) (fun b hb => .inl hb) hi.hp.stable (.inr ⟨fun hG => hwt (hw.2 hG), rfl⟩)
  | some p =>
    obtain ⟨hp2, _, hslot, hE2, hcase⟩ := hfact
    have hGG : G = [] := by rw [hp] at hp2; exact Option.some.inj hp2
    subst hGG
    have hvR : ∀ {w' : World} {S' : Nat → Prop} {u : Value}, o.dst ≠ none → v.R w' S' tab pl u := fun {w' S' u} hne => by
      cases hdd : o.dst with
      | none => exact absurd hdd hne
      | some d =>
        rw [hdd] at hE
        rw [hdd] at hE2
        rw [hE2] at hE
        simp only [List.cons.injEq, Prod.mk.injEq, and_true, true_and] at hE
        rw [← hE]; trivial
    have hmem : ∀ q, q ∈ pdL L' 0 qs → q = p ∨ q ∈ pdL L 0 qs := fun q hq => by
      obtain ⟨i, g1, g2⟩ := mem_pdL.1 hq
      rw [Nat.zero_add, hL'] at g2
      split at g2
      · rename_i hij
        subst hij
        rw [hqj] at g1
        exact .inl (Option.some.inj (Option.some.inj g1)).symm
      · exact .inr (mem_pdL.2 ⟨i, g1, by rw [Nat.zero_add]; exact g2⟩)
    split
    case isFalse hwt => exact absurd (hw.2 holds_nil) hwt
    rename_i hwt
    rcases hcase with ⟨hdst, hold, hmk⟩ | ⟨p0, hp0, hmk0, hmkp, hold, hsl0, huniq, hdk, hupd⟩
    · have hvd : v = .dd := by
        rw [hdst] at hE
        rw [hE2, hdst] at hE
        simp only [List.cons.injEq, Prod.mk.injEq, and_true, true_and] at hE
        exact hE.symm
      subst hvd
      refine .inl ?_
      have made : ∀ {u : Value} {w' : World}, MadeBy tab p w S pl u w' → Mid C tab base es qs w0 S0 O0 pl0 L' (a.put o.dst u) w' := ?_
      · rcases hmk hi.hp he' with ⟨u, w', hrun, hmb⟩ | ⟨fid, vs, hrun, hc⟩
        · unfold Oper.wp
          rw [hrun, Oper.upon_value]
          exact made hmb
        · exact wp_of_calls hrun (R := fun u' w' => MadeBy tab p w S pl u' w') (hc.mono fun e w' ⟨u, h1, h2⟩ => ⟨u, h1, h2⟩) fun u' w' hmb => made hmb
      intro u w' ⟨hp', hfr, hS, hmake, hpr⟩
      refine behind (O := fun b => ∃ i, Own tab pl i b) (fun b ⟨i, ho⟩ => hi.own i b ho) hp' hfr (fun b hb => ⟨hb, hS b hb⟩) (fun b hb => .inl hb) (.inl ⟨holds_nil, trivial⟩) ?_
      obtain ⟨b, hb, hpp⟩ := hpr w0.heap.size (a.put o.dst u).tmps hi.fr.size (hgetd u p.d hdst)
      obtain ⟨bs, h1, h2⟩ := hpw
      have hne : ∀ q ∈ pdL L 0 qs, q.d ≠ p.d := fun q hq => (hd1 p.d hdst).2.2.2 q hq
      have hothers : ∀ q ∈ pdL L 0 qs, PendR w0.heap.size w' S tab pl (a.put o.dst u).tmps (bs q.d) q ∧ ∀ c, bs q.d = some c → c < w.heap.size := fun q hq => by
        have hlt : ∀ c, bs q.d = some c → c < w.heap.size := fun c hc => by
          have := h1 q hq
          cases q with
          | make d e => obtain ⟨_, _, _, _, g4⟩ := this; exact (g4 c hc).2.1
          | upd d0 d e => obtain ⟨_, _, _, _, g4⟩ := this; exact (g4 c hc).2.1
          | app d i j' eid e xs =>
            obtain ⟨_, _, _, _, _, _, _, _, g⟩ := this
            rcases g with ⟨_, g⟩ | ⟨b', _, g, g'⟩
            · rw [hc] at g; cases g
            · rw [hc] at g; rw [Option.some.inj g]; exact g'.2.1
        refine ⟨?_, hlt⟩
        obtain ⟨i, g1, g2⟩ := mem_pdL.1 hq
        have hij : i ≠ j := fun e => by subst e; rw [Nat.zero_add, hjL] at g2; cases g2
        rcases hone with hone | hone
        · have hfr' := hmake (hone p (List.mem_of_getElem? hqj))
          exact (h1 q hq).keep hi.hp (fun b hb => hfr'.block b hb (fun k => k)) hfr'.size (fun _ h => h) (fun _ h => .inl h) (hpdd q hq u)
        · exact absurd (hone i j q p g1 hqj) hij
      refine ⟨fun d => if d = p.d then b else bs d, fun q hq => ?_, fun q hq q' hq' c hc hc' => ?_⟩
      case refine_2 =>
        simp only at hc hc'
        rcases hmem q hq with rfl | hq1 <;> rcases hmem q' hq' with rfl | hq1'
        · exact .inl rfl
        · simp only [if_pos] at hc
          rw [if_neg (hne q' hq1')] at hc'
          have := (hothers q' hq1').2 c hc'
          have := hb c hc
          omega
        · simp only [if_pos] at hc'
          rw [if_neg (hne q hq1)] at hc
          have := (hothers q hq1).2 c hc
          have := hb c hc'
          omega
        · rw [if_neg (hne q hq1)] at hc
          rw [if_neg (hne q' hq1')] at hc'
          exact h2 q hq1 q' hq1' c hc hc'
      · rcases hmem q hq with rfl | hq
        · simp only [if_pos]; exact hpp
        · show PendR _ _ _ _ _ _ (if q.d = p.d then b else bs q.d) q
          rw [if_neg (hne q hq)]; exact (hothers q hq).1
    · -- what was made is changed
      refine .inl ?_
      -- it has been made
      obtain ⟨i0, g1, g2⟩ := mem_pdL.1 hp0
      rw [Nat.zero_add] at g2
      have hij0 : i0 < j := by simpa using g2
      obtain ⟨oi, hoi⟩ : ∃ oi, ops[i0]? = some oi := ⟨ops[i0]'(by omega), Array.getElem?_eq_getElem (by omega)⟩
      have hie0 : i0 < es.length := by have := (List.getElem?_eq_some_iff.1 g1).1; omega
      have hf0 : PFact P C ops tab _ _ oi p0 _ := hfacts i0 oi _ (some p0) (noxq g1) hoi (List.getElem?_eq_getElem hie0) g1
      have hL0 : L i0 = true := by
        rcases drawOk_order hok hcl' hoi ho hij0 hjn with h | h
        · have := h (by rw [hL', if_pos rfl])
          rwa [hL', if_neg (by omega)] at this
        · obtain ⟨_, _, h3, _, hc0⟩ := hf0
          have hd0 : oi.dst = some p0.d := by
            rcases hc0 with ⟨h4, _⟩ | ⟨_, _, _, ⟨_, _, _, hk0⟩, _⟩
            · exact h4
            · obtain ⟨_, _, rfl⟩ := hmk0; cases hk0
          exact absurd hsl0 ((alien_spec h).1 _ hd0).1
      have hp0L : p0 ∈ pdL L 0 qs := mem_pdL.2 ⟨i0, g1, by rw [Nat.zero_add]; exact hL0⟩
      -- nobody else speaks of its slot
      have hothers : ∀ q ∈ pdL L 0 qs, q.d = p0.d ∨ q.old = some p0.d → q = p0 := fun q hq hqd => by
        obtain ⟨i2, k1, k2⟩ := mem_pdL.1 hq
        rw [Nat.zero_add] at k2
        have hi2j : i2 ≠ j := fun e => by subst e; rw [hjL] at k2; cases k2
        by_cases hlt : i2 < j
        · exact huniq q (mem_pdL.2 ⟨i2, k1, by rw [Nat.zero_add]; simpa using hlt⟩) hqd
        · have hgt : j < i2 := by omega
          have hie2 : i2 < es.length := by have := (List.getElem?_eq_some_iff.1 k1).1; omega
          obtain ⟨o2, ho2, hin2⟩ := hopi (List.getElem?_eq_getElem hie2)
          obtain ⟨_, hd2, h3, _, hc2⟩ : PFact P C ops tab _ _ o2 q _ := hfacts i2 o2 _ (some q) (noxq k1) ho2 (List.getElem?_eq_getElem hie2) k1
          have hpre0 : p0 ∈ pdL (fun i => decide (i < i2)) 0 qs := mem_pdL.2 ⟨i0, g1, by rw [Nat.zero_add]; simp; omega⟩
          have hprej : p ∈ pdL (fun i => decide (i < i2)) 0 qs := mem_pdL.2 ⟨j, hqj, by rw [Nat.zero_add]; simpa using hgt⟩
          have hdst2 : ∀ d, o2.dst = some d → p0.d ≠ d ∧ p.d ≠ d := fun d hdd => by
            rw [hdd] at hd2
            simp only [dstOk, Bool.and_eq_true, List.all_eq_true, Bool.not_eq_true'] at hd2
            exact ⟨Nat.ne_of_beq_eq_false (hd2.2 p0 hpre0), Nat.ne_of_beq_eq_false (hd2.2 p hprej)⟩
          exfalso
          rcases hc2 with ⟨h4, h5, _⟩ | ⟨p00, hp00, _, _, h5, _, h6, h7, _⟩
          · rcases hqd with hqd | hqd
            · exact (hdst2 _ h4).1 hqd.symm
            · rw [h5] at hqd; cases hqd
          · rcases hqd with hqd | hqd
            · rcases h7 with h7 | ⟨_, h7⟩
              · exact (hdst2 _ h7).1 hqd.symm
              · have := h6 p hprej (.inr (by rw [hold, ← h7, hqd]))
                rw [this] at hold
                obtain ⟨_, _, _, hmkk⟩ := hmkp
                have h8 := h6 p0 hpre0 (.inl (by rw [← h7, hqd]))
                rw [← this] at h8
                obtain ⟨_, _, rfl⟩ := hmk0
                rw [hmkk] at h8; cases h8
            · rw [h5] at hqd
              have hd00 : p00.d = p0.d := Option.some.inj hqd
              have := h6 p hprej (.inr (by rw [hold, hd00]))
              have h8 := h6 p0 hpre0 (.inl hd00.symm)
              obtain ⟨_, _, _, hmkk⟩ := hmkp
              obtain ⟨_, _, rfl⟩ := hmk0
              rw [← this, hmkk] at h8; cases h8
      obtain ⟨bs, h1, h2⟩ := hpw
      obtain ⟨u, w', hrun, hfr, hkeep0, hnew⟩ := hupd hi.hp he' (h1 p0 hp0L)
      have hnob : ∀ c, bs p0.d = some c → Nobodys w0.heap.size w S tab pl c := fun c hc => by
        have := h1 p0 hp0L
        obtain ⟨_, _, rfl⟩ := hmk0
        obtain ⟨_, _, _, _, g4⟩ := this
        exact g4 c hc
      have hunch : ∀ c, c < w.heap.size → bs p0.d ≠ some c → w'.heap[c]? = w.heap[c]? := fun c hc hn => hfr.block c hc hn
      have hp' : Hp w' S tab pl := hi.hp.grow (fun b hb => hb) (fun b hb => Nat.lt_of_lt_of_le (hi.hp.stable b hb) hfr.size) hi.hp.off (fun b hb => by
        rcases hb with hb | ⟨i, ho⟩
        · exact hunch b (hi.hp.stable b hb) fun k => (hnob b k).2.2.1 hb
        · exact hunch b (hi.hp.lt ho) fun k => (hnob b k).2.2.2 i ho)
      have hpd0 : (a.put o.dst u).tmps[p0.d]? = a.tmps[p0.d]? := hpdd p0 hp0L u
      obtain ⟨b2, hb2, hb2d, hpp⟩ := hnew (a.put o.dst u).tmps hpd0 (fun h => hgetd u p.d h) hi.fr.size
      have hpne : ∀ q ∈ pdL L 0 qs, q.d = p.d → p.d = p0.d := fun q hq hqd => by
        rcases hdk with h | ⟨_, h⟩
        · exact absurd hqd ((hd1 p.d h).2.2.2 q hq)
        · exact h
      have hmid : Mid C tab base es qs w0 S0 O0 pl0 L' (a.put o.dst u) w' := by
        have hvv : Holds a.tmps [] ∧ v.R w' S tab pl u ∨ ¬ Holds a.tmps [] ∧ u = undef ∨ o.dst = none := by
          cases hdd : o.dst with
          | none => exact .inr (.inr rfl)
          | some d => exact .inl ⟨holds_nil, hvR (by rw [hdd]; simp)⟩
        have hpend : PendsW w0.heap.size w' S tab pl (a.put o.dst u).tmps (pdL L' 0 qs) := by
          have hlt : ∀ q ∈ pdL L 0 qs, ∀ c, bs q.d = some c → c < w.heap.size := fun q hq c hc => by
            have := h1 q hq
            cases q with
            | make d e => obtain ⟨_, _, _, _, g4⟩ := this; exact (g4 c hc).2.1
            | upd d0 d e => obtain ⟨_, _, _, _, g4⟩ := this; exact (g4 c hc).2.1
            | app d i j' eid e xs =>
              obtain ⟨_, _, _, _, _, _, _, _, g⟩ := this
              rcases g with ⟨_, g⟩ | ⟨b', _, g, g'⟩
              · rw [hc] at g; cases g
              · rw [hc] at g; rw [Option.some.inj g]; exact g'.2.1
          have hmake : ∀ q ∈ pdL L 0 qs, (∃ d e, q = .make d e) ∨ ∃ d0 d e, q = .upd d0 d e := fun q hq => by
            obtain ⟨i2, k1, k2⟩ := mem_pdL.1 hq
            rw [Nat.zero_add] at k2
            rcases hone with hone | hone
            · have := hone q (List.mem_of_getElem? k1)
              cases q with
              | make d e => exact .inl ⟨_, _, rfl⟩
              | upd d0 d e => exact .inr ⟨_, _, _, rfl⟩
              | app => cases this
            · have := hone i2 j q p k1 hqj
              subst this
              rw [hjL] at k2; cases k2
          -- what shares the block of what was made is itself
          have hshare : ∀ q ∈ pdL L 0 qs, ∀ c, bs q.d = some c → bs p0.d = some c → q = p0 := fun q hq c hc hc0 => by
            rcases h2 q hq p0 hp0L c hc hc0 with h | h | h
            · exact hothers q hq (.inl h)
            · exact hothers q hq (.inr h)
            · obtain ⟨_, _, rfl⟩ := hmk0; cases h
          refine ⟨fun d => if d = p.d then b2 else bs d, fun q hq => ?_, fun q hq q' hq' c hc hc' => ?_⟩
          · rcases hmem q hq with rfl | hq
            · simp only [if_pos]; exact hpp
            · show PendR _ _ _ _ _ _ (if q.d = p.d then b2 else bs q.d) q
              have hk : PendR w0.heap.size w' S tab pl (a.put o.dst u).tmps (bs q.d) q := by
                by_cases hq0 : q = p0
                · subst hq0; exact hkeep0 _ hpd0
                · exact PendR.keep' hfr.size (hmake q hq) (fun b' hb' => hunch b' (hlt q hq b' hb') fun k => hq0 (hshare q hq b' hb' k)) (hpdd q hq u) (h1 q hq)
              by_cases hqd : q.d = p.d
              · rw [if_pos hqd, hb2d (hpne q hq hqd), ← hpne q hq hqd, ← hqd]; exact hk
              · rw [if_neg hqd]; exact hk
          · simp only at hc hc'
            have fromNew : ∀ q1 ∈ pdL L 0 qs, (if q1.d = p.d then b2 else bs q1.d) = some c → b2 = some c → q1.d = p.d ∨ p.old = some q1.d := fun q1 hq1 k1 k2 => by
              by_cases hqd : q1.d = p.d
              · exact .inl hqd
              · rw [if_neg hqd] at k1
                right
                rw [hold]
                rcases hb2 with hb2 | hb2
                · rw [hb2] at k2
                  rw [hshare q1 hq1 c k1 k2]
                · have := hb2 c k2
                  have := hlt q1 hq1 c k1
                  omega
            rcases hmem q hq with rfl | hq1 <;> rcases hmem q' hq' with rfl | hq1'
            · exact .inl rfl
            · simp only [if_pos] at hc
              rcases fromNew q' hq1' hc' hc with h | h
              · exact .inl h.symm
              · exact .inr (.inl h)
            · simp only [if_pos] at hc'
              rcases fromNew q hq1 hc hc' with h | h
              · exact .inl h
              · exact .inr (.inr h)
            · have back : ∀ q1 ∈ pdL L 0 qs, (if q1.d = p.d then b2 else bs q1.d) = bs q1.d := fun q1 hq1 => by
                by_cases hqd : q1.d = p.d
                · rw [if_pos hqd, hb2d (hpne q1 hq1 hqd), ← hpne q1 hq1 hqd, ← hqd]
                · rw [if_neg hqd]
              rw [back q hq1] at hc
              rw [back q' hq1'] at hc'
              exact h2 q hq1 q' hq1' c hc hc'
        cases hdd : o.dst with
        | some d =>
          rw [← hdd]
          exact behind (O := fun c => bs p0.d = some c) (fun b hb => .inr (hnob b hb).1) hp' hfr (fun b hb => ⟨hb, hunch b (hi.hp.stable b hb) fun k => (hnob b k).2.2.1 hb⟩) (fun b hb => .inl hb) (.inl ⟨holds_nil, hvR (by rw [hdd]; simp)⟩) hpend
        | none =>
          have hlk : ∀ t, look t (onL L' 0 es base) = look t (onL L 0 es base) := fun t => look_other t (by rw [hdd]; simp)
          have henv' := hi.env.keep (w' := w') (S' := S) (fun b hb hlt => ⟨hb, hunch b (hi.hp.stable b hb) fun k => (hnob b k).2.2.1 hb⟩) hi.hp.stable (fun i => Keep.refl tab pl i)
          rw [hdd] at hpend
          exact ⟨⟨S, pl, ⟨hp', hi.fr.step hfr (fun b hb => .inr (hnob b hb).1), hi.own, hi.fix, hi.fresh, hi.up, hi.sub, fun t x T hl hh => henv' t x T (by rw [← hlk t]; exact hl) hh, hi.size, hi.defers, PendsR.nil rfl⟩, hpend⟩, fun t x T hl hh => hu t x T (by rw [← hlk t]; exact hl) hh⟩
      rcases hrun with hrun | ⟨hrun, rfl⟩
      · unfold Oper.wp
        rw [hrun, Oper.upon_value]
        exact hmid
      · unfold Oper.wp
        rw [hrun, Oper.upon_skip]
        exact hmid

end
end Go.Lg
