/-
  Regions that draw their order, the third part: whatever order comes up.
-/
import Derived.Test.YtejfaifipdhecaaEng20
set_option linter.unusedVariables false
set_option linter.unusedSimpArgs false
namespace Go.Lg
open Go.RowKit

/-- The slots when the operations of L have been carried out: es tells for each what it puts. -/
def onL (L : Nat → Bool) : Nat → List Env → Env → Env
  | _, [], base => base
  | k, e :: es, base => onL L (k + 1) es (if L k = true then e ++ base else base)

theorem look_append {t : Nat} : ∀ {e base : Env}, look t (e ++ base) = match look t e with | some x => some x | none => look t base
  | [], base => rfl
  | (u, x) :: r, base => by
    simp only [List.cons_append, look_cons]
    split
    · rfl
    · exact look_append

theorem onL_agree {t : Nat} {L L' : Nat → Bool} : ∀ {es : List Env} {k : Nat} {base base' : Env}, (∀ i e, es[i]? = some e → look t e ≠ none → L (k + i) = L' (k + i)) → look t base = look t base' → look t (onL L k es base) = look t (onL L' k es base')
  | [], k, base, base', _, hb => hb
  | e :: es, k, base, base', h, hb => by
    simp only [onL]
    refine onL_agree (fun i e' he' hn => ?_) ?_
    · have := h (i + 1) e' (by simpa using he') hn
      rwa [show k + (i + 1) = k + 1 + i by omega] at this
    · by_cases hn : look t e = none
      · have h1 : ∀ b : Env, look t (e ++ b) = look t b := fun b => by rw [look_append, hn]
        split <;> split <;> simp [h1, hb]
      · have := h 0 e rfl hn
        rw [Nat.add_zero] at this
        rw [this]
        split
        · rw [look_append, look_append, hb]
        · exact hb

theorem onL_none {L : Nat → Bool} : ∀ {es : List Env} {k : Nat} {base : Env}, (∀ i, k ≤ i → L i = false) → onL L k es base = base
  | [], k, base, _ => rfl
  | e :: es, k, base, h => by
    simp only [onL, h k (Nat.le_refl _), Bool.false_eq_true, if_false]
    exact onL_none fun i hi => h i (by omega)

theorem onL_take : ∀ {es : List Env} {k j : Nat} {base : Env}, (es.take j).reverse.flatten ++ base = onL (fun i => decide (i < k + j)) k es base
  | [], k, j, base => by simp [onL]
  | e :: es, k, 0, base => by
    simp only [List.take_zero, List.reverse_nil, List.flatten_nil, List.nil_append]
    rw [onL_none fun i hi => by simp; omega]
  | e :: es, k, j + 1, base => by
    simp only [List.take_succ_cons, List.reverse_cons, List.flatten_append, List.append_assoc, onL]
    rw [if_pos (by simp)]
    have := onL_take (es := es) (k := k + 1) (j := j) (base := e ++ base)
    rw [show k + (j + 1) = k + 1 + j by omega, ← this]
    simp

theorem mem_onL {L : Nat → Bool} {p : Nat × SV × PC} : ∀ {es : List Env} {k : Nat} {base : Env}, p ∈ onL L k es base ↔ p ∈ base ∨ ∃ i e, es[i]? = some e ∧ L (k + i) = true ∧ p ∈ e
  | [], k, base => by simp [onL]
  | e :: es, k, base => by
    simp only [onL]
    rw [mem_onL]
    constructor
    · rintro (h | ⟨i, e', h1, h2, h3⟩)
      · split at h
        · rename_i hk
          rcases List.mem_append.1 h with h | h
          · exact .inr ⟨0, e, rfl, by simpa using hk, h⟩
          · exact .inl h
        · exact .inl h
      · exact .inr ⟨i + 1, e', by simpa using h1, by rw [show k + (i + 1) = k + 1 + i by omega]; exact h2, h3⟩
    · rintro (h | ⟨i, e', h1, h2, h3⟩)
      · left; split
        · exact List.mem_append_right _ h
        · exact h
      · cases i with
        | zero =>
          simp only [List.getElem?_cons_zero, Option.some.injEq] at h1
          subst h1
          rw [Nat.add_zero] at h2
          left; rw [if_pos h2]; exact List.mem_append_left _ h3
        | succ i => exact .inr ⟨i, e', by simpa using h1, by rw [show k + 1 + i = k + (i + 1) by omega]; exact h2, h3⟩

theorem onL_last {L : Nat → Bool} {t : Nat} {x : SV × PC} : ∀ {es : List Env} {k j : Nat} {e : Env} {base : Env}, es[j]? = some e → L (k + j) = true → look t e = some x → (∀ i e', j < i → es[i]? = some e' → L (k + i) = true → look t e' = none) → look t (onL L k es base) = some x
  | [], k, j, e, base, h, _, _, _ => by simp at h
  | e0 :: es, k, 0, e, base, h, hL, hx, hno => by
    simp only [List.getElem?_cons_zero, Option.some.injEq] at h
    subst h
    rw [Nat.add_zero] at hL
    simp only [onL, if_pos hL]
    have h0 : look t (onL (fun _ => false) (k + 1) es (e0 ++ base)) = some x := by
      rw [onL_none fun _ _ => rfl, look_append, hx]
    rw [← h0]
    refine onL_agree (fun i e' he' hne => ?_) rfl
    cases hb : L (k + 1 + i) with
    | false => rfl
    | true => exact absurd (hno (i + 1) e' (by omega) (by simpa using he') (by rw [show k + (i + 1) = k + 1 + i by omega]; exact hb)) hne
  | e0 :: es, k, j + 1, e, base, h, hL, hx, hno => by
    simp only [onL]
    refine onL_last (j := j) (by simpa using h) (by rw [show k + 1 + j = k + (j + 1) by omega]; exact hL) hx fun i e' hi he' hb => ?_
    exact hno (i + 1) e' (by omega) (by simpa using he') (by rw [show k + (i + 1) = k + 1 + i by omega]; exact hb)

theorem look_limit {t : Nat} {l : List Nat} : ∀ {env : Env}, look t (limit l env) = if t ∈ l then look t env else none
  | [] => by simp [limit, look]
  | (u, x) :: r => by
    have ih := look_limit (t := t) (l := l) (env := r)
    simp only [limit] at ih ⊢
    rw [List.filter_cons]
    split
    · rename_i hu
      have hu := has_iff.1 hu
      simp only [look_cons]
      by_cases e : u = t
      · subst e; simp [hu]
      · simp only [if_neg e, ih]
    · rename_i hu
      have hu : u ∉ l := fun h => hu (has_iff.2 h)
      simp only [look_cons, ih]
      by_cases e : u = t
      · subst e; simp [hu]
      · simp only [if_neg e]

/-- What is known of one operation of the head. -/
def Fact (P : Program) (C : Ctx) (ops : Array Oper) (tab : List Ent) (env : Env) (pd : List Pend) (o : Oper) (e : Env) : Prop :=
  ∃ G v, pathOf ⟨limit (slotsOf ops o) env, tab, []⟩ ops o.guard = some G ∧ dstOk C ⟨env, tab, pd⟩ G o.dst = true ∧ (∀ q ∈ G, q.1 ∈ slotsOf ops o) ∧
    e = (match o.dst with | some d => [(d, v, G)] | none => []) ∧ Frees P tab (limit (slotsOf ops o) env) o G v

def isMake : Pend → Bool
  | .make _ _ => true
  | .upd _ _ _ => true
  | _ => false

def MadeBy (tab : List Ent) (p : Pend) (w : World) (S : Nat → Prop) (pl : List Value) (u : Value) (w' : World) : Prop :=
  Hp w' S tab pl ∧ Fr w (fun b => ∃ i, Own tab pl i b) w' ∧ (∀ b, S b → w'.heap[b]? = w.heap[b]?) ∧ (isMake p = true → Fr w (fun _ => False) w') ∧
    ∀ (n0 : Nat) (tmps : Array Value), n0 ≤ w.heap.size → tmps[p.d]? = some u → ∃ b : Option Nat, (∀ b', b = some b' → w.heap.size ≤ b') ∧ PendR n0 w' S tab pl tmps b p

/-- An operation that makes what is not in the table yet. -/
def Makes (P : Program) (tab : List Ent) (env : Env) (o : Oper) (p : Pend) : Prop :=
  ∀ {w : World} {S : Nat → Prop} {pl : List Value} {a : Act}, Hp w S tab pl → EnvR w S tab pl env a.tmps →
    (∃ u w', (execOp a.eval o).run P w = .ok (.value u) w' ∧ MadeBy tab p w S pl u w') ∨
    ∃ fid vs, (execOp a.eval o).run P w = .ok (.enter fid vs) w ∧ Calls P fid vs w fun e w' => ∃ u, e = .returned u ∧ MadeBy tab p w S pl u w'

/-- An operation that changes what was made and is not in the table yet. -/
def Upds (P : Program) (tab : List Ent) (env : Env) (o : Oper) (p0 p : Pend) : Prop :=
  ∀ {n0 : Nat} {w : World} {S : Nat → Prop} {pl : List Value} {a : Act} {b : Option Nat}, Hp w S tab pl → EnvR w S tab pl env a.tmps → PendR n0 w S tab pl a.tmps b p0 →
    ∃ u w', ((execOp a.eval o).run P w = .ok (.value u) w' ∨ ((execOp a.eval o).run P w = .ok .skip w' ∧ u = undef)) ∧ Fr w (fun c => b = some c) w' ∧
      (∀ tmps : Array Value, tmps[p0.d]? = a.tmps[p0.d]? → PendR n0 w' S tab pl tmps b p0) ∧
      ∀ tmps : Array Value, tmps[p0.d]? = a.tmps[p0.d]? → (o.dst = some p.d → tmps[p.d]? = some u) → n0 ≤ w.heap.size → ∃ b2 : Option Nat, (b2 = b ∨ ∀ b', b2 = some b' → w.heap.size ≤ b') ∧ (p.d = p0.d → b2 = b) ∧ PendR n0 w' S tab pl tmps b2 p

def PFact (P : Program) (C : Ctx) (ops : Array Oper) (tab : List Ent) (env : Env) (pd : List Pend) (o : Oper) (p : Pend) (e : Env) : Prop :=
  pathOf ⟨limit (slotsOf ops o) env, tab, []⟩ ops o.guard = some [] ∧ dstOk C ⟨env, tab, pd⟩ [] o.dst = true ∧ (o.dst = some p.d ∨ p.d ∈ slotsOf ops o) ∧ e = (match o.dst with | some d => [(d, .dd, [])] | none => []) ∧
    ((o.dst = some p.d ∧ p.old = none ∧ Makes P tab (limit (slotsOf ops o) env) o p) ∨
      ∃ p0 ∈ pd, (∃ d e, p0 = .make d e) ∧ (∃ d0 d e, p = .upd d0 d e) ∧ p.old = some p0.d ∧ p0.d ∈ slotsOf ops o ∧ (∀ q ∈ pd, q.d = p0.d ∨ q.old = some p0.d → q = p0) ∧ (o.dst = some p.d ∨ (o.dst = none ∧ p.d = p0.d)) ∧ Upds P tab (limit (slotsOf ops o) env) o p0 p)

theorem Ty.dds_R {w : World} {S : Nat → Prop} {tab : List Ent} {pl : List Value} : ∀ {t : Ty} {cs : List Value}, cs.length = t.size → t.dds.R w S tab pl cs
  | .pair a b, cs, h => by
    simp only [Ty.size] at h
    exact ⟨cs.take a.size, cs.drop a.size, (List.take_append_drop _ _).symm, Ty.dds_R (by rw [List.length_take]; omega), Ty.dds_R (by rw [List.length_drop]; omega)⟩
  | .unit, cs, h => List.length_eq_zero_iff.1 h
  | .int _, cs, h => h
  | .bool, cs, h => h
  | .str, cs, h => h
  | .sl _, cs, h => h
  | .pt _, cs, h => h

theorem isDds_R {w w' : World} {S S' : Nat → Prop} {tab tab' : List Ent} {pl pl' : List Value} : ∀ {t : Ty} {c : AV} {cs : List Value}, isDds t c = true → cs.length = t.size → c.R w S tab pl cs
  | .pair a b, .pr x y, cs, h, hl => by
    simp only [isDds, Bool.and_eq_true] at h
    simp only [Ty.size] at hl
    exact ⟨cs.take a.size, cs.drop a.size, (List.take_append_drop _ _).symm, isDds_R (w' := w') (S' := S') (tab' := tab') (pl' := pl') h.1 (by rw [List.length_take]; omega), isDds_R (w' := w') (S' := S') (tab' := tab') (pl' := pl') h.2 (by rw [List.length_drop]; omega)⟩
  | .unit, .un, cs, h, hl => List.length_eq_zero_iff.1 hl
  | .int _, .dd, cs, h, hl => hl
  | .bool, .dd, cs, h, hl => hl
  | .str, .dd, cs, h, hl => hl
  | .sl _, .dd, cs, h, hl => hl
  | .pt _, .dd, cs, h, hl => hl

theorem isDds_len {w : World} {S : Nat → Prop} {tab : List Ent} {pl : List Value} : ∀ {t : Ty} {c : AV} {cs : List Value}, isDds t c = true → c.R w S tab pl cs → cs.length = t.size
  | .pair a b, .pr x y, cs, h, hr => by
    simp only [isDds, Bool.and_eq_true] at h
    obtain ⟨c1, c2, rfl, h1, h2⟩ := hr
    simp only [Ty.size, List.length_append, isDds_len h.1 h1, isDds_len h.2 h2]
  | .unit, .un, cs, h, hr => by simp only [AV.R] at hr; subst hr; rfl
  | .int _, .dd, cs, h, hr => hr
  | .bool, .dd, cs, h, hr => hr
  | .str, .dd, cs, h, hr => hr
  | .sl _, .dd, cs, h, hr => hr
  | .pt _, .dd, cs, h, hr => hr

theorem findPend_mem {d : Nat} {e : Ent} : ∀ {ps : List Pend}, findPend d ps = some e → Pend.make d e ∈ ps
  | [], h => by simp [findPend] at h
  | .make d' e' :: r, h => by
    simp only [findPend] at h
    split at h
    · rename_i hb
      obtain rfl := Nat.eq_of_beq_eq_true hb
      obtain rfl := Option.some.inj h
      simp
    · exact List.mem_cons_of_mem _ (findPend_mem h)
  | .app _ _ _ _ _ _ :: r, h => List.mem_cons_of_mem _ (findPend_mem (by simpa [findPend] using h))
  | .upd _ _ _ :: r, h => List.mem_cons_of_mem _ (findPend_mem (by simpa [findPend] using h))

theorem countPend_zero {d : Nat} : ∀ {ps : List Pend}, countPend d ps = 0 → ∀ q ∈ ps, inPend d q = false
  | [], _, q, h => by simp at h
  | p :: r, h, q, hq => by
    simp only [countPend] at h
    rcases List.mem_cons.1 hq with rfl | hq
    · cases hb : inPend d q with
      | false => rfl
      | true =>
        rw [hb] at h
        simp only at h
        omega
    · exact countPend_zero (by omega) q hq

theorem countPend_one {d : Nat} : ∀ {ps : List Pend}, countPend d ps = 1 → ∀ p ∈ ps, ∀ q ∈ ps, inPend d p = true → inPend d q = true → p = q
  | [], _, p, hp, _, _, _, _ => by simp at hp
  | x :: r, h, p, hp, q, hq, h1, h2 => by
    simp only [countPend] at h
    cases hb : inPend d x with
    | true =>
      rw [hb] at h
      have h0 : countPend d r = 0 := by simp only at h; omega
      have hz := countPend_zero h0
      rcases List.mem_cons.1 hp with rfl | hp
      · rcases List.mem_cons.1 hq with rfl | hq
        · rfl
        · rw [hz q hq] at h2; cases h2
      · rw [hz p hp] at h1; cases h1
    | false =>
      rw [hb] at h
      simp only [Nat.zero_add] at h
      rcases List.mem_cons.1 hp with rfl | hp
      · rw [hb] at h1; cases h1
      · rcases List.mem_cons.1 hq with rfl | hq
        · rw [hb] at h2; cases h2
        · exact countPend_one h p hp q hq h1 h2

theorem inPend_iff {d : Nat} {p : Pend} : inPend d p = true ↔ p.d = d ∨ p.old = some d := by
  unfold inPend
  rw [Bool.or_eq_true]
  constructor
  · rintro (h | h)
    · exact .inl (Nat.eq_of_beq_eq_true h)
    · cases ho : p.old with
      | none => rw [ho] at h; cases h
      | some d0 => rw [ho] at h; exact .inr (by rw [Nat.eq_of_beq_eq_true h])
  · rintro (h | h)
    · exact .inl (by rw [h]; exact Nat.beq_refl d)
    · rw [h]; exact .inr (Nat.beq_refl d)

theorem pendHead_sound {P : Program} {C : Ctx} (hT : thOk P C = true) {s : St} {o : Oper} {rest : List (Option Oper)} {p : Pend} (h : pendHead C s o rest = some (true, p)) : o.dst = some p.d ∧ p.old = none ∧ Makes P s.tab s.env o p := by
  unfold pendHead at h
  split at h
  · rename_i t l c d hop hdst
    simp only [Option.map_eq_some_iff, Prod.mk.injEq] at h
    obtain ⟨⟨g, ent⟩, hme, rfl, rfl⟩ := h
    refine ⟨hdst, rfl, fun {w S pl a} hp he => ?_⟩
    obtain ⟨hv, hvp, cs, eid, hrun, hmd⟩ := makeEnt_sound (P := P) (s := s) hT he hme
    have hfr := Fr.alloc w (fun b => ∃ i, Own s.tab pl i b) (.cells cs eid)
    have hall : ∀ b, b < w.heap.size → (w.alloc (.cells cs eid)).heap[b]? = w.heap[b]? := fun b hb' => Below.heap_alloc _ _ _ hb'
    have hp1 : Hp (w.alloc (.cells cs eid)) S s.tab pl := hp.grow (fun b hb => hb) (fun b hb => Nat.lt_of_lt_of_le (hp.stable b hb) hfr.size) hp.off (fun b hb => hall b (hb.elim (hp.stable b) (fun ⟨i, ho⟩ => hp.lt ho)))
    obtain ⟨dst, op, ty, pos, af, gd⟩ := o
    simp only at hop
    subst hop
    refine .inl ⟨hv, w.alloc (.cells cs eid), ?_, hp1, hfr, fun b hb => hall b (hp.stable b hb), fun _ => Fr.alloc w _ _, fun n0 tmps hn0 ht => ⟨some w.heap.size, fun b' hb => by rw [← Option.some.inj hb]; exact Nat.le_refl _, hv, hvp, ht, hmd.toO, fun b' hb => by
      obtain rfl := Option.some.inj hb
      exact ⟨hn0, hmd.lt, fun hb => Nat.lt_irrefl _ (hp.stable _ hb), fun k ho => Nat.lt_irrefl _ (hp.lt ho)⟩⟩⟩
    show (do pure (Next.value (← Instr.makeSlice t (a.eval l) (a.eval c))) : Sem Next).run P w = _
    rw [Sem.run_bind, hrun]
    simp only [Result.andThen_ok, Sem.run_pure]
  · rename_i t d hop hdst
    split at h
    · rename_i e hf
      simp only [Option.some.injEq, Prod.mk.injEq, true_and] at h
      generalize hcc : allocAV C e (storedIn d rest) = cc at h
      subst h
      refine ⟨hdst, rfl, fun {w S pl a} hp he => ?_⟩
      have hccR : ∀ (w : World) (S : Nat → Prop) (tab : List Ent) (pl : List Value), cc.R w S tab pl e.zero := fun w S tab pl => by
        rw [← hcc]
        cases storedIn d rest with
        | true => exact Ty.dds_R e.zero_length
        | false => exact AV.eids_R.2 (Ty.zeroAV_R e)
      obtain ⟨d', i, hti⟩ := thOk_find hT hf
      have hrun : (Instr.alloc t true (.tuple #[])).run P w = .ok (.pointer (some ⟨w.heap.size, 0, none⟩)) (w.alloc (.cells e.zero.toArray t)) := by
        simp only [Instr.alloc, zeroValue, typeInfo, Sem.run_bind, hti.info, Result.andThen_ok, Sem.run_pure, hti.zero, run_newVar, zero_cells, program, Sem.run]
      have hfr := Fr.alloc w (fun b => ∃ i, Own s.tab pl i b) (.cells e.zero.toArray t)
      have hall : ∀ b, b < w.heap.size → (w.alloc (.cells e.zero.toArray t)).heap[b]? = w.heap[b]? := fun b hb' => Below.heap_alloc _ _ _ hb'
      have hp1 : Hp (w.alloc (.cells e.zero.toArray t)) S s.tab pl := hp.grow (fun b hb => hb) (fun b hb => Nat.lt_of_lt_of_le (hp.stable b hb) hfr.size) hp.off (fun b hb => hall b (hb.elim (hp.stable b) (fun ⟨i, ho⟩ => hp.lt ho)))
      have hmd : Made (.box cc) (.pointer (some ⟨w.heap.size, 0, none⟩)) (.pointer (some ⟨w.heap.size, 0, none⟩)) (w.alloc (.cells e.zero.toArray t)) w.heap.size :=
        ⟨fun S tab pl => ⟨w.heap.size, e.zero, t, rfl, _root_.Go.heap_alloc_new w _, hccR _ _ _ _⟩, fun b hb => by simp [blks, blk] at hb; exact hb.symm, fun w' S tab pl n h1 h2 => ⟨_, w.heap.size, h1, h2, rfl⟩, by simp, rfl⟩
      obtain ⟨dst, op, ty, pos, af, gd⟩ := o
      simp only at hop
      subst hop
      refine .inl ⟨_, w.alloc (.cells e.zero.toArray t), ?_, hp1, hfr, fun b hb => hall b (hp.stable b hb), fun _ => Fr.alloc w _ _, fun n0 tmps hn0 ht => ⟨some w.heap.size, fun b' hb => by rw [← Option.some.inj hb]; exact Nat.le_refl _, _, _, ht, hmd.toO, fun b' hb => by
        obtain rfl := Option.some.inj hb
        exact ⟨hn0, hmd.lt, fun hb => Nat.lt_irrefl _ (hp.stable _ hb), fun k ho => Nat.lt_irrefl _ (hp.lt ho)⟩⟩⟩
      show (do pure (Next.value (← Instr.alloc t true (.tuple #[]))) : Sem Next).run P w = _
      rw [Sem.run_bind, hrun]
      simp only [Result.andThen_ok, Sem.run_pure]
    · cases h
  · have hd := fun {w : World} {S : Nat → Prop} {pl : List Value} {a : Act} (hp : Hp w S s.tab pl) (he : EnvR w S s.tab pl s.env a.tmps) => pendOp_sound (P := P) hT hp he h
    have happ : isMake p = false := by
      unfold pendOp at h
      split at h
      · split at h
        · split at h
          · unfold pendApp at h
            split at h
            · split at h
              · split at h
                · split at h
                  · split at h
                    · simp only [Option.some.injEq, Prod.mk.injEq] at h; rw [← h.2]; rfl
                    · cases h
                  · cases h
                · split at h
                  · split at h
                    · simp only [Option.some.injEq, Prod.mk.injEq] at h; rw [← h.2]; rfl
                    · cases h
                  · cases h
                · cases h
              · cases h
            · cases h
          · cases h
        · cases h
      · cases h
    have hold : p.old = none := by
      cases p with
      | upd d0 d e => cases happ
      | _ => rfl
    have hdst : o.dst = some p.d := by
      unfold pendOp at h
      split at h
      · split at h
        · split at h
          · unfold pendApp at h
            split at h
            · rename_i d _ _ hd2 _ _
              split at h
              · split at h
                · split at h
                  · split at h
                    · simp only [Option.some.injEq, Prod.mk.injEq] at h; rw [← h.2]; exact hd2
                    · cases h
                  · cases h
                · split at h
                  · split at h
                    · simp only [Option.some.injEq, Prod.mk.injEq] at h; rw [← h.2]; exact hd2
                    · cases h
                  · cases h
                · cases h
              · cases h
            · cases h
          · cases h
        · cases h
      · cases h
    refine ⟨hdst, hold, fun {w S pl a} hp he => ?_⟩
    obtain ⟨_, u, w', h1, h2, h3, h4, h5⟩ := hd hp he
    exact .inl ⟨u, w', h1, h2, h3, h4, fun k => (by rw [happ] at k; cases k), fun n0 tmps hn0 ht => by
      obtain ⟨b, hb, hr⟩ := h5 n0 tmps hn0 ht
      exact ⟨b, fun b' e => by rcases hb with rfl | rfl; · cases e
                               · rw [← Option.some.inj e]; exact Nat.le_refl _, hr⟩⟩

theorem pendCall_sound {A : Type} {P : Program} {C : Ctx} (hS : Sigs P C) {s : St} {o : Oper} {K : Pend → Option A} {r : A} (h : pendCall C s o K = some r) : ∃ p, K p = some r ∧ o.dst = some p.d ∧ p.old = none ∧ Makes P s.tab s.env o p := by
  unfold pendCall at h
  split at h
  · rename_i f args tys d hop hdst
    split at h
    · rename_i fid caps l hf hl
      split at h
      · rename_i ins eid e fn hsp
        have hM := hS fid _ hsp
        split at h
        · rename_i x lents hdec hflat
          obtain ⟨y, hy, hK⟩ := Option.bind_eq_some_iff.1 h
          refine ⟨_, hK, hdst, rfl, fun {w S pl a} hp he => .inr ?_⟩
          obtain ⟨capv, h1, hc⟩ := call_does hp he holds_nil hf hl hM.chain hdec rfl (by simp [apart, has]) (hM.does x y hy)
          obtain ⟨dst, op, ty, pos, af, gd⟩ := o
          simp only at hop
          subst hop
          refine ⟨fid, _, run_call h1 hM.go, hc.mono fun ex w' ⟨v, hev, hb⟩ => ⟨v, hev, ?_⟩⟩
          have he0 : (ins.enc x 0).2 = [] := enc_pure hM.pure x 0
          have hn0 : ins.n = 0 := Sh.pure_n hM.pure
          obtain ⟨S', pl', hp', hres, hfr, hup, hsub, hown, hnew, hfix⟩ := hb
          have hfr' : Fr w (fun _ => False) w' := ⟨hfr.os, hfr.tape, hfr.output, hfr.size, fun b hb _ => hfr.block b hb fun ⟨i, e, hv, g1, _⟩ => by rw [he0] at g1; simp at g1⟩
          rw [he0, List.nil_append, hn0] at hp' hres hnew
          have hall : ∀ b, b < w.heap.size → w'.heap[b]? = w.heap[b]? := fun b hb => hfr'.block b hb (fun k => k)
          have hp1 : Hp w' S s.tab pl := hp.grow (fun b hb => hb) (fun b hb => Nat.lt_of_lt_of_le (hp.stable b hb) hfr'.size) hp.off (fun b hb => hall b (hb.elim (hp.stable b) (fun ⟨i, ho⟩ => hp.lt ho)))
          obtain ⟨cs, hcs, rfl⟩ := hres
          simp only [Sh.enc, AV.R] at hcs
          obtain ⟨eid', e', xs', hv, g1, g2, g3, rfl⟩ := hcs
          obtain ⟨css, hrow, hel⟩ := hp'.ent 0 _ hv (by simp only [Sh.enc]; rfl) g2
          have hown' : ∀ b, blk hv = some b → Own (Sh.enc (.own eid e) y 0).2 pl' 0 b := fun b hb => ⟨_, hv, rfl, rfl, g2, blks_of_blk hb⟩
          have hv' : pack (AV.isAgg (Sh.enc (.own eid e) y 0).1) [hv] = hv := rfl
          obtain ⟨ad, n, c, rfl⟩ := g3
          refine ⟨hp1, ⟨hfr'.os, hfr'.tape, hfr'.output, hfr'.size, fun b hb _ => hall b hb⟩, fun b hb => hall b (hp.stable b hb), fun _ => hfr', fun n0 tmps hn0' ht => ⟨blk (.slice ad n c), fun b' hb' => hnew 0 b' (Nat.zero_le _) (hown' b' hb'), _, .slice ad n c, ht, ?_, fun b' hb' => ?_⟩⟩
          · refine ⟨fun S tab pl => ⟨css, hrow, hel.1, fun i cs x hi hx => (hel.2 i cs x hi hx).flat hflat⟩, fun b' hb' => hb', fun w'' S tab pl n' h1 h2 => ⟨eid, e, y, _, h1, h2, ⟨_, _, _, rfl⟩, rfl⟩, fun b' hb' => hrow.lt hb', rfl⟩
          · have hle := hnew 0 b' (Nat.zero_le _) (hown' b' hb')
            exact ⟨Nat.le_trans hn0' hle, hrow.lt hb', fun hb => Nat.lt_irrefl _ (Nat.lt_of_lt_of_le (hp.stable _ hb) hle), fun k ho => Nat.lt_irrefl _ (Nat.lt_of_lt_of_le (hp.lt ho) hle)⟩
        · cases h
      · cases h
    · cases h
  · cases h

theorem pendUpd_sound {P : Program} {C : Ctx} (hT : thOk P C = true) {s : St} {ps : List Pend} {o : Oper} {d0 : Nat} {p : Pend} (h : pendUpd C s ps o = some (true, d0, p)) :
    ∃ p0 ∈ ps, p0.d = d0 ∧ (∃ d e, p0 = .make d e) ∧ (∃ d0 d e, p = .upd d0 d e) ∧ p.old = some d0 ∧ (∀ q ∈ ps, q.d = d0 ∨ q.old = some d0 → q = p0) ∧ (o.dst = some p.d ∨ (o.dst = none ∧ p.d = d0)) ∧ Upds P s.tab s.env o p0 p := by
  unfold pendUpd at h
  split at h
  · rename_i args tys d hop hdst
    split at h
    · rename_i d1 x t t' hargs htys
      split at h
      · rename_i e eid q eid' e' xs htt hf hs hy hfind0
        have hfind : findPend d1 ps = some (.arr eid' e' xs) := by
          split at hfind0
          · cases hfind0
          · exact hfind0
        split at h
        · rename_i ys l hqt hq hflat hcnt
          split at h
          · rename_i hee
            obtain ⟨rfl, rfl⟩ := hee
            simp only [Option.some.injEq, Prod.mk.injEq, castD_self, decide_eq_true_eq] at h
            obtain ⟨hle, rfl, rfl⟩ := h
            have hcnt := Nat.eq_of_beq_eq_true hcnt
            have hmem := findPend_mem hfind
            refine ⟨_, hmem, rfl, ⟨_, _, rfl⟩, ⟨_, _, _, rfl⟩, rfl, fun q hq hqd => (countPend_one hcnt q hq _ hmem (inPend_iff.2 hqd) (inPend_iff.2 (.inl rfl))), .inl hdst, fun {n0 w S pl a b} hp he hpr => ?_⟩
            obtain ⟨hv, hvp, k1, k2, k3⟩ := hpr
            obtain ⟨ti, hu, hti, hsz⟩ := thOk_elem hT hf hs
            obtain ⟨cy, hy1, hy2⟩ := av_sound he holds_nil hy
            have hz := hti.zero
            obtain ⟨ad, c, dss, rfl, hel, hloc⟩ := toVal_elems hp hqt hq hy1
            have hqa := toVal_agg hq
            have hev : a.eval x = .slice ad ys.length c := by rw [hy2, hqa]; rfl
            have hlen : dss.flatten.length = ys.length * ti.size := by rw [flatten_length hel.lens, hel.1, hti.size]
            have hnews : ys.length = 0 ∨ ∃ ad', ad = some ad' ∧ ∀ j u, dss.flatten[j]? = some u → w.cell? (ad'.add j) = some u := by
              rcases hloc with h0 | ⟨b, o, rfl, hc⟩
              · exact .inl h0
              · exact .inr ⟨_, rfl, fun j u hj => by rw [Addr.add_lit]; exact hc j u hj⟩
            -- the row
            obtain ⟨css, hrow, hels⟩ := k2.at_ S s.tab pl
            have hvv : hv = hvp ∧ ∃ ad n c, hv = .slice ad n c := by
              have := k2.av w S [.arr eid' e' xs] [hvp] 0 rfl rfl
              simp only [entAV, AV.R] at this
              obtain ⟨_, _, _, hv2, _, g2, g3, g4⟩ := this
              simp only [List.getElem?_cons_zero, Option.some.injEq] at g2
              simp only [List.cons.injEq, and_true] at g4
              subst g2 g4
              exact ⟨rfl, g3⟩
            obtain ⟨rfl, ad0, m0, c0, rfl⟩ := hvv
            have hrow0 := hrow
            rw [← hti.size] at hrow
            have hev0 : a.eval (.tmp d1) = .slice ad0 m0 c0 := by
              simp only [Act.eval]
              rw [Array.getD_eq_getD_getElem?, k1]; rfl
            obtain ⟨dst, op, ty, pos, af, gd⟩ := o
            simp only at hop hdst
            subst hop hdst
            have ha : args = #[.tmp d1, x] := by apply Array.toList_inj.1; simpa using hargs
            have htt' := Nat.eq_of_beq_eq_true htt
            subst htt'
            have ht : tys = #[t, t] := by apply Array.toList_inj.1; simpa using htys
            subst ha ht
            obtain ⟨hv', w', hrun, hsl, hrow', hgr, hblk, hold⟩ := run_append_row (P := P) w t ty eid' ti (pack e'.isAgg e'.zero) hu hti.info hz (by rw [zero_cells]; simp [e'.zero_length, hti.size]) (by rw [hti.size]; exact hsz) hti.bytes (c := c) hrow hlen hnews hel.oneCell hle
            rw [← hev0, ← hev] at hrun
            have hsz' := hgr.size
            have flatE : ∀ {css : List (List Value)} {xs : List e'.T} {w1 w2 : World} {S1 S2 : Nat → Prop}, Elems w1 S1 e' css xs → Elems w2 S2 e' css xs := fun h => ⟨h.1, fun i cs x hi hx => (h.2 i cs x hi hx).flat hflat⟩
            have nb : ∀ b', b = some b' → Nobodys n0 w' S s.tab pl b' := fun b' hb' => by
              obtain ⟨q1, q2, q3, q4⟩ := k3 b' hb'
              exact ⟨q1, Nat.lt_of_lt_of_le q2 hsz', q3, q4⟩
            refine ⟨hv', w', .inl (by simp only [execOp, resolve, invoke, builtin, Sem.run_bind, Sem.run_pure, Result.andThen_ok, List.map_toArray, List.map_cons, List.map_nil, hrun]), ⟨hgr.os, hgr.tape, hgr.output, hgr.size, fun c' hc' hn => hgr.block c' hc' fun k => hn (k2.blks c' k.symm)⟩, fun tmps ht => ⟨_, _, ht.trans k1, ⟨fun S tab pl => ⟨css, by rw [← hti.size]; exact hold, flatE hels⟩, k2.blks, k2.av, fun b' hb' => Nat.lt_of_lt_of_le (k2.lt b' hb') hsz', k2.live⟩, nb⟩, fun tmps ht hd hn0 => ?_⟩
            have hrow2 : Row w' eid' e'.size hv' (xs ++ ys).length (css ++ dss).flatten := by
              rw [List.flatten_append, List.length_append, ← hti.size]; exact hrow'
            have hels2 : Elems w' S e' (css ++ dss) (xs ++ ys) := flatE (w1 := w') (S1 := S) (Elems.append (flatE hels) (flatE hel))
            obtain ⟨ad1, m1, c1, rfl⟩ := hsl
            have mk : ∀ b2 : Option Nat, (∀ b', blk (.slice ad1 m1 c1) = some b' → b2 = some b') → (∀ b', b2 = some b' → b' < w'.heap.size) → MadeO (.arr eid' e' (xs ++ ys)) (.slice ad1 m1 c1) (.slice ad1 m1 c1) w' b2 := fun b2 h1 h2 =>
              ⟨fun S tab pl => ⟨css ++ dss, hrow2, flatE hels2⟩, h1, fun w'' S tab pl n' q1 q2 => ⟨eid', e', xs ++ ys, _, q1, q2, ⟨_, _, _, rfl⟩, rfl⟩, h2, rfl⟩
            have hdn : d ≠ d1 := fun k => by
              rw [k, Nat.beq_refl] at hfind0
              cases hfind0
            rcases hblk with k | k
            · exact ⟨b, .inl rfl, fun _ => rfl, _, _, hd rfl, mk b (fun b' hb' => k2.blks b' (by rw [k] at hb'; exact hb')) (fun b' hb' => Nat.lt_of_lt_of_le (k2.lt b' hb') hsz'), nb⟩
            · refine ⟨some w.heap.size, .inr fun b' hb' => by rw [← Option.some.inj hb']; exact Nat.le_refl _, fun h => absurd h hdn, _, _, hd rfl, mk _ (fun b' hb' => by rw [k] at hb'; exact hb') (fun b' hb' => by rw [← Option.some.inj hb']; exact hrow2.lt k), fun b' hb' => ?_⟩
              obtain rfl := Option.some.inj hb'
              exact ⟨hn0, hrow2.lt k, fun hb => Nat.lt_irrefl _ (hp.stable _ hb), fun j ho => Nat.lt_irrefl _ (hp.lt ho)⟩
          · cases h
        · cases h
      · cases h
    · cases h
  · rename_i t d1 x hop hdst
    split at h
    · rename_i e e' y c hf hx hfind
      split at h
      · rename_i hflat hcnt
        split at h
        · rename_i hee
          obtain ⟨rfl, hdds⟩ := hee
          simp only [Option.some.injEq, Prod.mk.injEq, castD_self, true_and] at h
          obtain ⟨rfl, rfl⟩ := h
          have hcnt := Nat.eq_of_beq_eq_true hcnt
          have hmem := findPend_mem hfind
          refine ⟨_, hmem, rfl, ⟨_, _, rfl⟩, ⟨_, _, _, rfl⟩, rfl, fun q hq hqd => (countPend_one hcnt q hq _ hmem (inPend_iff.2 hqd) (inPend_iff.2 (.inl rfl))), .inr ⟨hdst, rfl⟩, fun {n0 w S pl a b} hp he hpr => ?_⟩
          obtain ⟨hv, hvp, k1, k2, k3⟩ := hpr
          obtain ⟨d', ti, hti⟩ := thOk_find hT hf
          obtain ⟨cy, hy1, hy2⟩ := avT_sound he holds_nil hx
          obtain ⟨b0, cs, eid, rfl, g4, g5⟩ := k2.at_ S s.tab pl
          have hvv : hv = .pointer (some ⟨b0, 0, none⟩) := by
            have := k2.av w S [.box c] [.pointer (some ⟨b0, 0, none⟩)] 0 rfl rfl
            simp only [entAV, AV.R] at this
            obtain ⟨_, b1, _, g2, g3⟩ := this
            simp only [List.getElem?_cons_zero, Option.some.injEq] at g2
            simp only [List.cons.injEq, and_true] at g3
            rw [g3, ← g2]
          subst hvv
          have hb0 : b = some b0 := k2.blks b0 rfl
          subst hb0
          have hev0 : a.eval (.tmp d1) = .pointer (some ⟨b0, 0, none⟩) := by
            simp only [Act.eval]
            rw [Array.getD_eq_getD_getElem?, k1]; rfl
          have hlen := isDds_len hdds g5
          have hcell := hy1.cells (by simp)
          rw [← hy2] at hcell
          have hR : e'.R w S cy y := by simpa only [AV.R] using hy1
          have hyl : cy.length = e'.size := hR.length
          have hrun := run_storeVar (P := P) hti (o := 0) g4 hcell hyl (by simp; omega) (Ty.R.oneCell hR)
          have hcur : (cs.toArray.toList.take 0 ++ cy ++ cs.toArray.toList.drop (0 + cy.length)) = cy := by
            simp only [List.take_zero, List.nil_append, Nat.zero_add]
            rw [List.drop_eq_nil_of_le (by omega), List.append_nil]
          rw [hcur] at hrun
          obtain ⟨dst, op, ty, pos, af, gd⟩ := o
          simp only at hop hdst
          subst hop hdst
          have hnew : (w.setRow b0 cy.toArray).heap[b0]? = some (.cells cy.toArray eid (0, 0)) := setRow_heap w b0 _ _ _ _ g4
          have hsz' : w.heap.size ≤ (w.setRow b0 cy.toArray).heap.size := by simp
          have nb : ∀ b', some b0 = some b' → Nobodys n0 (w.setRow b0 cy.toArray) S s.tab pl b' := fun b' hb' => by
            obtain ⟨q1, q2, q3, q4⟩ := k3 b' hb'
            exact ⟨q1, Nat.lt_of_lt_of_le q2 hsz', q3, q4⟩
          have mk : ∀ {c' : AV}, (∀ (S : Nat → Prop) (tab : List Ent) (pl : List Value), c'.R (w.setRow b0 cy.toArray) S tab pl cy) → MadeO (.box c') (.pointer (some ⟨b0, 0, none⟩)) (.pointer (some ⟨b0, 0, none⟩)) (w.setRow b0 cy.toArray) (some b0) := fun h =>
            ⟨fun S tab pl => ⟨b0, cy, eid, rfl, hnew, h S tab pl⟩, k2.blks, fun w'' S tab pl n' q1 q2 => ⟨_, b0, q1, q2, rfl⟩, fun b' hb' => Nat.lt_of_lt_of_le (k2.lt b' hb') hsz', rfl⟩
          refine ⟨undef, w.setRow b0 cy.toArray, .inr ⟨?_, rfl⟩, ⟨rfl, rfl, rfl, by simp, fun c' _ hn => setRow_other w b0 c' _ fun k => hn (by rw [k])⟩, fun tmps ht => ⟨_, _, ht.trans k1, mk fun S tab pl => isDds_R (w' := w) (S' := S) (tab' := tab) (pl' := pl) hdds hyl, nb⟩, fun tmps ht _ _ => ⟨some b0, .inl rfl, fun _ => rfl, _, _, ht.trans k1, mk fun S tab pl => AV.explode_R (a := .val e' y) (by simp only [AV.R]; exact hR.flat hflat), nb⟩⟩
          simp only [execOp, hev0, Instr.storeAt, Instr.sureAddr, Sem.run_bind, Sem.run_pure, Result.andThen_ok, hrun]
        · cases h
      · cases h
    · cases h
  · cases h

theorem runFree_facts {A : Type} {P : Program} {C : Ctx} (hT : thOk P C = true) (hS : Sigs P C) {ops : Array Oper} {K : St → List Pend → Option A} {r : A} : ∀ {l : List (Option Oper)} {s : St} {ps : List Pend}, runFree C ops l s ps K = some r →
    ∃ (es : List Env) (qs : List (Option Pend)), es.length = l.length ∧ qs.length = l.length ∧ K { s with env := es.reverse.flatten ++ s.env } (ps ++ qs.filterMap id) = some r ∧
      (∀ (j : Nat) (o : Oper) (e : Env) (q : Option Pend), l[j]? = some (some o) → es[j]? = some e → qs[j]? = some q → match q with
        | none => Fact P C ops s.tab ((es.take j).reverse.flatten ++ s.env) (ps ++ (qs.take j).filterMap id) o e
        | some p => PFact P C ops s.tab ((es.take j).reverse.flatten ++ s.env) (ps ++ (qs.take j).filterMap id) o p e) ∧ ∀ j : Nat, l[j]? = some none → es[j]? = some [] ∧ qs[j]? = some none
  | [], s, ps, h => ⟨[], [], rfl, rfl, by simpa [runFree] using h, fun j o e q hj => by simp at hj, fun j hj => by simp at hj⟩
  | none :: l, s, ps, h => by
    simp only [runFree] at h
    obtain ⟨es, qs, h1, h1', h2, h3, h4⟩ := runFree_facts hT hS h
    refine ⟨[] :: es, none :: qs, by simp [h1], by simp [h1'], by simpa using h2, fun j o' e q hj he hq => ?_, fun j hj => ?_⟩
    · cases j with
      | zero => simp at hj
      | succ j =>
        have := h3 j o' e q (by simpa using hj) (by simpa using he) (by simpa using hq)
        simpa using this
    · cases j with
      | zero => exact ⟨rfl, rfl⟩
      | succ j => simpa using h4 j (by simpa using hj)
  | some o :: l, s, ps, h => by
    simp only [runFree] at h
    split at h
    · rename_i G hp
      split at h
      · rename_i hok
        simp only [Bool.and_eq_true, List.all_eq_true] at hok
        obtain ⟨hd, hGs⟩ := hok
        split at h
        · rename_i hfree
          obtain ⟨v, hK, hfr⟩ := free_sem hT hS hfree h
          have hfact : Fact P C ops s.tab s.env ps o (match o.dst with | some d => [(d, v, G)] | none => []) := ⟨G, v, hp, hd, fun q hq => has_iff.1 (hGs q hq), rfl, hfr⟩
          have hK' : runFree C ops l { s with env := (match o.dst with | some d => [(d, v, G)] | none => []) ++ s.env } ps K = some r := by
            revert hK
            cases o.dst with
            | none => exact id
            | some d => exact id
          obtain ⟨es, qs, h1, h1', h2, h3, h4⟩ := runFree_facts hT hS hK'
          refine ⟨_ :: es, none :: qs, by simp [h1], by simp [h1'], by simpa using h2, fun j o' e q hj he hq => ?_, fun j hj => ?_⟩
          · cases j with
            | zero =>
              simp only [List.getElem?_cons_zero, Option.some.injEq] at hj he hq
              subst hj he hq
              simpa using hfact
            | succ j =>
              have := h3 j o' e q (by simpa using hj) (by simpa using he) (by simpa using hq)
              simpa using this
          · cases j with
            | zero => simp at hj
            | succ j => simpa using h4 j (by simpa using hj)
        · split at h
          · rename_i g p hph _
            split at h
            · rename_i hg
              subst hg
              obtain ⟨hdst, hold, hmk⟩ := pendHead_sound (P := P) hT hph
              have hfact : PFact P C ops s.tab s.env ps o p [(p.d, .dd, [])] := ⟨hp, hd, .inl hdst, by rw [hdst], .inl ⟨hdst, hold, hmk⟩⟩
              obtain ⟨es, qs, h1, h1', h2, h3, h4⟩ := runFree_facts hT hS h
              refine ⟨[(p.d, .dd, [])] :: es, some p :: qs, by simp [h1], by simp [h1'], by simpa using h2, fun j o' e q hj he hq => ?_, fun j hj => ?_⟩
              · cases j with
                | zero =>
                  simp only [List.getElem?_cons_zero, Option.some.injEq] at hj he hq
                  subst hj he hq
                  simpa using hfact
                | succ j =>
                  have := h3 j o' e q (by simpa using hj) (by simpa using he) (by simpa using hq)
                  simpa using this
              · cases j with
                | zero => simp at hj
                | succ j => simpa using h4 j (by simpa using hj)
            · cases h
          · split at h
            · rename_i g d0 p hup
              split at h
              · rename_i hsl
                split at h
                · rename_i hg
                  subst hg
                  obtain ⟨p0, u1, rfl, u3, u4, u5, u6, u7, u8⟩ := pendUpd_sound (P := P) hT hup
                  have hfact : PFact P C ops s.tab s.env ps o p (match o.dst with | some d => [(d, .dd, [])] | none => []) :=
                    ⟨hp, hd, u7.imp id (fun k => by rw [k.2]; exact has_iff.1 hsl), rfl, .inr ⟨p0, u1, u3, u4, u5, has_iff.1 hsl, u6, u7, u8⟩⟩
                  have hK' : runFree C ops l { s with env := (match o.dst with | some d => [(d, .dd, [])] | none => []) ++ s.env } (ps ++ [p]) K = some r := by
                    revert h
                    cases o.dst with
                    | none => exact id
                    | some d => exact id
                  obtain ⟨es, qs, h1, h1', h2, h3, h4⟩ := runFree_facts hT hS hK'
                  refine ⟨_ :: es, some p :: qs, by simp [h1], by simp [h1'], by simpa using h2, fun j o' e q hj he hq => ?_, fun j hj => ?_⟩
                  · cases j with
                    | zero =>
                      simp only [List.getElem?_cons_zero, Option.some.injEq] at hj he hq
                      subst hj he hq
                      simpa using hfact
                    | succ j =>
                      have := h3 j o' e q (by simpa using hj) (by simpa using he) (by simpa using hq)
                      simpa using this
                  · cases j with
                    | zero => simp at hj
                    | succ j => simpa using h4 j (by simpa using hj)
                · cases h
              · cases h
            obtain ⟨p, hK, hdst, hold, hmk⟩ := pendCall_sound (P := P) hS h
            have hfact : PFact P C ops s.tab s.env ps o p [(p.d, .dd, [])] := ⟨hp, hd, .inl hdst, by rw [hdst], .inl ⟨hdst, hold, hmk⟩⟩
            obtain ⟨es, qs, h1, h1', h2, h3, h4⟩ := runFree_facts hT hS hK
            refine ⟨[(p.d, .dd, [])] :: es, some p :: qs, by simp [h1], by simp [h1'], by simpa using h2, fun j o' e q hj he hq => ?_, fun j hj => ?_⟩
            · cases j with
              | zero =>
                simp only [List.getElem?_cons_zero, Option.some.injEq] at hj he hq
                subst hj he hq
                simpa using hfact
              | succ j =>
                have := h3 j o' e q (by simpa using hj) (by simpa using he) (by simpa using hq)
                simpa using this
            · cases j with
              | zero => simp at hj
              | succ j => simpa using h4 j (by simpa using hj)
          · cases h
      · cases h
    · cases h

/-- The pending ones among the operations of L. -/
def pdL (L : Nat → Bool) : Nat → List (Option Pend) → List Pend
  | _, [] => []
  | k, q :: qs => (match q with | some p => if L k = true then [p] else [] | none => []) ++ pdL L (k + 1) qs

theorem mem_pdL {L : Nat → Bool} {p : Pend} : ∀ {qs : List (Option Pend)} {k : Nat}, p ∈ pdL L k qs ↔ ∃ i, qs[i]? = some (some p) ∧ L (k + i) = true
  | [], k => by simp [pdL]
  | q :: qs, k => by
    simp only [pdL, List.mem_append]
    rw [mem_pdL]
    constructor
    · rintro (h | ⟨i, h1, h2⟩)
      · cases q with
        | none => simp at h
        | some p' =>
          simp only at h
          split at h
          · rename_i hk
            simp only [List.mem_singleton] at h
            subst h
            exact ⟨0, rfl, by simpa using hk⟩
          · simp at h
      · exact ⟨i + 1, by simpa using h1, by rw [show k + (i + 1) = k + 1 + i by omega]; exact h2⟩
    · rintro ⟨i, h1, h2⟩
      cases i with
      | zero =>
        simp only [List.getElem?_cons_zero, Option.some.injEq] at h1
        subst h1
        rw [Nat.add_zero] at h2
        left; simp [h2]
      | succ i => exact .inr ⟨i, by simpa using h1, by rw [show k + 1 + i = k + (i + 1) by omega]; exact h2⟩

theorem pdL_all {L : Nat → Bool} : ∀ {qs : List (Option Pend)} {k : Nat}, (∀ i, i < qs.length → L (k + i) = true) → pdL L k qs = qs.filterMap id
  | [], k, _ => rfl
  | q :: qs, k, h => by
    simp only [pdL]
    rw [pdL_all (fun i hi => by rw [show k + 1 + i = k + (i + 1) by omega]; exact h (i + 1) (by simpa using hi))]
    have := h 0 (by simp)
    rw [Nat.add_zero] at this
    cases q with
    | none => simp
    | some p => simp [this]

theorem pdL_none {L : Nat → Bool} : ∀ {qs : List (Option Pend)} {k : Nat}, (∀ i, k ≤ i → L i = false) → pdL L k qs = []
  | [], k, _ => rfl
  | q :: qs, k, h => by
    simp only [pdL]
    rw [pdL_none (fun i hi => h i (by omega)), h k (Nat.le_refl _)]
    cases q <;> simp

theorem pdL_take : ∀ {qs : List (Option Pend)} {k j : Nat}, pdL (fun i => decide (i < k + j)) k qs = (qs.take j).filterMap id
  | [], k, j => by simp [pdL]
  | q :: qs, k, 0 => by
    rw [pdL_none (fun i hi => by simp; omega)]
    simp
  | q :: qs, k, j + 1 => by
    simp only [pdL, List.take_succ_cons]
    have := pdL_take (qs := qs) (k := k + 1) (j := j)
    rw [show k + 1 + j = k + (j + 1) by omega] at this
    rw [this]
    cases q with
    | none => simp
    | some p => simp

theorem headL_get {X : List Nat} : ∀ {l : List Oper} {k j : Nat}, (headL X l k)[j]? = (l[j]?).map fun o => if has (k + j) X = true then none else some o
  | [], k, j => by simp [headL]
  | o :: r, k, 0 => by simp only [headL, List.getElem?_cons_zero, Option.map_some, Nat.add_zero]; cases has k X <;> rfl
  | o :: r, k, j + 1 => by
    simp only [headL, List.getElem?_cons_succ, headL_get]
    rw [show k + 1 + j = k + (j + 1) by omega]

theorem headL_length {X : List Nat} : ∀ {l : List Oper} {k : Nat}, (headL X l k).length = l.length
  | [], k => rfl
  | o :: r, k => by simp [headL, headL_length]

end Go.Lg
