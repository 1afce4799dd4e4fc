/-
  The state put in order.
-/
import Derived.Test.YtejfaifipdhecaaEng23
set_option linter.unusedVariables false
set_option linter.unusedSimpArgs false
namespace Go.Lg
open Go.RowKit

/-! ### the slots that live on -/

theorem look_snoc {t u : Nat} {x : SV × PC} {env : Env} : look t (env ++ [(u, x)]) = match look t env with | some y => some y | none => if u = t then some x else none := by
  rw [look_append, look_cons]
  rfl

section
variable {C : Ctx} {w0 : World} {S0 O0 : Nat → Prop} {pl0 : List Value} {a : Act} {w : World} {S : Nat → Prop}

theorem Inv.env_snoc {env : Env} {tab : List Ent} {pd : List Pend} {pl : List Value} (hi : Inv C w0 S0 O0 pl0 ⟨env, tab, pd⟩ a w S pl) {t : Nat} {v : SV} {u : Value} (hu : a.tmps[t]? = some u) (hv : v.R w S tab pl u) : Inv C w0 S0 O0 pl0 ⟨env ++ [(t, v, [])], tab, pd⟩ a w S pl := by
  refine ⟨hi.hp, hi.fr, hi.own, hi.fix, hi.fresh, hi.up, hi.sub, fun t' v' T hl hT => ?_, hi.size, hi.defers, hi.pend⟩
  rw [look_snoc] at hl
  split at hl
  · rename_i y hy; obtain rfl := Option.some.inj hl; exact hi.env t' v' T hy hT
  · split at hl
    · rename_i e
      subst e
      simp only [Option.some.injEq, Prod.mk.injEq] at hl
      obtain ⟨rfl, rfl⟩ := hl
      exact ⟨u, hu, hv⟩
    · cases hl

theorem pick_sound {s : St} : ∀ {L : List (Nat × Bool)} {acc s1 : St} {pl : List Value}, pick s L acc = some s1 → acc.pd = [] → Inv C w0 S0 O0 pl0 acc a w S pl → EnvR w S acc.tab pl s.env a.tmps → (∀ p ∈ acc.env, p.2.2 = []) →
    ∃ pl', Inv C w0 S0 O0 pl0 s1 a w S pl' ∧ ∀ p ∈ s1.env, p.2.2 = []
  | [], acc, s1, pl, h, hpd, hi, he, ht => by
    simp only [pick, Option.some.injEq] at h
    subst h
    exact ⟨pl, hi, ht⟩
  | (t, fl) :: r, acc, s1, pl, h, hpd, hi, he, ht => by
    simp only [pick] at h
    split at h
    · rename_i av hl
      obtain ⟨u, hu, hv⟩ := he t _ _ hl holds_nil
      have ht' : ∀ x : SV, ∀ p ∈ acc.env ++ [(t, x, [])], p.2.2 = [] := fun x p hp => by
        rcases List.mem_append.1 hp with hp | hp
        · exact ht p hp
        · simp only [List.mem_singleton] at hp; rw [hp]
      have old : ∀ av : AV, (SV.one av).R w S acc.tab pl u → pick s r { acc with env := acc.env ++ [(t, .one av, [])] } = some s1 → ∃ pl', Inv C w0 S0 O0 pl0 s1 a w S pl' ∧ ∀ p ∈ s1.env, p.2.2 = [] := fun av hv h =>
        pick_sound h hpd (hi.env_snoc hu hv) he (ht' _)
      split at h
      · rename_i eid e
        obtain ⟨cs, h1, h2⟩ := hv
        simp only [AV.R] at h1
        subst h1
        have hlen := hi.hp.len
        have hp' : Hp w S (acc.tab ++ [.arr eid e []]) (pl ++ [.slice none 0 0]) := hi.hp.push ⟨[], ⟨by simp, .inl ⟨rfl, rfl⟩⟩, ⟨rfl, fun i cs x h => by simp at h⟩⟩ (fun b _ hb => by simp [blks, blk] at hb)
        have hown : ∀ i b, Own (acc.tab ++ [.arr eid e []]) (pl ++ [.slice none 0 0]) i b → Own acc.tab pl i b := fun i b ho => by
          rcases (own_push hlen).1 ho with h | ⟨_, _, h⟩
          · exact h
          · simp [blks, blk] at h
        have hk := fun i => Keep.push hlen (.arr eid e []) (.slice none 0 0) i
        have hS : ∀ b, S b → b < w.heap.size → S b ∧ w.heap[b]? = w.heap[b]? := fun b hb _ => ⟨hb, rfl⟩
        have hi1 : Inv C w0 S0 O0 pl0 ⟨acc.env, acc.tab ++ [.arr eid e []], []⟩ a w S (pl ++ [.slice none 0 0]) :=
          ⟨hp', hi.fr, fun i b ho => hi.own i b (hown i b ho), fun i hif hv h => (hk i).pl hv (hi.fix i hif hv h), fun i b hm ho => hi.fresh i b hm (hown i b ho), hi.up, hi.sub, hi.env.keep hS hi.hp.stable hk, hi.size, hi.defers, PendsR.nil rfl⟩
        have hvn : (SV.one (.own acc.tab.length)).R w S (acc.tab ++ [.arr eid e []]) (pl ++ [.slice none 0 0]) u := by
          refine ⟨[.slice none 0 0], ⟨eid, e, [], .slice none 0 0, by simp, by simp [← hlen], ⟨_, _, _, rfl⟩, rfl⟩, h2⟩
        exact pick_sound h rfl (hi1.env_snoc hu hvn) (he.keep hS hi.hp.stable hk) (ht' _)
      · rename_i i o t'
        split at h
        · rename_i c hc
          have hS : ∀ b, S b → b < w.heap.size → S b ∧ w.heap[b]? = w.heap[b]? := fun b hb _ => ⟨hb, rfl⟩
          have hi0 : Inv C w0 S0 O0 pl0 ⟨acc.env, acc.tab, []⟩ a w S pl := hi.drop
          obtain ⟨pl1, hi1, hk1, hr1⟩ := mats_push c hi0
          have hc1 : (acc.tab ++ (c.mats acc.tab.length).2)[i]? = some (.box c) := by
            rw [List.getElem?_append_left (List.getElem?_eq_some_iff.1 hc).1]; exact hc
          have hback : ∀ (b : Nat) (cs : List Value) (eid : TypeId), pl1[i]? = some (.pointer (some ⟨b, 0, none⟩)) → w.heap[b]? = some (.cells cs.toArray eid (0, 0)) → (c.mats acc.tab.length).1.R w S (acc.tab ++ (c.mats acc.tab.length).2) pl1 cs := fun b cs eid hb hh => by
            obtain ⟨hv0, hp0, b0, cs0, eid0, e1, e2, e3⟩ := hi0.hp.pl hc
            have := (hk1 i).pl _ hp0
            rw [hb, e1] at this
            simp only [Option.some.injEq, Value.pointer.injEq, Addr.mk.injEq, and_true] at this
            subst this
            rw [e2] at hh
            simp only [Option.some.injEq, Obj.cells.injEq, List.toArray_inj] at hh
            have hcs : cs0 = cs := by simpa using congrArg Array.toList hh.1
            rw [← hcs]
            exact hr1 cs0 e3
          obtain ⟨hi2, hk2⟩ := hi1.rebox hc1 hback
          have hk : ∀ j, Keep acc.tab pl (setAt i (.box (c.mats acc.tab.length).1) (acc.tab ++ (c.mats acc.tab.length).2)) pl1 j := fun j => (hk1 j).trans (hk2 j)
          have hv2 : (SV.one (.bx i o t')).R w S (setAt i (.box (c.mats acc.tab.length).1) (acc.tab ++ (c.mats acc.tab.length).2)) pl1 u := by
            obtain ⟨cs, h1, h2⟩ := hv
            exact ⟨cs, AV.R.keep hS hi.hp.stable hk h1, h2⟩
          exact pick_sound h rfl (hi2.env_snoc hu hv2) (he.keep hS hi.hp.stable hk) (ht' _)
        · cases h
      · exact old _ hv h
    · cases h

/-! ### the table in another order -/

theorem renCaps_get {l : List Nat} : ∀ {caps c : List (Nat × Ty)}, renCaps l caps = some c → c.length = caps.length ∧ ∀ (k j : Nat) (t : Ty), c[k]? = some (j, t) → ∃ i : Nat, caps[k]? = some (i, t) ∧ pos i l = some j
  | [], c, h => by simp only [renCaps, Option.some.injEq] at h; subst h; exact ⟨rfl, fun k j t hk => by simp at hk⟩
  | (i, t) :: r, c, h => by
    simp only [renCaps] at h
    split at h
    · rename_i j r' hj hr
      obtain rfl := Option.some.inj h
      obtain ⟨h1, h2⟩ := renCaps_get hr
      refine ⟨by simp [h1], fun k j' t' hk => ?_⟩
      cases k with
      | zero => simp only [List.getElem?_cons_zero, Option.some.injEq, Prod.mk.injEq] at hk; obtain ⟨rfl, rfl⟩ := hk; exact ⟨i, rfl, hj⟩
      | succ k => exact h2 k j' t' (by simpa using hk)
    · cases h

/-- Entry i stands as entry j in the new table. -/
structure Moves (tab : List Ent) (pl : List Value) (tab' : List Ent) (pl' : List Value) (i j : Nat) : Prop where
  pl : ∀ hv : Value, pl[i]? = some hv → pl'[j]? = some hv
  arr : ∀ (eid : TypeId) (e : Ty) (xs : List e.T), tab[i]? = some (.arr eid e xs) → tab'[j]? = some (.arr eid e xs)
  box : ∀ c : AV, tab[i]? = some (.box c) → ∃ c', tab'[j]? = some (.box c')
  rows : ∀ (eid0 eid : TypeId) (e : Ty) (xss : List (List e.T)), tab[i]? = some (.rows eid0 eid e xss) → tab'[j]? = some (.rows eid0 eid e xss)

theorem AV.ren_sound {tab tab' : List Ent} {pl pl' : List Value} {l : List Nat} (hk : ∀ i j, pos i l = some j → Moves tab pl tab' pl' i j) : ∀ {b c : AV}, b.ren l = some c → c.isAgg = b.isAgg ∧ ∀ {cs : List Value}, b.R w S tab pl cs → c.R w S tab' pl' cs
  | .val t x, c, h => by simp only [AV.ren, Option.some.injEq] at h; subst h; exact ⟨rfl, fun h => h⟩
  | .nsl _ _, c, h => by simp only [AV.ren, Option.some.injEq] at h; subst h; exact ⟨rfl, fun h => h⟩
  | .npt, c, h => by simp only [AV.ren, Option.some.injEq] at h; subst h; exact ⟨rfl, fun h => h⟩
  | .un, c, h => by simp only [AV.ren, Option.some.injEq] at h; subst h; exact ⟨rfl, fun h => h⟩
  | .dd, c, h => by simp only [AV.ren, Option.some.injEq] at h; subst h; exact ⟨rfl, fun h => h⟩
  | .ub _, c, h => by simp only [AV.ren, Option.some.injEq] at h; subst h; exact ⟨rfl, fun h => h⟩
  | .own i, c, h => by
    simp only [AV.ren] at h
    split at h
    · rename_i j hj
      obtain rfl := Option.some.inj h
      refine ⟨rfl, fun h => ?_⟩
      simp only [AV.R] at h ⊢
      obtain ⟨eid, e, xs, hv, h1, h2, h3, rfl⟩ := h
      exact ⟨eid, e, xs, hv, (hk i j hj).arr _ _ _ h1, (hk i j hj).pl _ h2, h3, rfl⟩
    · cases h
  | .bx i off t, c, h => by
    simp only [AV.ren] at h
    split at h
    · rename_i j hj
      obtain rfl := Option.some.inj h
      refine ⟨rfl, fun h => ?_⟩
      simp only [AV.R] at h ⊢
      obtain ⟨a, b, h1, h2, rfl⟩ := h
      obtain ⟨c', h3⟩ := (hk i j hj).box _ h1
      exact ⟨c', b, h3, (hk i j hj).pl _ h2, rfl⟩
    · cases h
  | .ela i n e, c, h => by
    simp only [AV.ren] at h
    split at h
    · rename_i j hj
      obtain rfl := Option.some.inj h
      refine ⟨rfl, fun h => ?_⟩
      simp only [AV.R] at h ⊢
      obtain ⟨eid, xs, g, o, m, cc, h1, h2, h3, h4, rfl⟩ := h
      exact ⟨eid, xs, g, o, m, cc, (hk i j hj).arr _ _ _ h1, (hk i j hj).pl _ h2, h3, h4, rfl⟩
    · cases h
  | .xr i t, c, h => by
    simp only [AV.ren] at h
    split at h
    · rename_i j hj
      obtain rfl := Option.some.inj h
      refine ⟨rfl, fun h => ?_⟩
      simp only [AV.R] at h ⊢
      obtain ⟨eid0, eid, e, xss, outer, hs, c, h1, h2, h3, rfl⟩ := h
      exact ⟨eid0, eid, e, xss, outer, hs, c, (hk i j hj).rows _ _ _ _ h1, (hk i j hj).pl _ h2, h3, rfl⟩
    · cases h
  | .fn f caps, c, h => by
    simp only [AV.ren] at h
    split at h
    · rename_i c' hc
      obtain rfl := Option.some.inj h
      refine ⟨rfl, fun h => ?_⟩
      simp only [AV.R] at h ⊢
      obtain ⟨vs, rfl, hl, h⟩ := h
      obtain ⟨g1, g2⟩ := renCaps_get hc
      refine ⟨vs, rfl, by omega, fun k j t hk' => ?_⟩
      obtain ⟨i, h1, h2⟩ := g2 k j t hk'
      obtain ⟨a, b, h3, h4, h5⟩ := h k i t h1
      obtain ⟨a', h6⟩ := (hk i j h2).box _ h3
      exact ⟨a', b, h6, (hk i j h2).pl _ h4, h5⟩
    · cases h
  | .pr p q, c, h => by
    simp only [AV.ren] at h
    split at h
    · rename_i x y hx hy
      obtain rfl := Option.some.inj h
      refine ⟨rfl, fun h => ?_⟩
      simp only [AV.R] at h ⊢
      obtain ⟨c1, c2, rfl, h1, h2⟩ := h
      exact ⟨c1, c2, rfl, (AV.ren_sound hk hx).2 h1, (AV.ren_sound hk hy).2 h2⟩
    · cases h

theorem renTab_spec {tab : List Ent} {l : List Nat} : ∀ {r : List Nat} {es : List Ent}, renTab tab l r = some es → es.length = r.length ∧ ∀ (k i : Nat), r[k]? = some i →
    (∃ (eid : TypeId) (e : Ty) (xs : List e.T), tab[i]? = some (Ent.arr eid e xs) ∧ es[k]? = some (Ent.arr eid e xs)) ∨ (∃ (b c : AV), tab[i]? = some (Ent.box b) ∧ b.ren l = some c ∧ es[k]? = some (Ent.box c)) ∨
    ∃ (eid0 eid : TypeId) (e : Ty) (xss : List (List e.T)), tab[i]? = some (Ent.rows eid0 eid e xss) ∧ es[k]? = some (Ent.rows eid0 eid e xss)
  | [], es, h => by simp only [renTab, Option.some.injEq] at h; subst h; exact ⟨rfl, fun k i hk => by simp at hk⟩
  | j :: r, es, h => by
    simp only [renTab] at h
    split at h
    · rename_i eid e xs es' ht hr
      obtain rfl := Option.some.inj h
      obtain ⟨h1, h2⟩ := renTab_spec hr
      refine ⟨by simp [h1], fun k i hk => ?_⟩
      cases k with
      | zero => simp only [List.getElem?_cons_zero, Option.some.injEq] at hk; subst hk; exact .inl ⟨_, _, _, ht, rfl⟩
      | succ k => simpa using h2 k i (by simpa using hk)
    · rename_i eid0 eid e xss es' ht hr
      obtain rfl := Option.some.inj h
      obtain ⟨h1, h2⟩ := renTab_spec hr
      refine ⟨by simp [h1], fun k i hk => ?_⟩
      cases k with
      | zero => simp only [List.getElem?_cons_zero, Option.some.injEq] at hk; subst hk; exact .inr (.inr ⟨_, _, _, _, ht, rfl⟩)
      | succ k => simpa using h2 k i (by simpa using hk)
    · rename_i b es' ht hr
      split at h
      · rename_i c hc
        obtain rfl := Option.some.inj h
        obtain ⟨h1, h2⟩ := renTab_spec hr
        refine ⟨by simp [h1], fun k i hk => ?_⟩
        cases k with
        | zero => simp only [List.getElem?_cons_zero, Option.some.injEq] at hk; subst hk; exact .inr (.inl ⟨_, _, ht, hc, rfl⟩)
        | succ k => simpa using h2 k i (by simpa using hk)
      · cases h
    · cases h

theorem renEnv_spec {l : List Nat} : ∀ {env env' : Env}, renEnv l env = some env' → (∀ t v T, look t env' = some (v, T) → ∃ b c, look t env = some (.one b, T) ∧ v = .one c ∧ b.ren l = some c) ∧ ((∀ p ∈ env, p.2.2 = []) → ∀ p ∈ env', p.2.2 = [])
  | [], env', h => by simp only [renEnv, Option.some.injEq] at h; subst h; exact ⟨fun t v T hl => by simp [look] at hl, fun _ p hp => by simp at hp⟩
  | (u, .one b, g) :: r, env', h => by
    simp only [renEnv] at h
    split at h
    · rename_i c r' hc hr
      obtain rfl := Option.some.inj h
      obtain ⟨h1, h2⟩ := renEnv_spec hr
      refine ⟨fun t v T hl => ?_, fun hp p hp' => ?_⟩
      · rw [look_cons] at hl ⊢
        split at hl
        · rename_i e
          simp only [Option.some.injEq, Prod.mk.injEq] at hl
          obtain ⟨rfl, rfl⟩ := hl
          exact ⟨b, c, by rw [if_pos e], rfl, hc⟩
        · rename_i e
          rw [if_neg e]
          exact h1 t v T hl
      · rcases List.mem_cons.1 hp' with rfl | hp'
        · exact hp (u, .one b, g) (by simp)
        · exact h2 (fun p hp'' => hp p (List.mem_cons_of_mem _ hp'')) p hp'
    · cases h
  | (u, .tup _, g) :: r, env', h => by simp [renEnv] at h
  | (u, .dd, g) :: r, env', h => by simp [renEnv] at h

theorem has_app {i : Nat} {l m : List Nat} (h : has i l = true) : has i (l ++ m) = true := has_iff.2 (List.mem_append_left _ (has_iff.1 h))

theorem ded_prefix : ∀ (l acc : List Nat), ∃ m, ded l acc = acc ++ m
  | [], acc => ⟨[], by simp [ded]⟩
  | i :: r, acc => by
    simp only [ded]
    split
    · exact ded_prefix r acc
    · obtain ⟨m, hm⟩ := ded_prefix r (acc ++ [i])
      exact ⟨i :: m, by rw [hm]; simp⟩

theorem ded_range : ∀ (m k : Nat) (l : List Nat), ded (List.range' k m ++ l) (List.range k) = ded l (List.range (k + m))
  | 0, k, l => by simp
  | m + 1, k, l => by
    have hn : has k (List.range k) = false := by
      cases h : has k (List.range k) with
      | false => rfl
      | true => have := has_iff.1 h; simp at this
    simp only [List.range'_succ, List.cons_append, ded, hn]
    rw [← List.range_succ, ded_range m (k + 1) l, show k + 1 + m = k + (m + 1) by omega]

theorem norm_sound (hfx : ∀ i ∈ C.fx, i < C.m) {s s' : St} {L : List (Nat × Bool)} (h : norm C.m L s = some s') (hok : Ok C w0 S0 O0 pl0 s a w) : Ok C w0 S0 O0 pl0 s' a w := by
  obtain ⟨⟨S, pl, hi⟩, hu⟩ := hok
  unfold norm at h
  split at h
  · cases h
  · cases h
  · rename_i s1 _ hs1
    obtain ⟨pl1, hi1, ht1⟩ := pick_sound hs1 (acc := ⟨[], s.tab, []⟩) rfl ⟨hi.hp, hi.fr, hi.own, hi.fix, hi.fresh, hi.up, hi.sub, fun t v T hl => by simp [look] at hl, hi.size, hi.defers, PendsR.nil rfl⟩ hi.env (fun p hp => by simp at hp)
    clear hi hu hs1
    simp only at h
    generalize hl3 : ded (inner s1.tab (ded (inner s1.tab (ded (List.range C.m ++ envRefs s1.env) [])) (ded (List.range C.m ++ envRefs s1.env) []))) (ded (inner s1.tab (ded (List.range C.m ++ envRefs s1.env) [])) (ded (List.range C.m ++ envRefs s1.env) [])) = l at h
    have hpre : ∃ q, l = List.range C.m ++ q := by
      obtain ⟨q1, h1⟩ : ∃ q, ded (List.range C.m ++ envRefs s1.env) [] = List.range C.m ++ q := by
        have := ded_range C.m 0 (envRefs s1.env)
        rw [← List.range_eq_range', List.range_zero, Nat.zero_add] at this
        rw [this]
        exact ded_prefix _ _
      rw [h1] at hl3
      obtain ⟨q2, h2⟩ := ded_prefix (inner s1.tab (List.range C.m ++ q1)) (List.range C.m ++ q1)
      rw [h2] at hl3
      obtain ⟨q3, h3⟩ := ded_prefix (inner s1.tab (List.range C.m ++ q1 ++ q2)) (List.range C.m ++ q1 ++ q2)
      rw [h3] at hl3
      exact ⟨q1 ++ (q2 ++ q3), by rw [← hl3]; simp⟩
    split at h
    · rename_i env tab hnd henv htab
      obtain rfl := Option.some.inj h
      obtain ⟨e1, e2⟩ := renEnv_spec henv
      obtain ⟨t1, t2⟩ := renTab_spec htab
      obtain ⟨q, hq⟩ := hpre
      have hfirst : ∀ i, i < C.m → l[i]? = some i := fun i hi => by
        rw [hq, List.getElem?_append_left (by simpa using hi), List.getElem?_range hi]
      have hlen1 := hi1.hp.len
      have hlt : ∀ i ∈ l, i < s1.tab.length := fun i hil => by
        obtain ⟨k, hk⟩ := List.mem_iff_getElem?.1 hil
        rcases t2 k i hk with ⟨_, _, _, h1, _⟩ | ⟨_, _, h1, _⟩ | ⟨_, _, _, _, h1, _⟩ <;> exact (List.getElem?_eq_some_iff.1 h1).1
      have hplk : ∀ k i, l[k]? = some i → (l.map fun i => pl1.getD i undef)[k]? = pl1[i]? := fun k i hk => by
        have : i < pl1.length := by rw [hlen1]; exact hlt i (List.mem_of_getElem? hk)
        rw [List.getElem?_map, hk, Option.map_some, List.getD_eq_getElem?_getD, List.getElem?_eq_getElem this, Option.getD_some]
      have hmv : ∀ i j, pos i l = some j → Moves s1.tab pl1 tab (l.map fun i => pl1.getD i undef) i j := fun i j hj => by
        have hlj := pos_some hj
        refine ⟨fun hv h => by rw [hplk j i hlj]; exact h, fun eid e xs h => ?_, fun c h => ?_, fun eid0 eid e xss h => ?_⟩
        · rcases t2 j i hlj with ⟨eid', e', xs', h1, h2⟩ | ⟨_, _, h1, _⟩ | ⟨_, _, _, _, h1, _⟩
          · rw [h] at h1; rw [h2]; exact h1.symm
          · rw [h] at h1; cases h1
          · rw [h] at h1; cases h1
        · rcases t2 j i hlj with ⟨eid', e', xs', h1, h2⟩ | ⟨_, c', h1, _, h2⟩ | ⟨_, _, _, _, h1, _⟩
          · rw [h] at h1; cases h1
          · exact ⟨c', h2⟩
          · rw [h] at h1; cases h1
        · rcases t2 j i hlj with ⟨eid', e', xs', h1, h2⟩ | ⟨_, c', h1, _, h2⟩ | ⟨_, _, _, _, h1, h2⟩
          · rw [h] at h1; cases h1
          · rw [h] at h1; cases h1
          · rw [h] at h1; rw [h2]; exact h1.symm
      have hown : ∀ k b, Own tab (l.map fun i => pl1.getD i undef) k b → ∃ i, l[k]? = some i ∧ Own s1.tab pl1 i b := fun k b ⟨e, hv, h1, h2, h3, h4⟩ => by
        have hk : k < l.length := by rw [← t1]; exact (List.getElem?_eq_some_iff.1 h1).1
        have hlk := List.getElem?_eq_getElem hk
        refine ⟨l[k], hlk, ?_⟩
        rw [hplk k l[k] hlk] at h3
        rcases t2 k l[k] hlk with ⟨_, _, _, g1, g2⟩ | ⟨_, _, g1, _, g2⟩ | ⟨_, _, _, _, g1, g2⟩
        · exact ⟨_, hv, g1, rfl, h3, h4⟩
        · exact ⟨_, hv, g1, rfl, h3, h4⟩
        · exact ⟨_, hv, g1, rfl, h3, h4⟩
      refine ⟨⟨S, l.map fun i => pl1.getD i undef, ⟨⟨by simp [t1], fun k e hv h1 h2 => ?_, fun k k' b h1 h2 => ?_, hi1.hp.stable, fun k b h1 => ?_⟩, hi1.fr, fun k b h1 => ?_, fun i hif hv h => ?_, fun k b hm h1 => ?_, hi1.up, hi1.sub, fun t v T hl hT => ?_, hi1.size, hi1.defers, PendsR.nil rfl⟩⟩, fun t v T hl hn => ?_⟩
      · have hk : k < l.length := by rw [← t1]; exact (List.getElem?_eq_some_iff.1 h1).1
        have hlk := List.getElem?_eq_getElem hk
        rw [hplk k l[k] hlk] at h2
        rcases t2 k l[k] hlk with ⟨_, _, _, g1, g2⟩ | ⟨b, c, g1, g3, g2⟩ | ⟨_, _, _, _, g1, g2⟩
        rotate_left 2
        · rw [h1] at g2
          obtain rfl := Option.some.inj g2
          exact hi1.hp.ent _ _ hv g1 h2
        · rw [h1] at g2
          obtain rfl := Option.some.inj g2
          exact hi1.hp.ent _ _ hv g1 h2
        · rw [h1] at g2
          obtain rfl := Option.some.inj g2
          obtain ⟨b', cs, eid, k1, k2, k3⟩ := hi1.hp.ent _ _ hv g1 h2
          exact ⟨b', cs, eid, k1, k2, (AV.ren_sound hmv g3).2 k3⟩
      · obtain ⟨i, g1, g2⟩ := hown k b h1
        obtain ⟨i', g3, g4⟩ := hown k' b h2
        obtain rfl := hi1.hp.inj i i' b g2 g4
        have p1 := pos_at hnd g1
        have p2 := pos_at hnd g3
        rw [p1] at p2
        exact Option.some.inj p2
      · obtain ⟨i, _, g2⟩ := hown k b h1
        exact hi1.hp.off i b g2
      · obtain ⟨i, _, g2⟩ := hown k b h1
        exact hi1.own i b g2
      · have := hfirst i (hfx i hif)
        rw [hplk i i this]
        exact hi1.fix i hif hv h
      · obtain ⟨i, g1, g2⟩ := hown k b h1
        refine hi1.fresh i b (Nat.not_lt.1 fun hlt => ?_) g2
        have p1 := pos_at hnd g1
        have p2 := pos_at hnd (hfirst i hlt)
        rw [p1] at p2
        have := Option.some.inj p2
        omega
      · obtain ⟨b, c, g1, rfl, g2⟩ := e1 t v T hl
        obtain ⟨u, h1, cs, h2, h3⟩ := hi1.env t _ T g1 hT
        obtain ⟨g3, g4⟩ := AV.ren_sound (w := w) (S := S) hmv g2
        exact ⟨u, h1, cs, g4 h2, by rw [h3, g3]⟩
      · have := e2 ht1 (t, v, T) (mem_of_look hl)
        simp only at this
        subst this
        exact absurd holds_nil hn
    · cases h

end
end Go.Lg
