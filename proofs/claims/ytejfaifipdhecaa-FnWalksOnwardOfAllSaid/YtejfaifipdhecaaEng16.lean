/-
  Calls, the last part; one operation, guarded or not; a list of operations.
-/
import Derived.Test.YtejfaifipdhecaaEng15
set_option linter.unusedVariables false
set_option linter.unusedSimpArgs false
namespace Go.Lg
open Go.RowKit

/-- A value whose path was not taken is none. -/
def UndefR (env : Env) (tmps : Array Value) : Prop := ∀ t v T, look t env = some (v, T) → ¬ Holds tmps T → tmps[t]? = some undef

/-- The same slots under the same path conditions. -/
def Tags (e e' : Env) : Prop := ∀ t, (look t e').map (·.2) = (look t e).map (·.2)

theorem Tags.refl (e : Env) : Tags e e := fun _ => rfl
theorem Tags.trans {e e' e'' : Env} (h : Tags e e') (k : Tags e' e'') : Tags e e'' := fun t => (k t).trans (h t)

theorem look_map {f : SV → SV} {t : Nat} : ∀ {env : Env}, look t (env.map fun p => (p.1, f p.2.1, p.2.2)) = (look t env).map fun x => (f x.1, x.2)
  | [] => rfl
  | (u, v, T) :: e => by
    simp only [List.map_cons, look_cons]
    split
    · rfl
    · exact look_map

theorem Tags.map (f : SV → SV) (env : Env) : Tags env (env.map fun p => (p.1, f p.2.1, p.2.2)) := fun t => by
  rw [look_map]; cases look t env <;> rfl

theorem UndefR.tags {e e' : Env} {tmps : Array Value} (h : UndefR e tmps) (k : Tags e e') : UndefR e' tmps := fun t v T hl hn => by
  have := k t
  rw [hl] at this
  simp only [Option.map_some] at this
  obtain ⟨⟨v', T'⟩, h1, h2⟩ := Option.map_eq_some_iff.1 this.symm
  simp only at h2
  subst h2
  exact h t v' _ h1 hn

theorem Tags.freeze {s s' : St} {m i : Nat} (h : s.freeze m i = some s') : Tags s.env s'.env := by
  unfold St.freeze at h
  split at h
  · obtain rfl := Option.some.inj h; exact Tags.map _ _
  · obtain rfl := Option.some.inj h; exact Tags.map _ _
  · obtain rfl := Option.some.inj h; exact Tags.map _ _
  · cases h

theorem pd_freezes {m : Nat} : ∀ {l : List Nat} {s s' : St}, s.freezes m l = some s' → s'.pd = s.pd
  | [], s, s', h => by obtain rfl := Option.some.inj h; rfl
  | i :: r, s, s', h => by
    simp only [St.freezes] at h
    split at h
    · exact pd_freezes h
    · split at h
      · rename_i s1 hs1
        exact (pd_freezes h).trans (freeze_pd hs1)
      · cases h

theorem Tags.freezes {m : Nat} : ∀ {l : List Nat} {s s' : St}, s.freezes m l = some s' → Tags s.env s'.env
  | [], s, s', h => by obtain rfl := Option.some.inj h; exact .refl _
  | i :: r, s, s', h => by
    simp only [St.freezes] at h
    split at h
    · exact Tags.freezes h
    · split at h
      · rename_i s1 hs1
        exact (Tags.freeze hs1).trans (Tags.freezes h)
      · cases h

theorem dstOk_freezes {C : Ctx} {G : PC} {d : Option Tmp} {m : Nat} : ∀ {l : List Nat} {s s' : St}, s.freezes m l = some s' → dstOk C s' G d = dstOk C s G d
  | [], s, s', h => by obtain rfl := Option.some.inj h; rfl
  | i :: r, s, s', h => by
    simp only [St.freezes] at h
    split at h
    · exact dstOk_freezes h
    · split at h
      · rename_i s1 hs1
        rw [dstOk_freezes h]
        unfold St.freeze at hs1
        split at hs1
        · obtain rfl := Option.some.inj hs1; exact dstOk_sub
        · obtain rfl := Option.some.inj hs1; exact dstOk_sub
        · obtain rfl := Option.some.inj hs1; exact dstOk_kill
        · cases hs1
      · cases h

theorem effOp_tags {C : Ctx} {s s' : St} {o : Oper} {g : Option Bool} (h : effOp C s o = some (g, s')) : ∃ (s1 : St) (v : SV), s' = s1.put o.dst v [] ∧ Tags s.env s1.env ∧ (∀ G d, dstOk C s1 G d = dstOk C s G d) ∧ s1.pd = s.pd := by
  have mapOk : ∀ (f : SV → SV) (s1 : St), s1.env = s.env.map (fun p => (p.1, f p.2.1, p.2.2)) → s1.pd = s.pd → Tags s.env s1.env ∧ (∀ G d, dstOk C s1 G d = dstOk C s G d) ∧ s1.pd = s.pd := fun f s1 he hp =>
    ⟨he ▸ Tags.map f s.env, fun G d => by cases d with | none => rfl | some t => simp [dstOk, he, hp, List.all_map, Function.comp_def], hp⟩
  have same : ∀ (s1 : St), s1.env = s.env → s1.pd = s.pd → Tags s.env s1.env ∧ (∀ G d, dstOk C s1 G d = dstOk C s G d) ∧ s1.pd = s.pd := fun s1 he hp =>
    ⟨he ▸ Tags.refl _, fun G d => by cases d with | none => rfl | some t => simp [dstOk, he, hp], hp⟩
  have frz : ∀ {m l} {s1 s2 : St}, s.freezes m l = some s1 → s2.env = s1.env → s2.pd = s1.pd → Tags s.env s2.env ∧ (∀ G d, dstOk C s2 G d = dstOk C s G d) ∧ s2.pd = s.pd := fun {m l s1 s2} hf he hp =>
    ⟨he ▸ Tags.freezes hf, fun G d => by rw [← dstOk_freezes hf]; cases d with | none => rfl | some t => simp [dstOk, he, hp], hp.trans (pd_freezes hf)⟩
  unfold effOp at h
  split at h
  · split at h
    · split at h
      · unfold opAppend at h
        split at h
        · split at h
          · split at h
            · split at h
              · split at h
                · simp only [Option.some.injEq, Prod.mk.injEq] at h
                  exact ⟨_, _, h.2.symm, mapOk _ _ rfl rfl⟩
                · cases h
              · cases h
            · split at h
              · simp only [Option.some.injEq, Prod.mk.injEq] at h
                exact ⟨_, _, h.2.symm, same _ rfl rfl⟩
              · cases h
            · cases h
          · cases h
        · cases h
      · cases h
    · cases h
  · unfold opMake at h
    split at h
    · simp only [Option.some.injEq, Prod.mk.injEq] at h
      exact ⟨_, _, h.2.symm, same _ rfl rfl⟩
    · cases h
  · split at h
    · unfold opReslice at h
      split at h
      · split at h
        · split at h
          · split at h
            · simp only [Option.some.injEq, Prod.mk.injEq] at h
              exact ⟨_, _, h.2.symm, mapOk _ _ rfl rfl⟩
            · cases h
          · cases h
        · cases h
      · cases h
    · cases h
  · unfold opBuildSlice at h
    split at h
    · rename_i e eid d _ _ hdst
      split at h
      · split at h
        · rename_i s1 _ hs1
          split at h
          · simp only [Option.some.injEq, Prod.mk.injEq] at h
            exact ⟨_, _, h.2.symm, frz hs1 rfl rfl⟩
          · simp only [Option.some.injEq, Prod.mk.injEq] at h
            exact ⟨_, _, h.2.symm, frz hs1 rfl rfl⟩
        · cases h
      · cases h
    · cases h
  · unfold opBox at h
    split at h
    · split at h
      · split at h
        · simp only [Option.some.injEq, Prod.mk.injEq] at h
          exact ⟨_, _, h.2.symm, same _ rfl rfl⟩
        · cases h
      · split at h
        · split at h
          · rename_i s1 hs1
            simp only [Option.some.injEq, Prod.mk.injEq] at h
            exact ⟨_, _, h.2.symm, frz hs1 rfl rfl⟩
          · cases h
        · cases h
    · cases h
  · unfold opAlloc at h
    split at h
    · simp only [Option.some.injEq, Prod.mk.injEq] at h
      exact ⟨_, _, h.2.symm, same _ rfl rfl⟩
    · cases h
  · split at h
    · rename_i g1 s1 hst
      simp only [Option.some.injEq, Prod.mk.injEq] at h
      refine ⟨s1, _, h.2.symm, ?_⟩
      unfold opStore at hst
      split at hst
      · split at hst
        · split at hst
          · split at hst
            · simp only [Option.some.injEq, Prod.mk.injEq] at hst
              obtain ⟨_, rfl⟩ := hst
              exact same _ rfl rfl
            · cases hst
          · cases hst
        · cases hst
      · split at hst
        · split at hst
          · rename_i s2 _ hs2
            split at hst
            · split at hst
              · simp only [Option.some.injEq, Prod.mk.injEq] at hst
                obtain ⟨_, rfl⟩ := hst
                exact frz (s1 := s2) hs2 rfl rfl
              · cases hst
            · cases hst
          · cases hst
        · cases hst
      · cases hst
    · cases h
  · cases h

/-! ### what is known in the midst of a function -/

def Ok (C : Ctx) (w0 : World) (S0 O0 : Nat → Prop) (pl0 : List Value) (s : St) (a : Act) (w : World) : Prop :=
  (∃ S pl, Inv C w0 S0 O0 pl0 s a w S pl) ∧ UndefR s.env a.tmps

section
variable {P : Program} {C : Ctx} {w0 : World} {S0 O0 : Nat → Prop} {pl0 : List Value} {s : St} {a : Act} {w : World} {S : Nat → Prop} {pl : List Value}

theorem Holds.set {tmps : Array Value} {G : PC} {d : Nat} {u : Value} (hn : ∀ p ∈ G, p.1 ≠ d) : Holds (tmps.setIfInBounds d u) G ↔ Holds tmps G := by
  constructor <;> intro h p hp <;> have := h p hp <;> rwa [Array.getElem?_setIfInBounds_ne (Ne.symm (hn p hp))] at *

theorem dstOk_spec {d : Nat} {G : PC} (h : dstOk C s G (some d) = true) : d < C.n ∧ (∀ p ∈ G, p.1 ≠ d) ∧ ∀ t x T, look t s.env = some (x, T) → ∀ p ∈ T, p.1 ≠ d := by
  simp only [dstOk, Bool.and_eq_true, List.all_eq_true, Bool.not_eq_true'] at h
  obtain ⟨⟨⟨h1, h2⟩, h3⟩, _⟩ := h
  exact ⟨by rwa [Nat.blt_eq] at h1, fun p hp => Nat.ne_of_beq_eq_false (h2 p hp), fun t x T hl p hp => Nat.ne_of_beq_eq_false (h3 (t, x, T) (mem_of_look hl) p hp)⟩

theorem UndefR.put {v : SV} {G : PC} {u : Value} (h : UndefR s.env a.tmps) {d : Option Tmp} (hd : dstOk C s G d = true) (hs : a.tmps.size = C.n) (hu : Holds a.tmps G ∨ u = undef) : UndefR (s.put d v G).env (a.put d u).tmps := by
  cases d with
  | none => exact h
  | some t =>
    obtain ⟨h1, h2, h3⟩ := dstOk_spec hd
    intro t' x T hl hn
    simp only [St.put, look_cons] at hl
    simp only [Act.put] at hn ⊢
    split at hl
    · rename_i e
      subst e
      simp only [Option.some.injEq, Prod.mk.injEq] at hl
      obtain ⟨rfl, rfl⟩ := hl
      rw [Holds.set h2] at hn
      rw [hu.resolve_left hn]
      simp [hs, h1]
    · rename_i e
      rw [Holds.set (h3 t' x T hl)] at hn
      rw [Array.getElem?_setIfInBounds_ne e]
      exact h t' x T hl hn

theorem Ok.put (h : Ok C w0 S0 O0 pl0 s a w) {d : Option Tmp} {v : SV} {G : PC} {u : Value} (hd : dstOk C s G d = true) (hu : Holds a.tmps G ∧ (∀ S pl, Inv C w0 S0 O0 pl0 s a w S pl → v.R w S s.tab pl u) ∨ ¬ Holds a.tmps G ∧ u = undef) :
    Ok C w0 S0 O0 pl0 (s.put d v G) (a.put d u) w := by
  obtain ⟨⟨S, pl, hi⟩, hn⟩ := h
  exact ⟨⟨S, pl, hi.put hd (hu.imp (fun k => k.2 S pl hi) (fun k => k.1))⟩, hn.put hd hi.size (hu.imp (fun k => k.1) (fun k => k.2))⟩

theorem undef_ne {b : Bool} : undef ≠ Value.bool b := by simp [undef]

theorem path_holds (hn : UndefR s.env a.tmps) {ops : Array Oper} {o : Oper} {G : PC} (h : pathOf s ops o.guard = some G) : Region.wanted o (yielded ops a.tmps) = true ↔ Holds a.tmps G := by
  unfold pathOf at h
  unfold Region.wanted
  split at h
  · rename_i hg
    obtain rfl := Option.some.inj h
    simp only [hg]
    exact ⟨fun _ => holds_nil, fun _ => trivial⟩
  · rename_i j want hg
    split at h
    · rename_i o' ho'
      split at h
      · rename_i d hd
        split at h
        · rename_i b T hl
          obtain rfl := Option.some.inj h
          simp only [hg, yielded, ho', Option.bind_some, hd]
          constructor
          · intro hw
            have htd : a.tmps[d]? = some (.bool want) := by
              cases ht : a.tmps[d]? with
              | none => rw [ht] at hw; simp at hw
              | some u =>
                rw [ht] at hw
                cases u <;> simp at hw
                rw [hw]
            have hT : Holds a.tmps T := Classical.byContradiction fun hnT => by
              have := hn d _ T hl hnT
              rw [htd] at this
              exact undef_ne (Option.some.inj this).symm
            intro p hp
            rcases List.mem_cons.1 hp with rfl | hp
            · exact htd
            · exact hT p hp
          · intro hh
            have := hh (d, want) (by simp)
            simp only at this
            rw [this]
            simp
        · cases h
      · cases h
    · cases h

theorem gcond_holds (he : EnvR w S s.tab pl s.env a.tmps) : ∀ {G : PC} {g : Bool}, gcond s G = some g → UndefR s.env a.tmps → Holds a.tmps G → g = true
  | [], g, h, _, _ => by simp [gcond] at h; exact h
  | [(d, want)], g, h, hT, hh => by
    simp only [gcond] at h
    split at h
    · rename_i b T hl
      simp only [Option.some.injEq] at h
      obtain ⟨u, h1, h2⟩ := he d _ T hl (Classical.byContradiction fun hnT => by
        have h1 := hT d _ T hl hnT
        have h2 := hh (d, want) (by simp)
        rw [h1] at h2
        exact undef_ne (Option.some.inj h2))
      have := hh (d, want) (by simp)
      simp only at this
      rw [this] at h1
      obtain rfl := Option.some.inj h1
      obtain ⟨cs, h3, h4⟩ := h2
      simp only [AV.R, Ty.R] at h3
      subst h3
      simp only [AV.isAgg, Ty.isAgg, pack, Bool.false_eq_true, if_false, List.headD_cons, Value.bool.injEq] at h4
      subst h4
      cases want <;> simp_all
    · cases h
  | (d, want) :: q :: r, g, h, hT, hh => by
    simp only [gcond] at h
    split at h
    · rename_i b T g' hl hg'
      simp only [Option.some.injEq] at h
      have ih := gcond_holds he hg' hT (fun p hp => hh p (List.mem_cons_of_mem _ hp))
      obtain ⟨u, h1, h2⟩ := he d _ T hl (Classical.byContradiction fun hnT => by
        have h1 := hT d _ T hl hnT
        have h2 := hh (d, want) (by simp)
        rw [h1] at h2
        exact undef_ne (Option.some.inj h2))
      have := hh (d, want) (by simp)
      simp only at this
      rw [this] at h1
      obtain rfl := Option.some.inj h1
      obtain ⟨cs, h3, h4⟩ := h2
      simp only [AV.R, Ty.R] at h3
      subst h3
      simp only [AV.isAgg, Ty.isAgg, pack, Bool.false_eq_true, if_false, List.headD_cons, Value.bool.injEq] at h4
      subst h4
      subst ih
      cases want <;> simp_all
    · cases h

end

end Go.Lg
