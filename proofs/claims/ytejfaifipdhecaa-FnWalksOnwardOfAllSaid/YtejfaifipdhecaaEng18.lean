/-
  One operation of a list; a list of operations.
-/
import Derived.Test.YtejfaifipdhecaaEng17
set_option linter.unusedVariables false
set_option linter.unusedSimpArgs false
namespace Go.Lg
open Go.RowKit

section
variable {P : Program} {C : Ctx} {s : St}

theorem goes_of {ops : Array Oper} {o : Oper} {s' : St} {G : PC} (hp : pathOf s ops o.guard = some G)
    (h1 : ∀ {w0 : World} {S0 O0 : Nat → Prop} {pl0 : List Value} {a : Act} {w : World}, Ok C w0 S0 O0 pl0 s a w → Holds a.tmps G → ∀ (N : Act → World → Prop) (Q : Exit → Act → World → Prop), (∀ a' w', Ok C w0 S0 O0 pl0 s' a' w' → N a' w') → o.wp P a w N Q)
    (h2 : ∀ {w0 : World} {S0 O0 : Nat → Prop} {pl0 : List Value} {a : Act} {w : World}, Ok C w0 S0 O0 pl0 s a w → ¬ Holds a.tmps G → Ok C w0 S0 O0 pl0 s' (a.put o.dst undef) w) : Goes P C ops o s s' := by
  intro w0 S0 O0 pl0 a w hok N Q hN
  have hw := path_holds hok.2 hp
  split
  · rename_i hb
    exact h1 hok (hw.1 hb) N Q hN
  · rename_i hb
    exact hN _ _ (h2 hok fun hG => hb (hw.2 hG))

theorem pure_goes (hT : thOk P C = true) {ops : Array Oper} {o : Oper} {G : PC} (hp : pathOf s ops o.guard = some G) (hd : dstOk C s G o.dst = true) {g : Option Bool} {v : SV} (h : pureOp C s G o = some (g, v))
    (hg : ∀ {w0 : World} {S0 O0 : Nat → Prop} {pl0 : List Value} {a : Act} {w : World}, Ok C w0 S0 O0 pl0 s a w → Holds a.tmps G → g ≠ some false) : Goes P C ops o s (s.put o.dst v G) :=
  goes_of hp (fun {w0 S0 O0 pl0 a w} hok hG N Q hN => by
    have hg' := hg hok hG
    obtain ⟨⟨S, pl, hi⟩, hu⟩ := hok
    obtain ⟨u, h1, h2⟩ := pureOp_sound hT hi.hp hi.env hG h hg'
    unfold Oper.wp
    rw [h1, Oper.upon_value]
    exact hN _ _ ⟨⟨S, pl, hi.put hd (.inl h2)⟩, hu.put hd hi.size (.inl hG)⟩)
    fun {w0 S0 O0 pl0 a w} hok hn => by
      obtain ⟨⟨S, pl, hi⟩, hu⟩ := hok
      exact ⟨⟨S, pl, hi.put hd (.inr hn)⟩, hu.put hd hi.size (.inr rfl)⟩

theorem guard_nil {o : Oper} {ops : Array Oper} (hp : pathOf s ops o.guard = some []) : o.guard = none := by
  unfold pathOf at hp
  split at hp
  · assumption
  · split at hp
    · split at hp
      · split at hp
        · simp at hp
        · cases hp
      · cases hp
    · cases hp

theorem storePend_tags {C : Ctx} {s s' : St} {p : Pend} {o : Oper} {g : Option Bool} (h : storePend C s p o = some (g, s')) : ∃ s1 : St, s' = s1.put o.dst .dd [] ∧ Tags s.env s1.env ∧ (∀ G d, dstOk C s G d = true → dstOk C s1 G d = true) := by
  unfold storePend at h
  split at h
  · split at h
    · split at h
      · simp only [Option.some.injEq, Prod.mk.injEq] at h
        refine ⟨_, h.2.symm, Tags.map _ _, fun G d hd => ?_⟩
        cases d with
        | none => rfl
        | some t =>
          simp only [dstOk, Bool.and_eq_true] at hd ⊢
          refine ⟨⟨hd.1.1, ?_⟩, rfl⟩
          have := hd.1.2
          simpa [St.sub, List.all_map, Function.comp_def] using this
      · cases h
    · cases h
  · cases h

theorem dstOk_mats {C : Ctx} {s : St} {tab : List Ent} {d : Option Tmp} (hpd : s.pd = []) : dstOk C ⟨s.env, tab, []⟩ [] d = dstOk C s [] d := by
  unfold dstOk
  cases d with
  | none => rfl
  | some t => simp only [hpd]

theorem step_goes {A : Type} (hT : thOk P C = true) (hS : Sigs P C) {ops : Array Oper} {o : Oper} {G : PC} (hp : pathOf s ops o.guard = some G) (hd : dstOk C s G o.dst = true) {K : St → Option A} {r : A} (h : step C s G o K = some r) :
    ∃ s', K s' = some r ∧ Goes P C ops o s s' := by
  unfold step at h
  split at h
  · rename_i f args tys hop
    split at h
    · rename_i fid caps l hf hl hpd
      split at h
      · rename_i sp hsp
        obtain ⟨ins, res, many, fn⟩ := sp
        have hM := hS fid _ hsp
        cases fn with
        | inl fn =>
          simp only at h
          obtain ⟨s', hK, hgo⟩ := callPure_sound hM hpd hf hl hd h
          refine ⟨s', hK, goes_of hp (fun {w0 S0 O0 pl0 a w} hok hG N Q hN => ?_) fun hok hn => (hgo hok).2 hn⟩
          obtain ⟨capv, hfv, hc⟩ := (hgo hok).1 hG
          obtain ⟨dst, op, ty, pos, af, gd⟩ := o
          simp only at hop
          subst hop
          exact wp_of_calls (run_call hfv hM.go) (R := fun v w' => Ok C w0 S0 O0 pl0 s' (a.put dst v) w') (hc.mono fun e w' ⟨v, he, h1, _⟩ => ⟨v, he, h1⟩) fun v w' h => hN _ _ h
        | inr fn =>
          simp only at h
          split at h
          · split at h
            · obtain ⟨s', hK, _, hgo⟩ := callRow_sound hM hpd hf hl hd h
              refine ⟨s', hK, goes_of hp (fun {w0 S0 O0 pl0 a w} hok hG N Q hN => ?_) fun hok hn => absurd holds_nil hn⟩
              obtain ⟨capv, hfv, hc⟩ := hgo hok
              obtain ⟨dst, op, ty, pos, af, gd⟩ := o
              simp only at hop
              subst hop
              exact wp_of_calls (run_call hfv hM.go) (R := fun v w' => Ok C w0 S0 O0 pl0 s' (a.put dst v) w') hc fun v w' h => hN _ _ h
            · split at h
              rotate_left
              · cases h
              rename_i l' hl'
              obtain ⟨s', hK, hgo0⟩ := callEff_sound hM (s := ⟨s.env, matsAt (boxesOf (l ++ capAVs caps)) s.tab, []⟩) rfl (by rw [← hf]; rfl) hl' (by rw [← hd]; exact dstOk_mats hpd) h
              have hgo : ∀ {w0 : World} {S0 O0 : Nat → Prop} {pl0 : List Value} {a : Act} {w : World}, Ok C w0 S0 O0 pl0 s a w →
                  ∃ capv, a.eval f = .func (.func fid) #[] capv ∧ Calls P fid (args.map a.eval ++ capv) w fun e w' => ∃ v, e = .returned v ∧ Ok C w0 S0 O0 pl0 s' (a.put o.dst v) w' := fun {w0 S0 O0 pl0 a w} ⟨⟨S, pl, hi⟩, hu⟩ => by
                obtain ⟨pl', hi', _⟩ := matsAt_sound (boxesOf (l ++ capAVs caps)) hi.drop
                exact hgo0 ⟨⟨S, pl', hi'⟩, hu⟩
              refine ⟨s', hK, goes_of hp (fun {w0 S0 O0 pl0 a w} hok hG N Q hN => ?_) fun hok hn => absurd holds_nil hn⟩
              obtain ⟨capv, hfv, hc⟩ := hgo hok
              obtain ⟨dst, op, ty, pos, af, gd⟩ := o
              simp only at hop
              subst hop
              exact wp_of_calls (run_call hfv hM.go) (R := fun v w' => Ok C w0 S0 O0 pl0 s' (a.put dst v) w') hc fun v w' h => hN _ _ h
          · cases h
      · cases h
    · cases h
  · split at h
    · rename_i v hv
      exact ⟨_, h, pure_goes hT hp hd hv fun _ _ => by simp⟩
    · rename_i g v hv
      split at h
      · split at h
        · rename_i hg
          exact ⟨_, h, pure_goes hT hp hd hv fun _ _ => by simp [hg]⟩
        · cases h
      · split at h
        · rename_i c hc
          split at h
          · rename_i hcg
            refine ⟨_, h, pure_goes hT hp hd hv fun hok hG => ?_⟩
            obtain ⟨⟨S, pl, hi⟩, hu⟩ := hok
            have := gcond_holds hi.env hc hu hG
            subst this
            simp only [Bool.not_true, Bool.false_or] at hcg
            simp [hcg]
          · cases h
        · cases h
    · split at h
      · rename_i hpd _
        have ifg_ok : ∀ {g : Option Bool} {s' : St}, ifg g (K s') = some r → g ≠ some false ∧ K s' = some r := fun {g s'} h => by
          unfold ifg at h
          split at h
          · exact ⟨by simp, h⟩
          · rename_i b
            split at h
            · rename_i hb; exact ⟨by simp [hb], h⟩
            · cases h
        split at h
        · rename_i g s' he
          have hg := ifg_ok h
          refine ⟨s', hg.2, goes_of hp (fun {w0 S0 O0 pl0 a w} hok hG N Q hN => ?_) fun hok hn => absurd holds_nil hn⟩
          obtain ⟨⟨S, pl, hi⟩, hu⟩ := hok
          obtain ⟨u, w', hrun, S', pl', hi'⟩ := effOp_sound hT hi hpd he hg.1 hd
          obtain ⟨s1, v, hs', htags, hok1, _⟩ := effOp_tags (C := C) he
          have hu' : UndefR s'.env (a.put o.dst u).tmps := by
            rw [hs']
            have hd1 : dstOk C s1 [] o.dst = true := (hok1 [] o.dst).trans hd
            exact (hu.tags htags).put hd1 hi.size (.inl holds_nil)
          have hN' := hN _ _ ⟨⟨S', pl', hi'⟩, hu'⟩
          unfold Oper.wp
          rcases hrun with hrun | ⟨hrun, rfl⟩
          · rw [hrun, Oper.upon_value]; exact hN'
          · rw [hrun, Oper.upon_skip]; exact hN'
        · split at h
          · rename_i g p hpo
            split at h
            · rename_i hg
              subst hg
              refine ⟨_, h, goes_of hp (fun {w0 S0 O0 pl0 a w} hok hG N Q hN => ?_) fun hok hn => absurd holds_nil hn⟩
              obtain ⟨⟨S, pl, hi⟩, hu⟩ := hok
              obtain ⟨hdst, u, w', hrun, hp', hfr, hS, hpr⟩ := pendOp_sound hT hi.hp hi.env hpo
              obtain ⟨h1, h2, h3⟩ := dstOk_spec (hdst ▸ hd)
              have hlt : p.d < a.tmps.size := by rw [hi.size]; exact h1
              have hi1 : Inv C w0 S0 O0 pl0 s a w' S pl := by
                refine hi.to hp' hfr (fun i b ho => .inl ho) (fun _ h => h) (fun _ _ _ h => h) (hi.env.keep (fun b hb _ => ⟨hb, hS b hb⟩) hi.hp.stable (fun i => Keep.refl _ _ i)) (fun b hb => .inl hb) (hpd := hpd)
              have hi2 := hi1.put (u := u) (v := .dd) hd (.inl trivial)
              obtain ⟨b, _, hb⟩ := hpr w0.heap.size (a.put o.dst u).tmps hi.fr.size (by rw [hdst]; simp [Act.put, hlt])
              have hu' : UndefR (s.put o.dst .dd []).env (a.put o.dst u).tmps := hu.put hd hi.size (.inl holds_nil)
              have hi3 : Inv C w0 S0 O0 pl0 ({ s with pd := [p] }.put o.dst .dd []) (a.put o.dst u) w' S pl := by
                rw [hdst] at hi2 ⊢
                exact ⟨hi2.hp, hi2.fr, hi2.own, hi2.fix, hi2.fresh, hi2.up, hi2.sub, hi2.env, hi2.size, hi2.defers, fun _ => b, fun q hq => by
                  simp only [St.put, List.mem_singleton] at hq; subst hq; have hb' := hb; rw [hdst] at hb'; exact hb', fun q hq q' hq' _ _ _ => by
                  simp only [St.put, List.mem_singleton] at hq hq'; rw [hq, hq']⟩
              have hN' := hN _ _ ⟨⟨S, pl, hi3⟩, by rw [hdst] at hu' ⊢; exact hu'⟩
              unfold Oper.wp
              rw [hrun, Oper.upon_value]
              exact hN'
            · cases h
          · cases h
      · rename_i p hpd _
        split at h
        · rename_i g s' he
          have hg : g ≠ some false ∧ K s' = some r := by
            unfold ifg at h
            split at h
            · exact ⟨by simp, h⟩
            · rename_i b
              split at h
              · rename_i hb; exact ⟨by simp [hb], h⟩
              · cases h
          refine ⟨s', hg.2, goes_of hp (fun {w0 S0 O0 pl0 a w} hok hG N Q hN => ?_) fun hok hn => absurd holds_nil hn⟩
          obtain ⟨⟨S, pl, hi⟩, hu⟩ := hok
          obtain ⟨w', hrun, _, pl', hi'⟩ := storePend_sound hT hi hpd he hg.1 hd
          obtain ⟨s1, hs', htags, hok1⟩ := storePend_tags (C := C) he
          have hu' : UndefR s'.env (a.put o.dst undef).tmps := by
            rw [hs']
            exact (hu.tags htags).put (hok1 _ _ hd) hi.size (.inl holds_nil)
          have hN' := hN _ _ ⟨⟨S, pl', hi'⟩, hu'⟩
          unfold Oper.wp
          rw [hrun, Oper.upon_skip]; exact hN'
        · cases h
      · cases h

/-- The state before as the state behind, in whatever call. -/
def Leads (P : Program) (C : Ctx) (s s' : St) (M : (Exit → Act → World → Prop) → Act → World → Prop) : Prop :=
  ∀ (w0 : World) (S0 O0 : Nat → Prop) (pl0 : List Value) (a : Act) (w : World), Ok C w0 S0 O0 pl0 s a w → ∀ (Q : Exit → Act → World → Prop), (∀ c a w, ¬ Q (.panic c) a w) → (∀ a' w', Ok C w0 S0 O0 pl0 s' a' w' → Q .normal a' w') → M Q a w

theorem runOps_leads {A : Type} (hT : thOk P C = true) (hS : Sigs P C) {ops : Array Oper} {K : St → Option A} {r : A} : ∀ {l : List Oper} {s : St}, runOps C ops l s K = some r →
    ∃ s', K s' = some r ∧ Leads P C s s' fun Q => wpList P ops Q l
  | [], s, h => ⟨s, h, fun w0 S0 O0 pl0 a w hok Q _ hQ => hQ a w hok⟩
  | o :: l, s, h => by
    simp only [runOps] at h
    split at h
    · rename_i G hp
      split at h
      · rename_i hd
        obtain ⟨s1, h1, hgo⟩ := step_goes hT hS hp hd h
        obtain ⟨s', hK, hl⟩ := runOps_leads hT hS h1
        refine ⟨s', hK, fun w0 S0 O0 pl0 a w hok Q hQp hQ => ?_⟩
        have := hgo w0 S0 O0 pl0 a w hok (wpList P ops Q l) Q fun a' w' hok' => hl w0 S0 O0 pl0 a' w' hok' Q hQp hQ
        simp only [wpList]
        split
        · rename_i hb; rw [if_pos hb] at this; exact .inl this
        · rename_i hb; rw [if_neg hb] at this; exact this
      · cases h
    · cases h

theorem look_tidy {t : Nat} : ∀ {env : Env}, look t (env.map tidy) = (look t env).map fun x => match x.2 with | [] => (x.1, []) | _ :: _ => (.dd, [])
  | [] => rfl
  | (u, v, T) :: e => by
    have : tidy (u, v, T) = (u, match T with | [] => (v, []) | _ :: _ => (.dd, [])) := by cases T <;> rfl
    rw [List.map_cons, this, look_cons, look_cons]
    split
    · cases T <;> rfl
    · exact look_tidy

theorem Ok.clean {w0 : World} {S0 O0 : Nat → Prop} {pl0 : List Value} {a : Act} {w : World} (h : Ok C w0 S0 O0 pl0 s a w) : Ok C w0 S0 O0 pl0 (clean s) a w := by
  obtain ⟨⟨S, pl, hi⟩, hu⟩ := h
  refine ⟨⟨S, pl, ⟨hi.hp, hi.fr, hi.own, hi.fix, hi.fresh, hi.up, hi.sub, fun t v T hl hT => ?_, hi.size, hi.defers, hi.pend⟩⟩, fun t v T hl hn => ?_⟩
  · simp only [Lg.clean, look_tidy, Option.map_eq_some_iff] at hl
    obtain ⟨⟨v', T'⟩, h1, h2⟩ := hl
    cases T' with
    | nil =>
      simp only [Prod.mk.injEq] at h2
      obtain ⟨rfl, rfl⟩ := h2
      exact hi.env t v' [] h1 holds_nil
    | cons p q =>
      simp only [Prod.mk.injEq] at h2
      obtain ⟨rfl, rfl⟩ := h2
      by_cases hT' : Holds a.tmps (p :: q)
      · obtain ⟨u, h3, _⟩ := hi.env t v' _ h1 hT'; exact ⟨u, h3, trivial⟩
      · exact ⟨_, hu t v' _ h1 hT', trivial⟩
  · simp only [Lg.clean, look_tidy, Option.map_eq_some_iff] at hl
    obtain ⟨⟨v', T'⟩, h1, h2⟩ := hl
    cases T' <;> (simp only [Prod.mk.injEq] at h2; obtain ⟨rfl, rfl⟩ := h2; exact absurd holds_nil hn)

end
end Go.Lg
