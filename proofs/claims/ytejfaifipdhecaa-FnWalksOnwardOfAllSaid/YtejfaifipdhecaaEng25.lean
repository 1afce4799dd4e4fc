/-
  The interpreter is right about whole bodies.
-/
import Derived.Test.YtejfaifipdhecaaEng24
set_option linter.unusedVariables false
set_option linter.unusedSimpArgs false
namespace Go.Lg
open Go.RowKit

def Post (C : Ctx) (w0 : World) (S0 O0 : Nat → Prop) (pl0 : List Value) {A : Type} (K : Ex → St → Option A) (r : A) : Exit → Act → World → Prop
  | .normal, a, w => ∃ s, Ok C w0 S0 O0 pl0 s a w ∧ K .normal s = some r
  | .exit id, a, w => ∃ s, Ok C w0 S0 O0 pl0 s a w ∧ K (.exit id) s = some r
  | .ret, a, w => ∃ s, Ok C w0 S0 O0 pl0 s a w ∧ K .ret s = some r
  | _, _, _ => False

theorem exists_least {p : Nat → Prop} (h : ∃ n, p n) : ∃ n, p n ∧ ∀ m, p m → n ≤ m := by
  obtain ⟨n, hn⟩ := h
  induction n using Nat.strongRecOn with
  | _ n ih =>
    by_cases hm : ∃ m, m < n ∧ p m
    · obtain ⟨m, h1, h2⟩ := hm
      exact ih m h1 h2
    · exact ⟨n, hn, fun m hp => Nat.not_lt.1 fun hlt => hm ⟨m, hlt, hp⟩⟩

section
variable {P : Program} {C : Ctx} {w0 : World} {S0 O0 : Nat → Prop} {pl0 : List Value}

theorem run_sound (hT : thOk P C = true) (hS : Sigs P C) (hm : P.follows .mixedOrders = true) (hfx : ∀ i ∈ C.fx, i < C.m) {A : Type} {r : A} : ∀ (c : Code), drawsOk C c = true → ∀ {s : St} {K : Ex → St → Option A}, run C c s K = some r →
    ∀ {a : Act} {w : World}, Ok C w0 S0 O0 pl0 s a w → c.wp P (Post C w0 S0 O0 pl0 K r) a w := by
  intro c
  induction c with
  | skip => exact fun _ {s K} h {a w} hok => wp_skip ⟨s, hok, h⟩
  | exit id => exact fun _ {s K} h {a w} hok => wp_exit ⟨s, hok, h⟩
  | ret => exact fun _ {s K} h {a w} hok => wp_ret ⟨s, hok, h⟩
  | seq x y ihx ihy =>
    intro hd s K h a w hok
    simp only [drawsOk, Bool.and_eq_true] at hd
    simp only [run] at h
    refine wp_seq (wp_mono (ihx hd.1 h hok) fun e a w hp => ?_)
    cases e with
    | normal => obtain ⟨s', h1, h2⟩ := hp; exact ihy hd.2 h2 h1
    | exit id => exact hp
    | ret => exact hp
    | _ => exact hp
  | cond c x y ihx ihy =>
    intro hd s K h a w hok
    simp only [drawsOk, Bool.and_eq_true] at hd
    simp only [run] at h
    split at h
    · rename_i b hb
      obtain ⟨⟨S, pl, hi⟩, hu⟩ := hok
      have hev := boolOf_sound hi.env holds_nil hb
      refine wp_cond hev ?_
      cases b with
      | true => exact ihx hd.1 (by simpa using h) ⟨⟨S, pl, hi⟩, hu⟩
      | false => exact ihy hd.2 (by simpa using h) ⟨⟨S, pl, hi⟩, hu⟩
    · split at h
      · rename_i e he
        obtain ⟨⟨S, pl, hi⟩, hu⟩ := hok
        obtain ⟨b, hev, hbe⟩ := ubOf_sound he hi.env holds_nil
        refine wp_cond hev ?_
        cases e with
        | true =>
          simp only [if_true] at h
          unfold both at h
          split at h
          · rename_i heq
            cases b with
            | true => exact ihx hd.1 h ⟨⟨S, pl, hi⟩, hu⟩
            | false => exact ihy hd.2 (heq ▸ h) ⟨⟨S, pl, hi⟩, hu⟩
          · cases h
        | false =>
          cases b with
          | true => exact absurd (hbe rfl) (by decide)
          | false => exact ihy hd.2 (by simpa using h) ⟨⟨S, pl, hi⟩, hu⟩
      · cases h
  | block id b ih =>
    intro hd s K h a w hok
    simp only [drawsOk] at hd
    simp only [run] at h
    refine wp_block (wp_mono (ih hd h hok) fun e a w hp => ?_)
    cases e with
    | normal => exact hp
    | exit i =>
      obtain ⟨s', h1, h2⟩ := hp
      simp only [Exit.inBlock]
      simp only [kBlock] at h2
      split
      · rename_i e
        subst e
        simp only [Nat.beq_refl] at h2
        exact ⟨s', h1, h2⟩
      · rename_i e
        have hb : Nat.beq i id = false := by
          cases hb : Nat.beq i id with
          | false => rfl
          | true => exact absurd (Nat.eq_of_beq_eq_true hb) e
        rw [hb] at h2
        exact ⟨s', h1, h2⟩
    | ret => exact hp
    | _ => exact hp
  | loop b ih =>
    classical
    intro hd s K h a w hok
    simp only [drawsOk] at hd
    simp only [run] at h
    split at h
    · rename_i L hL
      split at h
      · rename_i s1 hs1
        have hok1 := norm_sound hfx hs1 hok
        let p : Act → World → Nat → Prop := fun a w n => ∃ s, Ok C w0 S0 O0 pl0 s a w ∧ iter n (loopF (run C b) C.m L K) s = some r
        let μ : Act → World → Nat := fun a w => if h : ∃ n, p a w n then (exists_least h).choose else 0
        have hμ : ∀ {a w n}, p a w n → μ a w ≤ n ∧ p a w (μ a w) := fun {a w n} hp => by
          have hex : ∃ n, p a w n := ⟨n, hp⟩
          have := (exists_least hex).choose_spec
          simp only [μ, dif_pos hex]
          exact ⟨this.2 n hp, this.1⟩
        refine wp_loop (fun a w => ∃ n, p a w n) μ ⟨C.k, s1, hok1, h⟩ fun a w ⟨n, hp⟩ => ?_
        obtain ⟨_, s2, hok2, hit⟩ := hμ hp
        generalize hn : μ a w = n' at hit
        cases n' with
        | zero => simp [iter] at hit
        | succ n' =>
          simp only [iter, loopF] at hit
          refine wp_mono (ih hd hit hok2) fun e a' w' hp' => ?_
          cases e with
          | normal =>
            obtain ⟨s3, h1, h2⟩ := hp'
            simp only [kLoop] at h2
            split at h2
            · rename_i s4 hs4
              have hp4 : p a' w' n' := ⟨s4, norm_sound hfx hs4 h1, h2⟩
              exact ⟨⟨n', hp4⟩, by have := (hμ hp4).1; omega⟩
            · cases h2
          | exit id => exact hp'
          | ret => exact hp'
          | _ => exact hp'
      · cases h
    · cases h
  | region id ops draw =>
    intro hd s K h a w hok
    simp only [run] at h
    cases draw with
    | false =>
      simp only at h
      obtain ⟨s', hK, hl⟩ := runOps_leads hT hS h
      exact wp_region_list (hl w0 S0 O0 pl0 a w hok _ (fun c a w k => k) fun a' w' h' => ⟨clean s', h'.clean, hK⟩)
    | true =>
      simp only at h
      split at h
      · rename_i n hn
        simp only [drawsOk, hn] at hd
        split at h
        · cases h
        rename_i hpd
        simp only [Bool.and_eq_true] at hd
        cases hd2 : has id C.d2 with
        | false =>
          simp only [hd2, Bool.or_eq_true] at h hd
          obtain ⟨s', hK, hl⟩ := region_leads (id := id) (K := fun s'' => K .normal (clean s'')) hT hS hm hd.1 (hd.2.imp (fun h => Nat.le_of_ble_eq_true h) (fun h => h)) hpd h
          exact hl w0 S0 O0 pl0 a w hok _ (fun c a w k => k) fun a' w' h' => ⟨clean s', h'.clean, hK⟩
        | true =>
          simp only [hd2] at h hd
          obtain ⟨s', hK, hl⟩ := region_leads2 (id := id) (K := fun s'' => K .normal (clean s'')) hT hS hm hd.1 hd.2 hpd h
          exact hl w0 S0 O0 pl0 a w hok _ (fun c a w k => k) fun a' w' h' => ⟨clean s', h'.clean, hK⟩
      · cases h
  | _ => intro _ s K h; simp [run] at h

/-! ### the results -/

theorem resAVs_sound (hT : thOk P C = true) {s : St} {a : Act} {w : World} {S : Nat → Prop} {pl : List Value} (hi : Inv C w0 S0 O0 pl0 s a w S pl) {g : ResultVar → Sem Value} (hg1 : ∀ t, g (.tmp t) = Pure.pure (a.tmps.getD t undef)) (hg2 : ∀ c t, g (.cell c t) = (do loadVar t (← asAddr (a.tmps.getD c undef)))) : ∀ {rs : List ResultVar} {l : List AV}, resAVs C s rs = some l →
    ∃ css : List (List Value), css.length = l.length ∧ (∀ (i : Nat) (av : AV) (cs : List Value), l[i]? = some av → css[i]? = some cs → av.R w S s.tab pl cs) ∧
      (rs.mapM g).run P w = .ok ((l.zip css).map fun p => pack p.1.isAgg p.2) w
  | [], l, h => by simp only [resAVs, Option.some.injEq] at h; subst h; exact ⟨[], rfl, fun i av cs h => by simp at h, by simp⟩
  | .tmp t :: r, l, h => by
    simp only [resAVs] at h
    split at h
    · rename_i av l' hav hl'
      obtain rfl := Option.some.inj h
      obtain ⟨css, h1, h2, h3⟩ := resAVs_sound hT hi hg1 hg2 hl'
      obtain ⟨cs, h4, h5⟩ := av_sound hi.env holds_nil hav
      refine ⟨cs :: css, by simp [h1], fun i av' cs' hi' hi2 => ?_, ?_⟩
      · cases i with
        | zero => simp only [List.getElem?_cons_zero, Option.some.injEq] at hi' hi2; subst hi' hi2; exact h4
        | succ i => exact h2 i av' cs' (by simpa using hi') (by simpa using hi2)
      · simp only [Act.eval] at h5
        simp only [List.mapM_cons, hg1, Sem.run_bind, Sem.run_pure, Result.andThen_ok, h3, List.zip_cons_cons, List.map_cons, h5]
    · cases h
  | .cell c t :: r, l, h => by
    simp only [resAVs] at h
    split at h
    · rename_i i _ e l' hav hfe hl'
      split at h
      · rename_i av htab
        split at h
        · rename_i hfit
          obtain rfl := Option.some.inj h
          obtain ⟨css, h1, h2, h3⟩ := resAVs_sound hT hi hg1 hg2 hl'
          obtain ⟨cs, h4, h5⟩ := av_sound hi.env holds_nil hav
          simp only [AV.R] at h4
          obtain ⟨c', b, g1, g2, rfl⟩ := h4
          rw [htab] at g1
          obtain rfl := Ent.box.inj (Option.some.inj g1)
          obtain ⟨b2, cs2, eid, k1, k2, k3⟩ := hi.hp.ent i _ _ htab g2
          simp only [Value.pointer.injEq, Option.some.injEq, Addr.mk.injEq, and_true] at k1
          subst k1
          obtain ⟨d, ti, hti⟩ := thOk_find hT hfe
          obtain ⟨f1, f2⟩ := AV.fits_agg hfit
          have hld := run_loadVar hti (b := b) (o := 0) (cs := cs2) (by rw [k3.length, f2]) (Cells.of_block k2)
          refine ⟨cs2 :: css, by simp [h1], fun i av' cs' hi' hi2 => ?_, ?_⟩
          · cases i with
            | zero => simp only [List.getElem?_cons_zero, Option.some.injEq] at hi' hi2; subst hi' hi2; exact k3
            | succ i => exact h2 i av' cs' (by simpa using hi') (by simpa using hi2)
          · simp only [Act.eval, AV.isAgg, pack, Bool.false_eq_true, if_false, List.headD_cons] at h5
            simp only [List.mapM_cons, hg2, h5, asAddr, Sem.run_bind, Sem.run_pure, Result.andThen_ok, hld, h3, List.zip_cons_cons, List.map_cons, f1]
        · cases h
      · cases h
    · cases h

end
end Go.Lg
