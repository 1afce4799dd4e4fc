/-
  Regions that draw their order, the second part: what an operation of the head does, whenever it comes up.
-/
import Derived.Test.YtejfaifipdhecaaEng19
set_option linter.unusedVariables false
set_option linter.unusedSimpArgs false
namespace Go.Lg
open Go.RowKit

/-- An operation that leaves the table alone, said without the rest of the state. -/
def Frees (P : Program) (tab : List Ent) (env : Env) (o : Oper) (G : PC) (v : SV) : Prop :=
  ∀ {w : World} {S : Nat → Prop} {pl : List Value} {a : Act}, Hp w S tab pl → EnvR w S tab pl env a.tmps → UndefR env a.tmps → Holds a.tmps G →
    (∃ u w', (execOp a.eval o).run P w = .ok (.value u) w' ∧ ∃ S' : Nat → Prop, Fr w (fun _ => False) w' ∧ (∀ b, S b → S' b) ∧ (∀ b, S' b → S b ∨ w.heap.size ≤ b) ∧ (∀ b, S' b → b < w'.heap.size) ∧ v.R w' S' tab pl u) ∨
    ∃ fid vs, (execOp a.eval o).run P w = .ok (.enter fid vs) w ∧ Calls P fid vs w fun e w' => ∃ u, e = .returned u ∧ ∃ S' : Nat → Prop, Fr w (fun _ => False) w' ∧ (∀ b, S b → S' b) ∧ (∀ b, S' b → S b ∨ w.heap.size ≤ b) ∧ (∀ b, S' b → b < w'.heap.size) ∧ v.R w' S' tab pl u

theorem resSV_flat {w : World} {S S' : Nat → Prop} {tab : List Ent} {pl : List Value} {s : Sh} (hf : s.flat = true) {many : Bool} {x : s.T} {n : Nat} {v : Value} (h : (resSV many (s.enc x n).1).R w S tab pl v) : (resSV many (s.enc x n).1).R w S' tab pl v := by
  cases many with
  | false => obtain ⟨cs, g1, g2⟩ := h; exact ⟨cs, (enc_flat hf).1 g1, g2⟩
  | true =>
    obtain ⟨us, g1, g2, g3⟩ := h
    refine ⟨us, g1, g2, fun i a' v' hi' hv' => ?_⟩
    obtain ⟨cs, q1, q2⟩ := g3 i a' v' hi' hv'
    have : ∀ (s : Sh), s.flat = true → ∀ (y : s.T) (n i : Nat) (a' : AV), (s.enc y n).1.list[i]? = some a' → ∃ (t : Sh) (z : t.T) (m : Nat), t.flat = true ∧ a' = (t.enc z m).1 := by
      intro s
      induction s with
      | pr p q ihp ihq =>
        intro hf y n i a' h
        simp only [Sh.flat, Bool.and_eq_true] at hf
        cases i with
        | zero => simp only [Sh.enc, AV.list, List.getElem?_cons_zero, Option.some.injEq] at h; exact ⟨p, y.1, n, hf.1, h.symm⟩
        | succ i => simp only [Sh.enc, AV.list, List.getElem?_cons_succ] at h; exact ihq hf.2 y.2 _ i a' h
      | _ => intro hf y n i a' h; simp [Sh.enc, AV.list] at h
    obtain ⟨t, z, m, hft, rfl⟩ := this s hf x n i a' hi'
    exact ⟨cs, (enc_flat hft).1 q1, q2⟩

section
variable {P : Program} {C : Ctx} {s : St}

theorem free_call {fid : FuncId} {many : Bool} {ins res : Sh} {f : ins.T → Option res.T} (hM : Meets P fid ⟨ins, res, many, .inl f⟩) {G : PC} {o : Oper} {fo : Operand} {args : Array Operand} {tys : Array TypeId} (hop : o.op = .call ⟨.value fo, args, tys⟩)
    {caps : List (Nat × Ty)} {l : List AV} (hf : s.av G fo = some (.fn fid caps)) (hl : avs C s G args.toList tys.toList = some l) (hva : res.vable = true) {x : ins.T} {lents : List Nat} (hdec : ins.dec s.tab (prs (l ++ capAVs caps)) = some (x, [], lents))
    (hfl : res.flat = true ∨ lents = []) {y : res.T} (hy : ∀ {w : World} {S : Nat → Prop} {pl : List Value} {a : Act}, EnvR w S s.tab pl s.env a.tmps → UndefR s.env a.tmps → Holds a.tmps G → f x = some y) :
    Frees P s.tab s.env o G (resSV many (res.encV y)) := by
  intro w S pl a hp he hu hG
  right
  obtain ⟨capv, h1, hc⟩ := call_does hp he hG hf hl hM.chain hdec rfl (by simp [apart, has]) (hM.does x y (hy he hu hG))
  obtain ⟨dst, op, ty, pos, af, gd⟩ := o
  simp only at hop
  subst hop
  refine ⟨fid, _, run_call h1 hM.go, hc.mono fun e w' ⟨v, hev, hb⟩ => ⟨v, hev, ?_⟩⟩
  obtain ⟨S'', k1, k2, k3, k4, k5⟩ := back_frozen (S := S) hM.pure hva hb (hfl.imp id fun h b hb => hb.elim id fun ⟨i, hi, _⟩ => by subst h; simp at hi) (fun b hb => .inl hb) hp.stable
  exact ⟨S'', k1, k2, k3, k4, k5 _ _⟩

/-- A literal slice that nobody changes. -/
theorem free_build (hT : thOk P C = true) {t eid : TypeId} {e : Ty} (hf : find t C.th = some (.sl e)) (hs : find t C.se = some eid) {n : Nat} {parts : Array (Nat × Operand)} {ys : List e.T} (hv : s.vals [] e parts.toList 0 = some (ys, [])) (hn : parts.toList.length = n) (hn2 : n * e.size < 1000)
    {o : Oper} (hop : o.op = .buildSlice t n parts) {G : PC} : Frees P s.tab s.env o G (.one (.val (.sl e) ys)) := by
  intro w S pl a hp he hu hG
  subst hn
  obtain ⟨hsz, hlen, css, hrun, hel⟩ := buildSlice_run hT hp he hf hs hv hn2
  have hel' : Elems w S e css ys := hel.step (fun b hb _ => ⟨hb.elim id fun ⟨j, hj, _⟩ => by simp at hj, rfl⟩) (fun b hb => hb.elim (hp.stable b) fun ⟨j, _, ho⟩ => hp.lt ho)
  have hall : ∀ b, b < w.heap.size → (w.alloc (.cells css.flatten.toArray eid)).heap[b]? = w.heap[b]? := fun b hb' => Below.heap_alloc _ _ _ hb'
  obtain ⟨dst, op, ty, pos, af, gd⟩ := o
  subst hop
  refine .inl ⟨.slice (some ⟨w.heap.size, 0, none⟩) parts.toList.length parts.toList.length, w.alloc (.cells css.flatten.toArray eid), ?_, fun b => S b ∨ b = w.heap.size, Fr.alloc w _ _, fun b hb => .inl hb, fun b hb => hb.imp id (fun h => Nat.le_of_eq h.symm), fun b hb => hb.elim (fun h => Nat.lt_of_lt_of_le (hp.stable b h) (Fr.alloc w (fun _ => False) (.cells css.flatten.toArray eid)).size) (fun h => by subst h; simp), ?_⟩
  · have : (parts.toList.map fun p => (p.1, a.eval p.2)).toArray = parts.map fun p => (p.1, a.eval p.2) := by
      apply Array.toList_inj.1; simp
    rw [this] at hrun
    have hrun' : (Instr.buildSlice t parts.toList.length (parts.map fun x => match x with | (i, v) => (i, a.eval v))).run P w = .ok (.slice (some ⟨w.heap.size, 0, none⟩) parts.toList.length parts.toList.length) (w.alloc (.cells css.flatten.toArray eid)) := hrun
    show (do pure (Next.value (← Instr.buildSlice t parts.toList.length (parts.map fun x => match x with | (i, v) => (i, a.eval v)))) : Sem Next).run P w = _
    rw [Sem.run_bind, hrun']
    simp only [Result.andThen_ok, Sem.run_pure]
  · refine ⟨[_], ⟨_, _, _, rfl, hlen.symm, Nat.le_refl _, .inr ⟨w.heap.size, 0, rfl, .inr rfl, fun i x hx => ?_⟩⟩, rfl⟩
    have hlt : i < css.length := by rw [hel'.1]; exact (List.getElem?_eq_some_iff.1 hx).1
    refine ⟨css[i], ?_, ?_⟩
    · intro q v hq
      have := flatten_at hel'.lens (List.getElem?_eq_getElem hlt) hq
      simp only [World.cell?, _root_.Go.heap_alloc_new, Option.isSome_none, Bool.false_eq_true, if_false, Nat.zero_add]
      simpa using this
    · exact (hel'.2 i css[i] x (List.getElem?_eq_getElem hlt) hx).step (fun b hb _ => ⟨.inl hb, hall b (hp.stable b hb)⟩) hp.stable

theorem free_sem {A : Type} (hT : thOk P C = true) (hS : Sigs P C) {o : Oper} {G : PC} (hfree : freeOp C s G o = true) {K : St → Option A} {r : A} (h : step C s G o K = some r) : ∃ v, K (s.put o.dst v G) = some r ∧ Frees P s.tab s.env o G v := by
  have hpureop : ∀ {g : Option Bool} {v : SV}, pureOp C s G o = some (g, v) → (∀ {w : World} {S : Nat → Prop} {pl : List Value} {a : Act}, EnvR w S s.tab pl s.env a.tmps → UndefR s.env a.tmps → Holds a.tmps G → g ≠ some false) → Frees P s.tab s.env o G v :=
    fun {g v} hv hg {w S pl a} hp he hu hG => by
      obtain ⟨u, h1, h2⟩ := pureOp_sound hT hp he hG hv (hg he hu hG)
      exact .inl ⟨u, w, h1, S, Fr.refl w _, fun _ h => h, fun _ h => .inl h, hp.stable, h2⟩
  unfold step at h
  unfold freeOp at hfree
  split at h
  · rename_i f args tys hop
    simp only [hop] at hfree
    split at h
    · rename_i fid caps l hf hl hpd
      simp only [hf, hl] at hfree
      split at h
      · rename_i sp hsp
        simp only [hsp, Bool.and_eq_true, Bool.or_eq_true] at hfree
        obtain ⟨ins, res, many, fn⟩ := sp
        have hM := hS fid _ hsp
        cases fn with
        | inr fn => simp at hfree
        | inl fn =>
          obtain ⟨⟨hrp, _⟩, hfl⟩ := hfree
          simp only at h hrp hfl
          have hva : res.vable = true := by
            rcases hrp with hrp | hrp
            · exact vable_of_pure hrp
            · split at hrp
              · simp only [keeps, Bool.not_eq_true', Bool.or_eq_false_iff, Bool.not_eq_false'] at hrp
                exact hrp.1.2
              · cases hrp
          unfold callPure at h
          split at h
          · rename_i x lents hdec
            rw [hdec] at hfl
            have hfl' : res.flat = true ∨ lents = [] := hfl.imp id fun h => by cases lents with | nil => rfl | cons a b => simp at h
            split at h
            · cases h
            · rename_i s1 hs1
              have hss : s1 = s := by
                rcases hfl' with hh | hh
                · rw [hh] at hs1; exact (Option.some.inj hs1).symm
                · subst hh
                  split at hs1
                  · exact (Option.some.inj hs1).symm
                  · exact (Option.some.inj hs1).symm
              subst hss
              split at h
              · split at h
                · rename_i hkp
                  obtain ⟨y, hy, hK⟩ := Option.bind_eq_some_iff.1 h
                  have hrp' : res.pure = true := hrp.elim id fun h => by simp only [hkp, Bool.not_true, Bool.false_eq_true] at h
                  refine ⟨_, ?_, free_call hM hop hf hl hva hdec hfl' (fun _ _ _ => hy)⟩
                  rw [enc_pure hrp', List.append_nil, encV_pure hrp'] at hK
                  exact hK
                · obtain ⟨y, hy, hK⟩ := Option.bind_eq_some_iff.1 h
                  exact ⟨_, hK, free_call hM hop hf hl hva hdec hfl' (fun _ _ _ => hy)⟩
              · rename_i hne
                split at h
                · rename_i g hg hrp' hrf
                  obtain ⟨y, hy, hK⟩ := Option.bind_eq_some_iff.1 h
                  rw [encV_pure hrp'] at hK
                  exact ⟨_, hK, free_call hM hop hf hl hva hdec hfl' (fun he hu hG => by rw [if_pos (gcond_holds he hg hu hG)] at hy; exact hy)⟩
                · cases h
          · cases h
      · cases h
    · cases h
  · split at h
    · rename_i v hv
      exact ⟨_, h, hpureop hv fun _ _ _ => by simp⟩
    · rename_i g v hv
      split at h
      · split at h
        · rename_i hg
          exact ⟨_, h, hpureop hv fun _ _ _ => by simp [hg]⟩
        · cases h
      · split at h
        · rename_i c hc
          split at h
          · rename_i hcg
            refine ⟨_, h, hpureop hv fun he hu hG => ?_⟩
            have := gcond_holds he hc hu hG
            subst this
            simp only [Bool.not_true, Bool.false_or] at hcg
            simp [hcg]
          · cases h
        · cases h
    · rename_i hno
      have hfb : freeBuild C s G o = true := by
        split at hfree
        · rename_i hop
          simp_all
        · rw [hno] at hfree; exact hfree
      unfold freeBuild at hfb
      split at hfb
      · rename_i t n parts d hop hdst
        split at hfb
        · rename_i e hf
          split at hfb
          · rename_i ys hv
            simp only [Bool.not_eq_true'] at hfb
            have heff : ∀ (g : Option Bool) (s' : St), effOp C s o = some (g, s') → g = none ∧ s' = s.put o.dst (.one (.val (.sl e) ys)) [] ∧ ∃ eid, find t C.se = some eid ∧ parts.toList.length = n ∧ n * e.size < 1000 := fun g s' h => by
              simp only [effOp, hop, hdst] at h
              unfold opBuildSlice at h
              split at h
              · rename_i e2 eid d2 hf2 hs2 hd2
                rw [hf] at hf2
                cases hf2
                cases hd2
                rw [hv] at h
                simp only at h
                split at h
                · rename_i s1 hn1 hs1
                  simp only [Bool.and_eq_true] at hn1
                  cases hs1
                  rw [hfb] at h
                  simp only [Option.some.injEq, Prod.mk.injEq] at h
                  refine ⟨h.1.symm, ?_, eid, hs2, Nat.eq_of_beq_eq_true hn1.1, by rw [← Nat.blt_eq]; exact hn1.2⟩
                  rw [hdst]; exact h.2.symm
                · cases h
              · cases h
            split at h
            · split at h
              · rename_i g s' he
                obtain ⟨rfl, rfl, eid, h1, h2, h3⟩ := heff g s' he
                exact ⟨_, h, free_build hT hf h1 hv h2 h3 hop⟩
              · rename_i he
                exfalso
                split at h
                · rename_i hpo
                  simp [pendOp, hop] at hpo
                · cases h
            · rename_i hsp
              split at h
              · rename_i hst
                simp [storePend, hop] at hst
              · cases h
            · cases h
          · cases hfb
        · cases hfb
      · cases hfb

end
end Go.Lg
