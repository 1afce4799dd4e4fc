/-
  One operation: a call, an operation under a path condition, an operation that changes the table.
-/
import Derived.Test.YtejfaifipdhecaaEng16
set_option linter.unusedVariables false
set_option linter.unusedSimpArgs false
namespace Go.Lg
open Go.RowKit

theorem AV.subL_nil : ∀ (a : AV), a.subL [] = a
  | .pr a b => by simp [AV.subL, AV.subL_nil a, AV.subL_nil b]
  | .own _ | .ela _ _ _ | .xr _ _ | .val _ _ | .nsl _ _ | .npt | .bx _ _ _ | .fn _ _ | .un | .dd | .ub _ => by simp [AV.subL, has]
theorem SV.subL_nil (v : SV) : v.subL [] = v := by
  cases v with
  | one a => simp [SV.subL, AV.subL_nil]
  | tup l => simp only [SV.subL, SV.tup.injEq]; exact (List.map_congr_left fun a _ => AV.subL_nil a).trans (List.map_id' l)
  | dd => rfl
theorem Ent.subL_nil (e : Ent) : e.subL [] = e := by cases e <;> simp [Ent.subL, AV.subL_nil]
theorem St.subL_nil (s : St) : s.subL [] = s := by
  obtain ⟨env, tab, pd⟩ := s
  simp only [St.subL, St.mk.injEq, and_true]
  refine ⟨?_, ?_⟩
  · conv => rhs; rw [← List.map_id env]
    exact List.map_congr_left fun p _ => by simp [SV.subL_nil]
  · conv => rhs; rw [← List.map_id tab]
    exact List.map_congr_left fun e _ => by simp [Ent.subL_nil]

theorem flatO_of_pure : ∀ {s : Sh}, s.pure = true → s.flatO = true
  | .val _, _ => rfl
  | .ref _, _ => rfl
  | .un, _ => rfl
  | .pr a b, h => by
    simp only [Sh.pure, Bool.and_eq_true] at h
    simp [Sh.flatO, flatO_of_pure h.1, flatO_of_pure h.2]
  | .own _ _, h => by simp [Sh.pure] at h
  | .box _, h => by simp [Sh.pure] at h

theorem enc_pure {s : Sh} (h : s.pure = true) (x : s.T) (n : Nat) : (s.enc x n).2 = [] := by
  have := Sh.enc_length s x n
  rw [Sh.pure_n h] at this
  exact List.eq_nil_of_length_eq_zero this

section
variable {P : Program} {C : Ctx} {w0 : World} {S0 O0 : Nat → Prop} {pl0 : List Value} {s : St} {a : Act} {w : World} {S : Nat → Prop} {pl : List Value}

theorem run_call {dst : Option Tmp} {ty : TypeId} {pos : String} {af : Array Edge} {gd : Option (Nat × Bool)} {f : Operand} {args : Array Operand} {tys : Array TypeId} {fid : FuncId} {capv : Array Value}
    (hf : a.eval f = .func (.func fid) #[] capv) (hgo : ∀ args w, (callFunc fid args).run P w = .ok (.enter fid args) w) :
    (execOp a.eval ⟨dst, .call ⟨.value f, args, tys⟩, ty, pos, af, gd⟩).run P w = .ok (.enter fid (args.map a.eval ++ capv)) w := by
  simp only [execOp, resolve, hf, Deferred.ofValue, Sem.run_bind, Sem.run_pure, Result.andThen_ok, invoke, hgo, Array.empty_append]

theorem avs_sound (he : EnvR w S s.tab pl s.env a.tmps) {G : PC} (hG : Holds a.tmps G) : ∀ {xs : List Operand} {ts : List TypeId} {l : List AV}, avs C s G xs ts = some l →
    ∃ css : List (List Value), css.length = l.length ∧ (∀ (i : Nat) (av : AV) (cs : List Value), l[i]? = some av → css[i]? = some cs → av.R w S s.tab pl cs) ∧ xs.map a.eval = (l.zip css).map fun p => pack p.1.isAgg p.2
  | [], _, l, h => by simp only [avs, Option.some.injEq] at h; subst h; exact ⟨[], rfl, fun i av cs h => by simp at h, rfl⟩
  | x :: r, [], l, h => by simp [avs] at h
  | x :: r, t :: ts, l, h => by
    simp only [avs] at h
    split at h
    · rename_i b l' hb hl
      obtain rfl := Option.some.inj h
      obtain ⟨cs, h1, h2⟩ := avT_sound he hG hb
      obtain ⟨css, g1, g2, g3⟩ := avs_sound he hG hl
      refine ⟨cs :: css, by simp [g1], fun i av cs' hi hi' => ?_, by simp [h2, g3]⟩
      cases i with
      | zero => simp only [List.getElem?_cons_zero, Option.some.injEq] at hi hi'; subst hi hi'; exact h1
      | succ i => exact g2 i av cs' (by simpa using hi) (by simpa using hi')
    · cases h

theorem capAVs_get : ∀ {caps : List (Nat × Ty)} {k : Nat}, (capAVs caps)[k]? = (caps[k]?).map fun p => AV.bx p.1 0 p.2
  | [], k => by simp [capAVs]
  | (i, t) :: r, 0 => by simp [capAVs]
  | (i, t) :: r, k + 1 => by simp [capAVs, capAVs_get]

/-- All that a callee is handed: the arguments, and what the closure caught. -/
theorem allArgs_sound (hp : Hp w S s.tab pl) (he : EnvR w S s.tab pl s.env a.tmps) {G : PC} (hG : Holds a.tmps G) {f : Operand} {fid : FuncId} {caps : List (Nat × Ty)} {xs : Array Operand} {ts : List TypeId} {l : List AV} (hf : s.av G f = some (.fn fid caps)) (hl : avs C s G xs.toList ts = some l) :
    ∃ capv, a.eval f = .func (.func fid) #[] capv ∧ ∃ css : List (List Value), css.length = (l ++ capAVs caps).length ∧ (∀ (i : Nat) (av : AV) (cs : List Value), (l ++ capAVs caps)[i]? = some av → css[i]? = some cs → av.R w S s.tab pl cs) ∧
      (xs.map a.eval ++ capv).toList = ((l ++ capAVs caps).zip css).map fun p => pack p.1.isAgg p.2 := by
  obtain ⟨cf, h1, h2⟩ := av_sound he hG hf
  simp only [AV.R] at h1
  obtain ⟨vs, rfl, hlen, hv⟩ := h1
  obtain ⟨css, g1, g2, g3⟩ := avs_sound (C := C) he hG hl
  have hcl : (capAVs caps).length = caps.length := by
    clear hf hv hlen h2
    induction caps with
    | nil => rfl
    | cons p r ih => obtain ⟨i, t⟩ := p; simp [capAVs, ih]
  refine ⟨vs.toArray, by rw [h2]; rfl, css ++ vs.map (fun v => [v]), by simp [g1, hlen, hcl], fun i av cs hi1 hi2 => ?_, ?_⟩
  · by_cases hlt : i < l.length
    · rw [List.getElem?_append_left hlt] at hi1
      rw [List.getElem?_append_left (by omega)] at hi2
      exact g2 i av cs hi1 hi2
    · rw [List.getElem?_append_right (by omega), capAVs_get] at hi1
      rw [List.getElem?_append_right (by omega), g1] at hi2
      obtain ⟨⟨j, t⟩, hj, rfl⟩ := Option.map_eq_some_iff.1 hi1
      simp only [List.getElem?_map, Option.map_eq_some_iff] at hi2
      obtain ⟨v, hv', rfl⟩ := hi2
      obtain ⟨c, b, k1, k2, k3⟩ := hv _ j t hj
      rw [k3] at hv'
      obtain rfl := Option.some.inj hv'
      exact ⟨c, b, k1, k2, rfl⟩
  · have hz : (l ++ capAVs caps).zip (css ++ vs.map (fun v => [v])) = l.zip css ++ (capAVs caps).zip (vs.map fun v => [v]) := List.zip_append g1.symm
    rw [hz]
    simp only [Array.toList_append, Array.toList_map, g3, List.map_append]
    congr 1
    clear hf hv h2 hz hcl
    show vs = _
    induction caps generalizing vs with
    | nil => cases vs with | nil => rfl | cons _ _ => simp at hlen
    | cons p r ih =>
      obtain ⟨i, t⟩ := p
      cases vs with
      | nil => simp at hlen
      | cons v vs => simp only [capAVs, List.map_cons, List.zip_cons_cons, List.map_cons, List.cons.injEq]; exact ⟨rfl, ih vs (by simpa using hlen)⟩

/-- The call itself. -/
theorem call_does (hp : Hp w S s.tab pl) (he : EnvR w S s.tab pl s.env a.tmps) {G : PC} (hG : Holds a.tmps G) {f : Operand} {fid : FuncId} {caps : List (Nat × Ty)} {xs : Array Operand} {ts : List TypeId} {l : List AV} (hf : s.av G f = some (.fn fid caps)) (hl : avs C s G xs.toList ts = some l)
    {ins res : Sh} {many : Bool} {x x' : ins.T} {r : res.T} (hc : ins.chain = true) {idx lents : List Nat} (hd : ins.dec s.tab (prs (l ++ capAVs caps)) = some (x, idx, lents)) (hn : nodup idx = true) (hap : apart lents idx = true) (hdo : Does P fid ins res many x r x') :
    ∃ capv, a.eval f = .func (.func fid) #[] capv ∧ Calls P fid (xs.map a.eval ++ capv) w fun e w' => ∃ v, e = .returned v ∧ Back ins res many x r x' w (fun b => S b ∨ Lent s.tab pl lents b) (handed pl idx) v w' := by
  obtain ⟨capv, h1, css, h2, h3, h4⟩ := allArgs_sound hp he hG hf hl
  have hap' : ∀ i ∈ lents, i ∉ idx := fun i hil => has_false (by simp only [apart, List.all_eq_true, Bool.not_eq_true'] at hap; exact hap i hil)
  obtain ⟨hhp, _, _⟩ := hand_hp hp hd hn hap'
  have hdec := (dec_sound (tc := (ins.enc x 0).2) (plc := handed pl idx) hp hd (n := 0)).2.1
  have hargs := args_sound hp hc hd (At.mk hp hdec) h2 h3
  refine ⟨capv, h1, ?_⟩
  have := hdo w _ _ _ hhp hargs
  rw [← h4] at this
  exact this

theorem dstOk_tab {tab : List Ent} {G : PC} {d : Option Tmp} : dstOk C { s with tab := tab } G d = dstOk C s G d := by cases d <;> rfl

/-- What a function does, said of the whole of its specification. -/
def Sigs (P : Program) (C : Ctx) : Prop := ∀ fid sp, find fid C.sg = some sp → Meets P fid sp

theorem wp_of_calls {o : Oper} {N : Act → World → Prop} {Q : Exit → Act → World → Prop} {fid : FuncId} {vs : Array Value} (hr : (execOp a.eval o).run P w = .ok (.enter fid vs) w) {R : Value → World → Prop} (h : Calls P fid vs w fun e w' => ∃ v, e = .returned v ∧ R v w')
    (hN : ∀ v w', R v w' → N (a.put o.dst v) w') : o.wp P a w N Q := by
  unfold Oper.wp
  rw [hr, Oper.upon_enter]
  refine h.mono fun e w' ⟨v, he, hv⟩ => ?_
  subst he
  exact hN v w' hv

/-- A state goes on as another one. -/
def Goes (P : Program) (C : Ctx) (ops : Array Oper) (o : Oper) (s s' : St) : Prop :=
  ∀ (w0 : World) (S0 O0 : Nat → Prop) (pl0 : List Value) (a : Act) (w : World), Ok C w0 S0 O0 pl0 s a w → ∀ (N : Act → World → Prop) (Q : Exit → Act → World → Prop), (∀ a' w', Ok C w0 S0 O0 pl0 s' a' w' → N a' w') →
    if Region.wanted o (yielded ops a.tmps) then o.wp P a w N Q else N (a.put o.dst undef) w

/-- All that was there is as it was. -/
def Ext (w w' : World) : Prop := w.heap.size ≤ w'.heap.size ∧ ∀ b, b < w.heap.size → w'.heap[b]? = w.heap[b]?
theorem Ext.refl (w : World) : Ext w w := ⟨Nat.le_refl _, fun _ _ => rfl⟩
theorem Ext.trans {w w' w'' : World} (h : Ext w w') (k : Ext w' w'') : Ext w w'' := ⟨Nat.le_trans h.1 k.1, fun b hb => (k.2 b (Nat.lt_of_lt_of_le hb h.1)).trans (h.2 b hb)⟩
theorem Ext.of_fr {w w' : World} {O : Nat → Prop} (h : Fr w O w') (hO : ∀ b, ¬ O b) : Ext w w' := ⟨h.size, fun b hb => h.block b hb (hO b)⟩

theorem isArr_nil (tab : List Ent) : ([] : List Nat).all (fun i => isArr tab[i]?) = true := rfl

theorem encV_agg : ∀ {s : Sh} {x : s.T} {n : Nat}, s.vable = true → (s.encV x).isAgg = (s.enc x n).1.isAgg
  | .val _, _, _, _ => rfl
  | .ref _, _, _, _ => rfl
  | .own _ _, _, _, _ => rfl
  | .pr _ _, _, _, _ => rfl
  | .un, _, _, _ => rfl
  | .box _, _, _, h => by simp [Sh.vable] at h

theorem encV_pure : ∀ {s : Sh} {x : s.T} {n : Nat}, s.pure = true → (s.enc x n).1 = s.encV x
  | .val _, _, _, _ => rfl
  | .ref _, _, _, _ => rfl
  | .un, _, _, _ => rfl
  | .pr a b, x, n, h => by
    simp only [Sh.pure, Bool.and_eq_true] at h
    simp only [Sh.enc, Sh.encV, encV_pure h.1, encV_pure h.2]
  | .own _ _, _, _, h => by simp [Sh.pure] at h
  | .box _, _, _, h => by simp [Sh.pure] at h

theorem vable_of_pure : ∀ {s : Sh}, s.pure = true → s.vable = true
  | .val _, _ => rfl
  | .ref _, _ => rfl
  | .un, _ => rfl
  | .pr a b, h => by
    simp only [Sh.pure, Bool.and_eq_true] at h
    simp [Sh.vable, vable_of_pure h.1, vable_of_pure h.2]
  | .own _ _, h => by simp [Sh.pure] at h
  | .box _, h => by simp [Sh.pure] at h

/-- What was owned reads as plain values where its blocks are stable. -/
theorem enc_encV {tab : List Ent} (hp : Hp w S tab pl) {S'' : Nat → Prop} : ∀ {s : Sh} {x : s.T} {n : Nat}, s.vable = true → (∀ (j : Nat) (e : Ent), (s.enc x n).2[j]? = some e → tab[n + j]? = some e) → (∀ i b, n ≤ i → i < n + s.n → Own tab pl i b → S'' b) →
    (s.flat = true ∨ ∀ b, S b → S'' b) → ∀ {tab' : List Ent} {pl' : List Value} {cs : List Value}, (s.enc x n).1.R w S tab pl cs → (s.encV x).R w S'' tab' pl' cs
  | .val t, x, n, _, _, _, hf, tab', pl', cs, hr => by
    simp only [Sh.enc, Sh.encV, AV.R] at hr ⊢
    rcases hf with hf | hf
    · exact hr.flat hf
    · exact hr.step (fun b hb _ => ⟨hf b hb, rfl⟩) hp.stable
  | .ref t, x, n, _, _, _, hf, tab', pl', cs, hr => by
    simp only [Sh.enc, Sh.encV, AV.R] at hr ⊢
    rcases hf with hf | hf
    · simp [Sh.flat] at hf
    · exact hr.step (fun b hb _ => ⟨hf b hb, rfl⟩) hp.stable
  | .own eid e, xs, n, _, htab, hown, hf, tab', pl', cs, hr => by
    have hb : tab[n]? = some (.arr eid e xs) := htab 0 _ rfl
    simp only [Sh.enc, AV.R] at hr
    obtain ⟨_, _, _, hv, g1, g2, ⟨ad, m, c, rfl⟩, rfl⟩ := hr
    obtain ⟨css, hrow, hel⟩ := hp.ent n _ _ hb g2
    simp only [Sh.encV, AV.R, Ty.R]
    rcases hrow.2 with ⟨h2, h3⟩ | ⟨g, o, cap, cur, h2, hg, hn, hm, hsz, htk⟩
    · cases h2
      exact ⟨none, 0, 0, rfl, h3.symm, Nat.le_refl _, .inl (List.eq_nil_of_length_eq_zero h3)⟩
    · cases h2
      refine ⟨_, _, _, rfl, rfl, hn, .inr ⟨g, o, rfl, hown n g (Nat.le_refl _) (by simp [Sh.n]) ⟨_, _, hb, rfl, g2, rfl⟩, fun k x hk => ?_⟩⟩
      have hlt : k < css.length := by rw [hel.1]; exact (List.getElem?_eq_some_iff.1 hk).1
      refine ⟨css[k], hrow.cells hel rfl (List.getElem?_eq_getElem hlt), ?_⟩
      have := hel.2 k css[k] x (List.getElem?_eq_getElem hlt) hk
      rcases hf with hf | hf
      · exact this.flat hf
      · exact this.step (fun b hb _ => ⟨hf b hb, rfl⟩) hp.stable
  | .pr a b, x, n, hv, htab, hown, hf, tab', pl', cs, hr => by
    simp only [Sh.vable, Bool.and_eq_true] at hv
    simp only [Sh.enc, AV.R] at hr
    obtain ⟨c1, c2, rfl, h1, h2⟩ := hr
    simp only [Sh.encV, AV.R]
    have hf1 : a.flat = true ∨ ∀ b, S b → S'' b := hf.imp (fun h => by simp only [Sh.flat, Bool.and_eq_true] at h; exact h.1) id
    have hf2 : b.flat = true ∨ ∀ b, S b → S'' b := hf.imp (fun h => by simp only [Sh.flat, Bool.and_eq_true] at h; exact h.2) id
    refine ⟨c1, c2, rfl, enc_encV hp hv.1 (fun j e hj => htab j e ?_) (fun i b' h3 h4 => hown i b' h3 (by simp only [Sh.n]; omega)) hf1 h1, enc_encV hp hv.2 (fun j e hj => ?_) (fun i b' h3 h4 => hown i b' ?_ ?_) hf2 h2⟩
    · simp only [Sh.enc]
      rw [List.getElem?_append_left (List.getElem?_eq_some_iff.1 hj).1]; exact hj
    · have := htab ((a.enc x.1 n).2.length + j) e (by simp only [Sh.enc]; rw [List.getElem?_append_right (by omega), Nat.add_sub_cancel_left]; exact hj)
      rwa [← Nat.add_assoc] at this
    · omega
    · simp only [Sh.n]; rw [Sh.enc_length] at h4; omega
  | .un, x, n, _, _, _, _, tab', pl', cs, hr => hr
  | .box _, _, _, h, _, _, _, _, _, _, _ => by simp [Sh.vable] at h

theorem encV_list : ∀ {s : Sh} {x : s.T} {n : Nat}, s.vable = true → (s.encV x).list.length = (s.enc x n).1.list.length ∧ ∀ (i : Nat) (a' : AV), (s.encV x).list[i]? = some a' →
    ∃ (t : Sh) (z : t.T) (m : Nat), (s.enc x n).1.list[i]? = some (t.enc z m).1 ∧ a' = t.encV z ∧ t.vable = true ∧ n ≤ m ∧ m + t.n ≤ n + s.n ∧ (s.flat = true → t.flat = true) ∧ ∀ (j : Nat) (e : Ent), (t.enc z m).2[j]? = some e → (s.enc x n).2[m - n + j]? = some e
  | .val _, _, _, _ => ⟨rfl, fun i a' h => by simp [Sh.encV, AV.list] at h⟩
  | .ref _, _, _, _ => ⟨rfl, fun i a' h => by simp [Sh.encV, AV.list] at h⟩
  | .own _ _, _, _, _ => ⟨rfl, fun i a' h => by simp [Sh.encV, AV.list] at h⟩
  | .un, _, _, _ => ⟨rfl, fun i a' h => by simp [Sh.encV, AV.list] at h⟩
  | .box _, _, _, h => by simp [Sh.vable] at h
  | .pr a b, x, n, hv => by
    simp only [Sh.vable, Bool.and_eq_true] at hv
    obtain ⟨h1, h2⟩ := encV_list (s := b) (x := x.2) (n := n + (a.enc x.1 n).2.length) hv.2
    refine ⟨by simp [Sh.encV, Sh.enc, AV.list, h1], fun i a' h => ?_⟩
    cases i with
    | zero =>
      simp only [Sh.encV, AV.list, List.getElem?_cons_zero, Option.some.injEq] at h
      refine ⟨a, x.1, n, rfl, h.symm, hv.1, Nat.le_refl _, by simp only [Sh.n]; omega, fun hf => ?_, fun j e hj => ?_⟩
      · simp only [Sh.flat, Bool.and_eq_true] at hf; exact hf.1
      · simp only [Nat.sub_self, Nat.zero_add, Sh.enc]
        rw [List.getElem?_append_left (List.getElem?_eq_some_iff.1 hj).1]; exact hj
    | succ i =>
      simp only [Sh.encV, AV.list, List.getElem?_cons_succ] at h
      obtain ⟨t, z, m, g1, g2, g3, g4, g5, g6, g7⟩ := h2 i a' h
      rw [Sh.enc_length] at g4 g5
      refine ⟨t, z, m, by simpa [Sh.enc, AV.list] using g1, g2, g3, by omega, by simp only [Sh.n]; omega, fun hf => ?_, fun j e hj => ?_⟩
      · simp only [Sh.flat, Bool.and_eq_true] at hf; exact g6 hf.2
      · have := g7 j e hj
        rw [Sh.enc_length] at this
        simp only [Sh.enc]
        rw [List.getElem?_append_right (by rw [Sh.enc_length]; omega), Sh.enc_length]
        rw [← this]
        congr 1
        omega

/-- What a call without owned arguments hands back, taken for plain values. -/
theorem back_frozen {ins res : Sh} (hpure : ins.pure = true) (hv : res.vable = true) {many : Bool} {x : ins.T} {r : res.T} {T : Nat → Prop} {plc : List Value} {v : Value} {w' : World} (hb : Back ins res many x r x w T plc v w') (hT : res.flat = true ∨ ∀ b, T b → S b) (hS : ∀ b, S b → T b) (hlt : ∀ b, S b → b < w.heap.size) :
    ∃ S'' : Nat → Prop, Fr w (fun _ => False) w' ∧ (∀ b, S b → S'' b) ∧ (∀ b, S'' b → S b ∨ w.heap.size ≤ b) ∧ (∀ b, S'' b → b < w'.heap.size) ∧ ∀ (tab' : List Ent) (pl' : List Value), (resSV many (res.encV r)).R w' S'' tab' pl' v := by
  have he0 : ∀ (x : ins.T) n, (ins.enc x n).2 = [] := fun x n => enc_pure hpure x n
  have hn0 := Sh.pure_n hpure
  obtain ⟨S', pl', hp', hres, hfr, hup, hsub, hown, hnew, hfix⟩ := hb
  have hfr' : Fr w (fun _ => False) w' := ⟨hfr.os, hfr.tape, hfr.output, hfr.size, fun b hb _ => hfr.block b hb fun ⟨i, e, hv, g1, _⟩ => by rw [he0] at g1; simp at g1⟩
  rw [he0, List.nil_append, hn0] at hp' hres
  have hnew' : ∀ i b, Own (res.enc r 0).2 pl' i b → w.heap.size ≤ b := fun i b ho => hnew i b (by omega) (by rw [he0, List.nil_append, hn0]; exact ho)
  have hcov : ∀ S'' : Nat → Prop, (∀ i b, Own (res.enc r 0).2 pl' i b → S'' b) → (res.flat = true ∨ ∀ b, S' b → S'' b) → ∀ (tab' : List Ent) (pl'' : List Value), (resSV many (res.encV r)).R w' S'' tab' pl'' v := fun S'' h1 h2 tab' pl'' => by
    cases many with
    | false =>
      obtain ⟨cs, g1, g2⟩ := hres
      exact ⟨cs, enc_encV hp' hv (fun j e hj => by rw [Nat.zero_add]; exact hj) (fun i b _ _ ho => h1 i b ho) h2 g1, by rw [encV_agg (n := 0) hv]; exact g2⟩
    | true =>
      obtain ⟨us, g1, g2, g3⟩ := hres
      obtain ⟨e1, e2⟩ := encV_list (s := res) (x := r) (n := 0) hv
      refine ⟨us, g1, by rw [e1]; exact g2, fun i a' v' hi' hv' => ?_⟩
      obtain ⟨t, z, m, k1, rfl, k3, k4, k5, k6, k7⟩ := e2 i a' hi'
      obtain ⟨cs, q1, q2⟩ := g3 i _ v' k1 hv'
      exact ⟨cs, enc_encV hp' k3 (fun j e hj => by have := k7 j e hj; rwa [Nat.sub_zero] at this) (fun i b _ _ ho => h1 i b ho) (h2.imp k6 id) q1, by rw [encV_agg (n := m) k3]; exact q2⟩
  rcases hT with hf | hT
  · exact ⟨fun b => S b ∨ (w.heap.size ≤ b ∧ ∃ i, Own (res.enc r 0).2 pl' i b), hfr', fun b hb => .inl hb, fun b hb => hb.imp id (fun h => h.1), fun b hb => hb.elim (fun h => Nat.lt_of_lt_of_le (hlt b h) hfr.size) (fun ⟨_, i, ho⟩ => hp'.lt ho),
      hcov _ (fun i b ho => .inr ⟨hnew' i b ho, i, ho⟩) (.inl hf)⟩
  · exact ⟨fun b => S' b ∨ ∃ i, Own (res.enc r 0).2 pl' i b, hfr', fun b hb => .inl (hup b (hS b hb)), fun b hb => hb.elim (fun h => (hsub b h).imp (hT b) id) (fun ⟨i, ho⟩ => .inr (hnew' i b ho)), fun b hb => hb.elim (hp'.stable b) (fun ⟨i, ho⟩ => hp'.lt ho),
      hcov _ (fun i b ho => .inr ⟨i, ho⟩) (.inr fun b hb => .inl hb)⟩

theorem callPure_sound {A : Type} {fid : FuncId} {many : Bool} {ins res : Sh} {f : ins.T → Option res.T} (hM : Meets P fid ⟨ins, res, many, .inl f⟩) {G : PC} {dst : Option Tmp} {fo : Operand} {caps : List (Nat × Ty)} {xs : Array Operand} {ts : List TypeId} {l : List AV}
    (hpd : s.pd = []) (hf : s.av G fo = some (.fn fid caps)) (hl : avs C s G xs.toList ts = some l) (hd : dstOk C s G dst = true) {K : St → Option A} {r : A} (h : callPure C.m C.mu s G dst many ins res f (l ++ capAVs caps) K = some r) :
    ∃ s', K s' = some r ∧ ∀ {w0 : World} {S0 O0 : Nat → Prop} {pl0 : List Value} {a : Act} {w : World}, Ok C w0 S0 O0 pl0 s a w →
      (Holds a.tmps G → ∃ capv, a.eval fo = .func (.func fid) #[] capv ∧ Calls P fid (xs.map a.eval ++ capv) w fun e w' => ∃ v, e = .returned v ∧ Ok C w0 S0 O0 pl0 s' (a.put dst v) w' ∧ Ext w w') ∧
      (¬ Holds a.tmps G → Ok C w0 S0 O0 pl0 s' (a.put dst undef) w) := by
  have hpure : ins.pure = true := hM.pure
  have hn0 := Sh.pure_n hpure
  have he0 : ∀ (x : ins.T) n, (ins.enc x n).2 = [] := fun x n => enc_pure hpure x n
  unfold callPure at h
  split at h
  · rename_i x lents hdec
    have hnone : ∀ b, ¬ ∃ i, Own (ins.enc x 0).2 (handed ([] : List Value) []) i b := fun b ⟨i, e, hv, g1, _⟩ => by rw [he0] at g1; simp at g1
    -- what comes behind the call
    have core : ∀ {s1 : St}, (match res.flat && ins.flatO with | true => some s | false => s.freezes C.m lents) = some s1 → ∀ {y : res.T}, f x = some y → ∀ {w0 : World} {S0 O0 : Nat → Prop} {pl0 : List Value} {a : Act} {w : World} {S : Nat → Prop} {pl : List Value}, Inv C w0 S0 O0 pl0 s a w S pl → Holds a.tmps G →
        ∃ capv, a.eval fo = .func (.func fid) #[] capv ∧ Calls P fid (xs.map a.eval ++ capv) w fun e w' => ∃ v, e = .returned v ∧ (∃ S'' pl'', Inv C w0 S0 O0 pl0 { s1 with tab := s1.tab ++ (res.enc y s1.tab.length).2 } a w' S'' pl'' ∧
          (resSV many (res.enc y s1.tab.length).1).R w' S'' (s1.tab ++ (res.enc y s1.tab.length).2) pl'' v) ∧ Ext w w' := by
      intro s1 hs1 y hy w0 S0 O0 pl0 a w S pl hi hG
      obtain ⟨capv, h1, hc⟩ := call_does hi.hp hi.env hG hf hl hM.chain hdec rfl (by simp [apart, has]) (hM.does x y hy)
      refine ⟨capv, h1, hc.mono fun e w' ⟨v, he, hb⟩ => ⟨v, he, ?_, ?_⟩⟩
      · obtain ⟨S'', pl'', k1, k2, _⟩ := back_sound hi hpd hdec (by simp [nodup, apart, has, movesOk, moved]) hs1 hb
        simp only [moved, St.subL_nil, he0, List.map_nil, setMany] at k1 k2
        exact ⟨S'', pl'', k1, k2⟩
      · obtain ⟨S', pl', _, _, hfr, _⟩ := hb
        exact Ext.of_fr hfr fun b ⟨i, e, hv, g1, _⟩ => by rw [he0] at g1; simp at g1
    split at h
    · cases h
    · rename_i s1 hs1
      have hs1' : (match res.flat && ins.flatO with | true => some s | false => s.freezes C.m lents) = some s1 := by
        rw [flatO_of_pure hpure, Bool.and_true]; exact hs1
      have htags : Tags s.env s1.env := by
        split at hs1
        · obtain rfl := Option.some.inj hs1; exact .refl _
        · exact Tags.freezes hs1
      split at h
      · -- no condition
        split at h
        · obtain ⟨y, hy, hK⟩ := Option.bind_eq_some_iff.1 h
          refine ⟨_, hK, fun {w0 S0 O0 pl0 a w} hok => ⟨fun hG => ?_, fun hn => absurd holds_nil hn⟩⟩
          obtain ⟨⟨S, pl, hi⟩, hu⟩ := hok
          obtain ⟨capv, h1, hc⟩ := core hs1' hy hi hG
          refine ⟨capv, h1, hc.mono fun e w' ⟨v, he, ⟨S'', pl'', k1, k2⟩, hext⟩ => ⟨v, he, ?_, hext⟩⟩
          have hd1 : dstOk C { s1 with tab := s1.tab ++ (res.enc y s1.tab.length).2 } [] dst = true := by
            rw [dstOk_tab]
            split at hs1
            · obtain rfl := Option.some.inj hs1; exact hd
            · rw [dstOk_freezes hs1]; exact hd
          exact ⟨⟨S'', pl'', k1.put hd1 (.inl k2)⟩, (hu.tags htags).put (s := { s1 with tab := s1.tab ++ (res.enc y s1.tab.length).2 }) hd1 k1.size (.inl hG)⟩
        · -- the owned parts become stable
          rename_i hkp
          have hva : res.vable = true := by
            unfold keeps at hkp
            simp only [Bool.or_eq_false_iff, Bool.not_eq_false'] at hkp
            exact hkp.1.2
          obtain ⟨y, hy, hK⟩ := Option.bind_eq_some_iff.1 h
          refine ⟨_, hK, fun {w0 S0 O0 pl0 a w} hok => ⟨fun hG => ?_, fun hn => absurd holds_nil hn⟩⟩
          obtain ⟨⟨S, pl, hi⟩, hu⟩ := hok
          have hd1 : dstOk C s1 [] dst = true := by
            split at hs1
            · obtain rfl := Option.some.inj hs1; exact hd
            · rw [dstOk_freezes hs1]; exact hd
          obtain ⟨S1, i1, i1p, i1S, i1T⟩ : ∃ S1, Inv C w0 S0 O0 pl0 s1 a w S1 pl ∧ s1.pd = [] ∧ (∀ b, S1 b → S b ∨ Lent s.tab pl lents b) ∧ (res.flat = true ∨ ∀ b, S b ∨ Lent s.tab pl lents b → S1 b) := by
            split at hs1
            · rename_i hf
              obtain rfl := Option.some.inj hs1
              exact ⟨S, hi, hpd, fun b hb => .inl hb, .inl hf⟩
            · obtain ⟨S1, q1, q2, q3, _⟩ := freezes_sound hi hpd hs1
              exact ⟨S1, q1, q2, fun b hb => (q3 b).1 hb, .inr fun b hb => (q3 b).2 hb⟩
          obtain ⟨capv, h1, hc⟩ := call_does hi.hp hi.env hG hf hl hM.chain hdec rfl (by simp [apart, has]) (hM.does x y hy)
          refine ⟨capv, h1, hc.mono fun e w' ⟨v, he, hb⟩ => ⟨v, he, ?_⟩⟩
          obtain ⟨S'', k1, k2, k3, k4, k5⟩ := back_frozen (S := S1) hpure hva hb i1T i1S i1.hp.stable
          have hall : ∀ b, b < w.heap.size → w'.heap[b]? = w.heap[b]? := fun b hb => k1.block b hb (fun k => k)
          have hp' : Hp w' S'' s1.tab pl := i1.hp.grow k2 k4 (fun i b ho hb => (k3 b hb).elim (i1.hp.off i b ho) (fun h => by have := i1.hp.lt ho; omega)) (fun b hb => hall b (hb.elim (i1.hp.stable b) (fun ⟨i, ho⟩ => i1.hp.lt ho)))
          have hi' : Inv C w0 S0 O0 pl0 s1 a w' S'' pl := i1.to hp' ⟨k1.os, k1.tape, k1.output, k1.size, fun b hb _ => hall b hb⟩ (fun i b ho => .inl ho) k2 (fun _ _ _ h => h) (i1.env.keep (fun b hb hlt => ⟨k2 b hb, hall b hlt⟩) i1.hp.stable (fun i => Keep.refl _ _ i)) (fun b hb => (k3 b hb).imp id .inl) (hpd := i1p)
          exact ⟨⟨⟨S'', pl, hi'.put hd1 (.inl (k5 _ _))⟩, (hu.tags htags).put hd1 hi'.size (.inl hG)⟩, Ext.of_fr k1 fun b h => h⟩
      · rename_i hne
        split at h
        · rename_i g hg hrp hrf
          obtain ⟨y, hy, hK⟩ := Option.bind_eq_some_iff.1 h
          have hss : s1 = s := by
            cases hff : res.flat with
            | true => rw [hff] at hs1; exact (Option.some.inj hs1).symm
            | false =>
              rw [hff] at hs1 hrf
              have : lents = [] := by cases lents with | nil => rfl | cons a b => simp at hrf
              subst this
              exact (Option.some.inj hs1).symm
          subst hss
          refine ⟨_, hK, fun {w0 S0 O0 pl0 a w} hok => ?_⟩
          obtain ⟨⟨S, pl, hi⟩, hu⟩ := hok
          refine ⟨fun hG => ?_, fun hn => ⟨⟨S, pl, hi.put hd (.inr hn)⟩, hu.put hd hi.size (.inr rfl)⟩⟩
          have hgt := gcond_holds hi.env hg hu hG
          rw [if_pos hgt] at hy
          obtain ⟨capv, h1, hc⟩ := core hs1' hy hi hG
          refine ⟨capv, h1, hc.mono fun e w' ⟨v, he, ⟨S'', pl'', k1, k2⟩, hext⟩ => ⟨v, he, ?_, hext⟩⟩
          simp only [enc_pure hrp, List.append_nil] at k1 k2
          exact ⟨⟨S'', pl'', k1.put hd (.inl k2)⟩, hu.put hd k1.size (.inl hG)⟩
        · cases h
  · cases h

theorem callEff_sound {A : Type} {fid : FuncId} {many : Bool} {ins res : Sh} {f : ins.T → Option (res.T × ins.T)} (hM : Meets P fid ⟨ins, res, many, .inr f⟩) {dst : Option Tmp} {fo : Operand} {caps : List (Nat × Ty)} {xs : Array Operand} {ts : List TypeId} {l : List AV}
    (hpd : s.pd = []) (hf : s.av [] fo = some (.fn fid caps)) (hl : avs C s [] xs.toList ts = some l) (hd : dstOk C s [] dst = true) {K : St → Option A} {r : A} (h : callEff C s dst many ins res f (l ++ capAVs caps) K = some r) :
    ∃ s', K s' = some r ∧ ∀ {w0 : World} {S0 O0 : Nat → Prop} {pl0 : List Value} {a : Act} {w : World}, Ok C w0 S0 O0 pl0 s a w →
      ∃ capv, a.eval fo = .func (.func fid) #[] capv ∧ Calls P fid (xs.map a.eval ++ capv) w fun e w' => ∃ v, e = .returned v ∧ Ok C w0 S0 O0 pl0 s' (a.put dst v) w' := by
  unfold callEff at h
  split at h
  · rename_i x idx lents hdec
    split at h
    · cases h
    · rename_i hok
      split at h
      · cases h
      · rename_i s1 hs1
        obtain ⟨⟨y, x'⟩, hy, hK⟩ := Option.bind_eq_some_iff.1 h
        refine ⟨_, hK, fun {w0 S0 O0 pl0 a w} hok' => ?_⟩
        obtain ⟨⟨S, pl, hi⟩, hu⟩ := hok'
        have hnd : nodup idx = true := by simp only [Bool.and_eq_true] at hok; exact hok.1.1.1.1
        have hap : apart lents idx = true := by simp only [Bool.and_eq_true] at hok; exact hok.1.1.1.2
        obtain ⟨capv, h1, hc⟩ := call_does hi.hp hi.env holds_nil hf hl hM.chain hdec hnd hap (hM.does x y x' hy)
        refine ⟨capv, h1, hc.mono fun e w' ⟨v, he, hb⟩ => ⟨v, he, ?_⟩⟩
        obtain ⟨S'', pl'', k1, k2, k3⟩ := back_sound hi hpd hdec hok hs1 hb
        have hd1 := (k3 [] dst).trans hd
        have htags : Tags s.env s1.env := by
          split at hs1
          · obtain rfl := Option.some.inj hs1; exact .refl _
          · exact Tags.freezes hs1
        have htags2 : Tags s.env (s1.subL (moved (ins.fx 0) idx 0)).env := htags.trans (Tags.map (SV.subL (moved (ins.fx 0) idx 0)) s1.env)
        exact ⟨⟨S'', pl'', k1.put hd1 (.inl k2)⟩, (hu.tags htags2).put (s := { (s1.subL (moved (ins.fx 0) idx 0)) with tab := setMany (s1.subL (moved (ins.fx 0) idx 0)).tab idx ((ins.enc x' 0).2.map (Ent.mapI (nth idx))) ++ (res.enc y s1.tab.length).2 }) hd1 k1.size (.inl holds_nil)⟩
  · cases h

/-- A call that changes one row of a slice of slices where it lies. -/
theorem callRow_sound {A : Type} {fid : FuncId} {many : Bool} {ins res : Sh} {f : ins.T → Option (res.T × ins.T)} (hM : Meets P fid ⟨ins, res, many, .inr f⟩) {dst : Option Tmp} {fo : Operand} {caps : List (Nat × Ty)} {xs : Array Operand} {ts : List TypeId} {l : List AV}
    (hpd : s.pd = []) (hf : s.av [] fo = some (.fn fid caps)) (hl : avs C s [] xs.toList ts = some l) (hd : dstOk C s [] dst = true) {K : St → Option A} {r : A} (h : callRow s dst many ins res f (l ++ capAVs caps) K = some r) :
    ∃ s', K s' = some r ∧ s'.pd = [] ∧ ∀ {w0 : World} {S0 O0 : Nat → Prop} {pl0 : List Value} {a : Act} {w : World}, Ok C w0 S0 O0 pl0 s a w →
      ∃ capv, a.eval fo = .func (.func fid) #[] capv ∧ Calls P fid (xs.map a.eval ++ capv) w fun e w' => ∃ v, e = .returned v ∧ Ok C w0 S0 O0 pl0 s' (a.put dst v) w' := by
  unfold callRow at h
  split at h
  · rename_i eid e f' i j hargs
    split at h
    · rename_i eid0 eid' e' xss hb
      split at h
      · rename_i hc
        obtain ⟨rfl, rfl, hfl, rfl⟩ := hc
        simp only [castD_self] at h
        obtain ⟨⟨y, x'⟩, hy, hK⟩ := Option.bind_eq_some_iff.1 h
        refine ⟨_, hK, by cases dst <;> exact hpd, fun {w0 S0 O0 pl0 a w} hok => ?_⟩
        obtain ⟨⟨S, pl, hi⟩, hu⟩ := hok
        obtain ⟨capv, h1, css, h2, h3, h4⟩ := allArgs_sound hi.hp hi.env holds_nil hf hl
        rw [hargs] at h2 h3 h4
        obtain ⟨cs, rfl⟩ : ∃ cs, css = [cs] := by
          match css, h2 with
          | [cs], _ => exact ⟨cs, rfl⟩
        have hr := h3 0 _ cs rfl rfl
        simp only [AV.R] at hr
        obtain ⟨_, _, _, _, outer, hs, c, g1, g2, g3, rfl⟩ := hr
        obtain ⟨h0, g4, ad, n, cp, rfl⟩ := XT.row_inv g3
        have hro := hi.hp.rows hb g2
        have hjl : j.toNat < xss.length := by rw [← hro.len]; exact (List.getElem?_eq_some_iff.1 g4).1
        have hgd : xss.getD j.toNat [] = xss[j.toNat] := by simp [List.getD, List.getElem?_eq_getElem hjl]
        obtain ⟨_, css, hrow, hel⟩ := hro.rows j.toNat _ xss[j.toNat] g4 (List.getElem?_eq_getElem hjl)
        have hown : ∀ b, blk (.slice ad n cp) = some b → Own s.tab pl i b := fun b hb' => ⟨_, _, hb, rfl, g2, _, List.mem_cons_of_mem _ (List.mem_of_getElem? g4), hb'⟩
        have hown0 : ∀ k b, Own [Ent.arr eid' e' xss[j.toNat]] [Value.slice ad n cp] k b → k = 0 ∧ blk (.slice ad n cp) = some b := fun k b ⟨e1, v1, q1, q2, q3, q4⟩ => by
          cases k with
          | zero =>
            simp only [List.getElem?_cons_zero, Option.some.injEq] at q3
            subst q3
            exact ⟨rfl, q4⟩
          | succ k => simp at q1
        have hp1 : Hp w S [Ent.arr eid' e' xss[j.toNat]] [Value.slice ad n cp] := by
          refine ⟨rfl, fun k e1 v1 q1 q2 => ?_, fun k k' b q1 q2 => by rw [(hown0 k b q1).1, (hown0 k' b q2).1], hi.hp.stable, fun k b q1 => hi.hp.off i b (hown b (hown0 k b q1).2)⟩
          cases k with
          | zero =>
            simp only [List.getElem?_cons_zero, Option.some.injEq] at q1 q2
            subst q1 q2
            exact ⟨css, hrow, hel⟩
          | succ k => simp at q1
        have hdo : Does P fid (.pr (.own eid' e') .un) .un true (xss[j.toNat], ()) y x' := hM.does _ y x' (by rw [← hgd]; exact hy)
        have hcall := hdo w S [Value.slice ad n cp] [Value.slice ad n cp] hp1 ⟨rfl, fun k a' v' q1 q2 => by
          cases k with
          | zero =>
            simp only [Sh.enc, AV.list, List.getElem?_cons_zero, Option.some.injEq] at q1 q2
            subst q1 q2
            exact ⟨[.slice ad n cp], ⟨eid', e', xss[j.toNat], _, rfl, rfl, ⟨_, _, _, rfl⟩, rfl⟩, rfl⟩
          | succ k => simp [Sh.enc, AV.list] at q1⟩
        refine ⟨capv, h1, ?_⟩
        have hvs : (xs.map a.eval ++ capv) = [Value.slice ad n cp].toArray := by
          apply Array.toList_inj.1
          rw [h4]
          simp [pack, AV.isAgg]
        rw [hvs]
        refine hcall.mono fun e1 w' ⟨v, hv, S', pl', hp', hres, hfr, hup, hsub, hown', hnew, hfix⟩ => ⟨v, hv, ?_⟩
        have hblock : ∀ b, b < w.heap.size → blk (.slice ad n cp) ≠ some b → w'.heap[b]? = w.heap[b]? := fun b hlt hne => hfr.block b hlt fun ⟨k, ho⟩ => hne (hown0 k b ho).2
        have hS : ∀ b, S b → b < w.heap.size → S b ∧ w'.heap[b]? = w.heap[b]? := fun b hb' hlt => ⟨hb', hblock b hlt fun k => hi.hp.off i b (hown b k) hb'⟩
        have hpl0 : pl'[0]? = some (.slice ad n cp) := hfix 0 (by simp [Sh.fx]) _ rfl
        obtain ⟨css', hrow', hel'⟩ := hp'.ent 0 (.arr eid' e' x'.1) _ (by simp [Sh.enc]) hpl0
        have hent : EntAt w' S (setAt i (.rows eid0 eid' e' (xss.set j.toNat x'.1)) s.tab) pl (.rows eid0 eid' e' (xss.set j.toNat x'.1)) (.tuple (outer :: hs).toArray) := by
          refine ⟨outer, hs, rfl, by rw [List.length_set]; exact hro.row.step fun b hb' => hblock b (hro.row.lt hb') fun k => hro.off j.toNat b _ g4 k hb', hro.hdr, fun k h ys hk hy' => ?_, hro.inj, hro.off⟩
          by_cases hkj : k = j.toNat
          · subst hkj
            rw [List.getElem?_set_self hjl] at hy'
            obtain rfl := Option.some.inj hy'
            rw [g4] at hk
            obtain rfl := Option.some.inj hk
            exact ⟨⟨_, _, _, rfl⟩, css', hrow', hel'.1, fun q cs z hq hz => (hel'.2 q cs z hq hz).flat hfl⟩
          · rw [List.getElem?_set_ne (Ne.symm hkj)] at hy'
            obtain ⟨q0, css2, q1, q2⟩ := hro.rows k h ys hk hy'
            exact ⟨q0, css2, q1.step fun b hb' => hblock b (q1.lt hb') fun q => hkj (hro.inj k j.toNat b h _ hk g4 hb' q), q2.step hS hi.hp.stable⟩
        have hk2 : ∀ q, Keep s.tab pl (setAt i (.rows eid0 eid' e' (xss.set j.toNat x'.1)) s.tab) pl q := Keep.inplace hb (.inr (.inr ⟨_, _, _, _, _, rfl, rfl⟩))
        have hpn := hi.hp.inplace (w' := w') (e' := .rows eid0 eid' e' (xss.set j.toNat x'.1)) hb g2 (.inr (.inr ⟨_, _, _, _, _, rfl, rfl⟩)) hfr.size (fun b hlt hb' => hblock b hlt fun k => hb' ⟨_, List.mem_cons_of_mem _ (List.mem_of_getElem? g4), k⟩) hent
        have hi' : Inv C w0 S0 O0 pl0 { s with tab := setAt i (.rows eid0 eid' e' (xss.set j.toNat x'.1)) s.tab } a w' S pl := by
          refine hi.to hpn ⟨hfr.os, hfr.tape, hfr.output, hfr.size, fun b hlt hn => hblock b hlt fun k => hn ⟨i, hown b k⟩⟩ (fun k b ⟨e2, v2, q1, q2, q3, q4⟩ => .inl ?_) (fun _ hb => hb) (fun _ _ _ h => h) (hi.env.keep hS hi.hp.stable hk2) (fun b hb => .inl hb) (hpd := hpd)
          by_cases hk : k = i
          · subst hk; exact ⟨_, v2, hb, rfl, q3, q4⟩
          · rw [setAt_ne hk] at q1; exact ⟨e2, v2, q1, q2, q3, q4⟩
        have hd1 : dstOk C { s with tab := setAt i (.rows eid0 eid' e' (xss.set j.toNat x'.1)) s.tab } [] dst = true := by rw [dstOk_tab]; exact hd
        refine ⟨⟨S, pl, hi'.put hd1 (.inl ?_)⟩, hu.put (s := { s with tab := setAt i (.rows eid0 eid' e' (xss.set j.toNat x'.1)) s.tab }) hd1 hi.size (.inl holds_nil)⟩
        obtain ⟨us, q1, q2, _⟩ := hres
        exact ⟨us, q1, by simpa [Sh.enc, AV.list] using q2, fun k a' v' q3 => by simp at q3⟩
      · cases h
    · cases h
  · cases h

end

end Go.Lg
