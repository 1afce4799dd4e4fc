/-
  A function does what the interpreter says of it.
-/
import Derived.Test.YtejfaifipdhecaaEng25
set_option linter.unusedVariables false
set_option linter.unusedSimpArgs false
namespace Go.Lg
open Go.RowKit

theorem look_envOf {t : Nat} : ∀ {l : List AV} {n : Nat}, look t (envOf n l) = if n ≤ t then (l[t - n]?).map fun a => (.one a, []) else none
  | [], n => by simp [envOf, look]
  | a :: r, n => by
    simp only [envOf, look_cons, look_envOf (l := r) (n := n + 1)]
    by_cases h : n = t
    · subst h; simp
    · by_cases hlt : n ≤ t
      · have h1 : t - n = (t - (n + 1)) + 1 := by omega
        rw [if_neg h, if_pos (show n + 1 ≤ t by omega), if_pos hlt, h1, List.getElem?_cons_succ]
      · rw [if_neg h, if_neg (show ¬ n + 1 ≤ t by omega), if_neg hlt]

/-- How many arguments. -/
def Sh.len : Sh → Nat
  | .pr _ b => b.len + 1
  | _ => 0

theorem enc_list_length : ∀ {s : Sh}, s.chain = true → ∀ (x : s.T) (n : Nat), (s.enc x n).1.list.length = s.len
  | .un, _, _, _ => rfl
  | .pr a b, h, x, n => by simp only [Sh.chain] at h; simp [Sh.enc, AV.list, Sh.len, enc_list_length h]
  | .val _, h, _, _ => by simp [Sh.chain] at h
  | .ref _, h, _, _ => by simp [Sh.chain] at h
  | .clo _ _, h, _, _ => by simp [Sh.chain] at h
  | .own _ _, h, _, _ => by simp [Sh.chain] at h
  | .box _, h, _, _ => by simp [Sh.chain] at h

theorem fx_lt : ∀ {s : Sh} {n k : Nat}, k ∈ s.fx n → n ≤ k ∧ k < n + s.n
  | .val _, n, k, h => by simp [Sh.fx] at h
  | .ref _, n, k, h => by simp [Sh.fx] at h
  | .clo _ s, n, k, h => fx_lt (s := s) h
  | .un, n, k, h => by simp [Sh.fx] at h
  | .own _ _, n, k, h => by simp only [Sh.fx, List.mem_singleton] at h; simp only [Sh.n]; omega
  | .box s, n, k, h => by simp only [Sh.fx, List.mem_singleton] at h; simp only [Sh.n]; omega
  | .pr a b, n, k, h => by
    simp only [Sh.fx, List.mem_append] at h
    simp only [Sh.n]
    rcases h with h | h
    · have := fx_lt h; omega
    · have := fx_lt h; omega

section
variable {P : Program} {C : Ctx}

def resG (a : Act) : ResultVar → Sem Value
  | .tmp t => Pure.pure (a.tmps.getD t undef)
  | .cell c t => do loadVar t (← asAddr (a.tmps.getD c undef))

theorem results_eq {fn : Func} {a : Act} : results fn a.tmps = (fn.results.mapM (resG a) >>= fun vs => Pure.pure (if h : vs.size = 1 then vs[0] else .tuple vs)) := by
  have : (fun | .tmp t => Pure.pure (a.tmps.getD t undef) | .cell c t => do loadVar t (← asAddr (a.tmps.getD c undef)) : ResultVar → Sem Value) = resG a := by
    funext x; cases x <;> rfl
  unfold results
  rw [← this]
  rfl

section
variable {w0 : World} {S0 O0 : Nat → Prop} {pl0 : List Value} {a : Act} {w : World} {S : Nat → Prop}

theorem mat_sound : ∀ {sh : Sh} {av : AV} {env : Env} {tab : List Ent} {pl : List Value}, Inv C w0 S0 O0 pl0 ⟨env, tab, []⟩ a w S pl →
    ∃ pl', Inv C w0 S0 O0 pl0 ⟨env, tab ++ (mat tab sh av).2, []⟩ a w S pl' ∧ (∀ i, Keep tab pl (tab ++ (mat tab sh av).2) pl' i) ∧
      (∀ cs, av.R w S tab pl cs → (mat tab sh av).1.R w S (tab ++ (mat tab sh av).2) pl' cs) ∧ (mat tab sh av).1.isAgg = av.isAgg := by
  intro sh
  induction sh with
  | own eid0 e0 =>
    intro av env tab pl hi
    cases av with
    | nsl eid e =>
      obtain ⟨h1, h2, h3⟩ := hi.push_nil eid e
      refine ⟨_, h1, h2, fun cs h => ?_, rfl⟩
      simp only [AV.R] at h
      subst h
      exact h3
    | _ => exact ⟨pl, by simpa [mat] using hi, by simpa [mat] using Keep.refl tab pl, fun cs h => by simpa [mat] using h, rfl⟩
  | pr p q ihp ihq =>
    intro av env tab pl hi
    cases av with
    | pr x y =>
      obtain ⟨pl1, h1, h2, h3, h4⟩ := ihp (av := x) hi
      obtain ⟨pl2, g1, g2, g3, g4⟩ := ihq (av := y) h1
      simp only [mat]
      rw [← List.append_assoc]
      have hk : ∀ i, Keep tab pl (tab ++ (mat tab p x).2 ++ (mat (tab ++ (mat tab p x).2) q y).2) pl2 i := fun i =>
        (h2 i).trans (g2 i)
      have hS : ∀ b, S b → b < w.heap.size → S b ∧ w.heap[b]? = w.heap[b]? := fun b hb _ => ⟨hb, rfl⟩
      refine ⟨pl2, g1, hk, fun cs h => ?_, rfl⟩
      simp only [AV.R] at h
      obtain ⟨c1, c2, rfl, k1, k2⟩ := h
      exact ⟨c1, c2, rfl, (h3 c1 k1).keep hS hi.hp.stable g2, g3 c2 (k2.keep hS hi.hp.stable h2)⟩
    | _ => exact ⟨pl, by simpa [mat] using hi, by simpa [mat] using Keep.refl tab pl, fun cs h => by simpa [mat] using h, rfl⟩
  | _ => intro av env tab pl hi; exact ⟨pl, by simpa [mat] using hi, by simpa [mat] using Keep.refl tab pl, fun cs h => by simpa [mat] using h, rfl⟩

theorem matL_sound : ∀ {sh : Sh} {l : List AV} {css : List (List Value)} {env : Env} {tab : List Ent} {pl : List Value}, Inv C w0 S0 O0 pl0 ⟨env, tab, []⟩ a w S pl → css.length = l.length →
    (∀ (i : Nat) (av : AV) (cs : List Value), l[i]? = some av → css[i]? = some cs → av.R w S tab pl cs) →
    ∃ pl', Inv C w0 S0 O0 pl0 ⟨env, tab ++ (matL tab sh l).2, []⟩ a w S pl' ∧ (∀ i, Keep tab pl (tab ++ (matL tab sh l).2) pl' i) ∧ css.length = (matL tab sh l).1.length ∧
      (∀ (i : Nat) (av : AV) (cs : List Value), (matL tab sh l).1[i]? = some av → css[i]? = some cs → av.R w S (tab ++ (matL tab sh l).2) pl' cs) ∧
      ((matL tab sh l).1.zip css).map (fun p => pack p.1.isAgg p.2) = (l.zip css).map fun p => pack p.1.isAgg p.2 := by
  intro sh
  induction sh with
  | pr p q _ ihq =>
    intro l css env tab pl hi hl hr
    cases l with
    | nil => exact ⟨pl, by simpa [matL] using hi, by simpa [matL] using Keep.refl tab pl, hl, fun i av cs h => by simp [matL] at h, rfl⟩
    | cons x r =>
      cases css with
      | nil => simp at hl
      | cons c cs0 =>
        obtain ⟨pl1, h1, h2, h3, h4⟩ := mat_sound (sh := p) (av := x) hi
        have hS : ∀ b, S b → b < w.heap.size → S b ∧ w.heap[b]? = w.heap[b]? := fun b hb _ => ⟨hb, rfl⟩
        obtain ⟨pl2, g1, g2, g3, g4, g5⟩ := ihq (l := r) (css := cs0) h1 (by simpa using hl) (fun i av cs hi1 hi2 => (hr (i + 1) av cs (by simpa using hi1) (by simpa using hi2)).keep hS hi.hp.stable h2)
        simp only [matL]
        rw [← List.append_assoc]
        refine ⟨pl2, g1, fun i => (h2 i).trans (g2 i), by simp [g3], fun i av cs hi1 hi2 => ?_, by simp [g5, h4]⟩
        cases i with
        | zero =>
          simp only [List.getElem?_cons_zero, Option.some.injEq] at hi1 hi2
          subst hi1 hi2
          exact (h3 c (hr 0 x c rfl rfl)).keep hS hi.hp.stable g2
        | succ i => exact g4 i av cs (by simpa using hi1) (by simpa using hi2)
  | _ => intro l css env tab pl hi hl hr; exact ⟨pl, by simpa [matL] using hi, by simpa [matL] using Keep.refl tab pl, hl, fun i av cs h1 h2 => by simpa [matL] using hr i av cs h1 h2, rfl⟩

theorem matR_sound {many : Bool} {sh : Sh} {l : List AV} {css : List (List Value)} {env : Env} {tab : List Ent} {pl : List Value} (hi : Inv C w0 S0 O0 pl0 ⟨env, tab, []⟩ a w S pl) (hl : css.length = l.length)
    (hr : ∀ (i : Nat) (av : AV) (cs : List Value), l[i]? = some av → css[i]? = some cs → av.R w S tab pl cs) :
    ∃ pl', Inv C w0 S0 O0 pl0 ⟨env, tab ++ (matR many tab sh l).2, []⟩ a w S pl' ∧ css.length = (matR many tab sh l).1.length ∧
      (∀ (i : Nat) (av : AV) (cs : List Value), (matR many tab sh l).1[i]? = some av → css[i]? = some cs → av.R w S (tab ++ (matR many tab sh l).2) pl' cs) ∧
      ((matR many tab sh l).1.zip css).map (fun p => pack p.1.isAgg p.2) = (l.zip css).map fun p => pack p.1.isAgg p.2 := by
  cases many with
  | true =>
    obtain ⟨pl', h1, _, h2, h3, h4⟩ := matL_sound (sh := sh) hi hl hr
    exact ⟨pl', by simpa [matR] using h1, by simpa [matR] using h2, by simpa [matR] using h3, by simpa [matR] using h4⟩
  | false =>
    match l, css, hl with
    | [], _, hl => exact ⟨pl, by simpa [matR] using hi, hl, fun i av cs h => by simp [matR] at h, rfl⟩
    | [x], [c], _ =>
      obtain ⟨pl1, h1, h2, h3, h4⟩ := mat_sound (sh := sh) (av := x) hi
      refine ⟨pl1, h1, rfl, fun i av cs hi1 hi2 => ?_, by simp [matR, h4]⟩
      cases i with
      | zero =>
        simp only [matR, List.getElem?_cons_zero, Option.some.injEq] at hi1 hi2
        subst hi1 hi2
        exact h3 c (hr 0 x c rfl rfl)
      | succ i => simp [matR] at hi1
    | x :: y :: r, css, hl => exact ⟨pl, by simpa [matR] using hi, hl, fun i av cs h1 h2 => by simpa [matR] using hr i av cs h1 h2, rfl⟩

end

theorem results_sound (hT : thOk P C = true) {w0 : World} {S0 O0 : Nat → Prop} {pl0 : List Value} {s : St} {a : Act} {w : World} {S : Nat → Prop} {pl1 : List Value} (hi0 : Inv C w0 S0 O0 pl0 s a w S pl1) {fn : Func} {l0 : List AV} (hl : resAVs C s fn.results.toList = some l0)
    {many : Bool} {res : Sh} {av : AV} (hav : resAV many (matR many s.tab res l0).1 = some av) (hc : many = true → res.chain = true) :
    ∃ pl, Inv C w0 S0 O0 pl0 ⟨s.env, s.tab ++ (matR many s.tab res l0).2, []⟩ a w S pl ∧ ∀ {r : res.T} {idx lents : List Nat}, res.dec (s.tab ++ (matR many s.tab res l0).2) av = some (r, idx, lents) → ∀ {n : Nat} {tc : List Ent} {plc : List Value}, At res r n idx pl tc plc →
    ∃ v, (results fn a.tmps).run P w = .ok v w ∧ (resSV many (res.enc r n).1).R w (fun b => S b ∨ Lent (s.tab ++ (matR many s.tab res l0).2) pl lents b) tc plc v := by
  obtain ⟨css, hh1, hh2, h3⟩ := resAVs_sound hT hi0 (g := resG a) (fun _ => rfl) (fun _ _ => rfl) hl
  obtain ⟨pl, hi, h1, h2, hz⟩ := matR_sound (many := many) (sh := res) (env := s.env) (tab := s.tab) hi0.drop hh1 hh2
  refine ⟨pl, hi, fun {r idx lents} hd {n tc plc} hat => ?_⟩
  rw [← hz] at h3
  generalize (matR many s.tab res l0).1 = l at hav h1 h2 h3
  have hres : (results fn a.tmps).run P w = .ok (if h : ((l.zip css).map fun p => pack p.1.isAgg p.2).toArray.size = 1 then ((l.zip css).map fun p => pack p.1.isAgg p.2).toArray[0] else .tuple ((l.zip css).map fun p => pack p.1.isAgg p.2).toArray) w := by
    rw [results_eq, Array.mapM_eq_mapM_toList, Sem.run_bind]
    have : (List.toArray <$> (fn.results.toList.mapM (resG a))).run P w = .ok ((l.zip css).map fun p => pack p.1.isAgg p.2).toArray w := by
      rw [map_eq_pure_bind, Sem.run_bind, h3]
      simp only [Result.andThen_ok, Sem.run_pure]
    rw [this]
    simp only [Result.andThen_ok, Sem.run_pure]
  refine ⟨_, hres, ?_⟩
  unfold resAV at hav
  split at hav
  · -- one result
    obtain rfl := Option.some.inj hav
    obtain ⟨cs, rfl⟩ : ∃ cs, css = [cs] := by
      match css, h1 with
      | [cs], _ => exact ⟨cs, rfl⟩
    have hr := h2 0 _ cs rfl rfl
    have := (dec_sound (tc := tc) (plc := plc) hi.hp hd (n := n)).2.2.1 hat hr
    exact ⟨cs, this, by simp [dec_agg hd]⟩
  · cases hav
  · rename_i hne
    obtain rfl := Option.some.inj hav
    have hne1 : l.length ≠ 1 := fun h => by
      match l, h with
      | [x], _ => exact hne x rfl
    obtain ⟨g1, g2⟩ := args_sound hi.hp (hc rfl) hd hat h1 h2
    refine ⟨(l.zip css).map fun p => pack p.1.isAgg p.2, ?_, g1, g2⟩
    rw [dif_neg]
    simp only [List.size_toArray, List.length_map, List.length_zip, h1, Nat.min_self]
    exact hne1
  · cases hav

/-- The state in which a function begins. -/
theorem start_ok {ins : Sh} {x : ins.T} (hc : ins.chain = true) (hlen : ins.len ≤ C.n) (hm : C.m = ins.n) {w : World} {S : Nat → Prop} {pl vs : List Value} (hp : Hp w S (ins.enc x 0).2 pl) (ha : ArgsR w S (ins.enc x 0).2 pl (ins.enc x 0).1.list vs) :
    Ok C w S (fun b => ∃ i, Own (ins.enc x 0).2 pl i b) pl ⟨envOf 0 (ins.enc x 0).1.list, (ins.enc x 0).2, []⟩ { tmps := vs.toArray ++ Array.replicate (C.n - vs.toArray.size) undef, defers := [] } w := by
  obtain ⟨h1, h2⟩ := ha
  rw [enc_list_length hc] at h1
  refine ⟨⟨S, pl, hp, Fr.refl w _, fun i b ho => .inl ⟨i, ho⟩, fun i _ hv h => h, fun i b hmi ho => ?_, fun b hb => hb, fun b hb => .inl hb, fun t v T hl hT => ?_, ?_, rfl, PendsR.nil rfl⟩, fun t v T hl hn => ?_⟩
  · obtain ⟨e, hv, g1, _⟩ := ho
    have := (List.getElem?_eq_some_iff.1 g1).1
    rw [Sh.enc_length] at this
    omega
  · simp only [look_envOf, Nat.zero_le, if_true, Nat.sub_zero, Option.map_eq_some_iff, Prod.mk.injEq] at hl
    obtain ⟨av, g1, rfl, rfl⟩ := hl
    have hlt : t < vs.length := by rw [h1, ← enc_list_length hc x 0]; exact (List.getElem?_eq_some_iff.1 g1).1
    refine ⟨vs[t], ?_, h2 t av vs[t] g1 (List.getElem?_eq_getElem hlt)⟩
    show (vs.toArray ++ Array.replicate (C.n - vs.toArray.size) undef)[t]? = _
    rw [Array.getElem?_append_left (by simpa using hlt)]
    simp
  · show (vs.toArray ++ Array.replicate (C.n - vs.toArray.size) undef).size = C.n
    simp only [Array.size_append, List.size_toArray, Array.size_replicate]
    omega
  · simp only [look_envOf, Nat.zero_le, if_true, Nat.sub_zero, Option.map_eq_some_iff, Prod.mk.injEq] at hl
    obtain ⟨av, g1, rfl, rfl⟩ := hl
    exact absurd holds_nil hn

/-- What is asked of a function and of its frame. -/
structure Fits (P : Program) (C : Ctx) (f : FuncId) (fn : Func) (body : Code) (ins res : Sh) (many : Bool) : Prop where
  th : thOk P C = true
  mixed : P.follows .mixedOrders = true
  draws : drawsOk C body = true
  func : P.funcs[f]? = some fn
  body : fn.body = some body
  name : (fn.name == "runtime.NumGoroutine") = false
  n : fn.ntmps = C.n
  m : C.m = ins.n
  fx : C.fx = ins.fx 0
  len : Nat.ble ins.len C.n = true
  chain : ins.chain = true
  many : (!many || res.chain) = true

theorem Fits.go {f : FuncId} {fn : Func} {body : Code} {ins res : Sh} {many : Bool} (h : Fits P C f fn body ins res many) (args : Array Value) (w : World) : (callFunc f args).run P w = .ok (.enter f args) w := by
  unfold callFunc
  have hb : fn.body.isNone = false := by rw [h.body]; rfl
  have hn : fn.name ≠ "runtime.NumGoroutine" := by have := h.name; simpa using this
  have hb' : fn.body ≠ none := by rw [h.body]; simp
  simp [Sem.run_bind, h.func, hn, hb']

theorem does_of_run {f : FuncId} {fn : Func} {body : Code} {ins res : Sh} {many : Bool} (hF : Fits P C f fn body ins res many) (hS : Sigs P C) {x x' : ins.T} {r : res.T} {A : Type} {K : Ex → St → Option A} {r0 : A}
    (h : run C body ⟨envOf 0 (ins.enc x 0).1.list, (ins.enc x 0).2, []⟩ K = some r0)
    (hK : ∀ e s, K e s = some r0 → ends e = true ∧ ∀ {w : World} {S : Nat → Prop} {pl : List Value} {a : Act} {w' : World}, Hp w S (ins.enc x 0).2 pl → Ok C w S (fun b => ∃ i, Own (ins.enc x 0).2 pl i b) pl s a w' → ∃ v, (results fn a.tmps).run P w' = .ok v w' ∧ Back ins res many x r x' w S pl v w') :
    Does P f ins res many x r x' := by
  intro w S pl vs hp ha
  have hst := start_ok (C := C) hF.chain (Nat.le_of_ble_eq_true hF.len) hF.m hp ha
  refine calls_of_wp hF.func hF.body (wp_mono (run_sound hF.th hS hF.mixed (fun i hi => by rw [hF.fx] at hi; rw [hF.m]; have := fx_lt hi; omega) body hF.draws h (by rw [hF.n]; exact hst)) fun e a' w' hp' => ?_)
  have fin : ∀ {e : Ex} {s : St}, K e s = some r0 → Ok C w S (fun b => ∃ i, Own (ins.enc x 0).2 pl i b) pl s a' w' → a'.defers = [] ∧ ∃ v, (results fn a'.tmps).run P w' = .ok v w' ∧ ∃ v', Ending.returned v = .returned v' ∧ Back ins res many x r x' w S pl v' w' := fun {e s} hk hok => by
    obtain ⟨v, h1, h2⟩ := (hK e s hk).2 hp hok
    exact ⟨hok.1.choose_spec.choose_spec.defers, v, h1, v, rfl, h2⟩
  cases e with
  | normal => obtain ⟨s, h1, h2⟩ := hp'; exact fin h2 h1
  | ret => obtain ⟨s, h1, h2⟩ := hp'; exact fin h2 h1
  | exit id => obtain ⟨s, h1, h2⟩ := hp'; have := (hK _ s h2).1; cases this
  | _ => exact hp'.elim

end
end Go.Lg
