/-
  Calls, the third part: the caller's state behind a call.
-/
import Derived.Test.YtejfaifipdhecaaEng14
set_option linter.unusedVariables false
set_option linter.unusedSimpArgs false
namespace Go.Lg
open Go.RowKit

theorem enc_live : ∀ (s : Sh) (x : s.T) (n : Nat), ∀ e ∈ (s.enc x n).2, e.live = true := by
  intro s
  induction s with
  | val t => intro x n e he; simp [Sh.enc] at he
  | ref t => intro x n e he; simp [Sh.enc] at he
  | clo f s ih => intro x n e he; exact ih x n e he
  | own eid t => intro x n e he; simp [Sh.enc] at he; subst he; rfl
  | box s ih =>
    intro x n e he
    simp only [Sh.enc, List.mem_cons] at he
    rcases he with rfl | he
    · rfl
    · exact ih _ _ e he
  | pr a b iha ihb =>
    intro x n e he
    simp only [Sh.enc, List.mem_append] at he
    rcases he with he | he
    · exact iha _ _ e he
    · exact ihb _ _ e he
  | un => intro x n e he; simp [Sh.enc] at he

theorem enc_norows : ∀ (s : Sh) (x : s.T) (n : Nat), ∀ e ∈ (s.enc x n).2, ∀ a b c d, e ≠ .rows a b c d := by
  intro s
  induction s with
  | val t => intro x n e he; simp [Sh.enc] at he
  | ref t => intro x n e he; simp [Sh.enc] at he
  | clo f s ih => intro x n e he; exact ih x n e he
  | own eid t => intro x n e he; simp [Sh.enc] at he; subst he; simp
  | box s ih =>
    intro x n e he
    simp only [Sh.enc, List.mem_cons] at he
    rcases he with rfl | he
    · simp
    · exact ih _ _ e he
  | pr a b iha ihb =>
    intro x n e he
    simp only [Sh.enc, List.mem_append] at he
    rcases he with he | he
    · exact iha _ _ e he
    · exact ihb _ _ e he
  | un => intro x n e he; simp [Sh.enc] at he

/-- The kind of an entry hangs on the shape alone. -/
theorem enc_kind : ∀ (s : Sh) (x y : s.T) (n j : Nat), ((∃ eid t xs, (s.enc x n).2[j]? = some (.arr eid t xs)) → ∀ eid t xs, (s.enc x n).2[j]? = some (.arr eid t xs) → ∃ ys : List t.T, (s.enc y n).2[j]? = some (.arr eid t ys)) ∧
    (∀ c, (s.enc x n).2[j]? = some (.box c) → ∃ c', (s.enc y n).2[j]? = some (.box c')) := by
  intro s
  induction s with
  | val t => intro x y n j; exact ⟨fun _ _ _ _ h => by simp [Sh.enc] at h, fun _ h => by simp [Sh.enc] at h⟩
  | ref t => intro x y n j; exact ⟨fun _ _ _ _ h => by simp [Sh.enc] at h, fun _ h => by simp [Sh.enc] at h⟩
  | clo f s ih => intro x y n j; exact ih x y n j
  | own eid t =>
    intro x y n j
    cases j with
    | zero =>
      refine ⟨fun _ eid' t' xs h => ?_, fun c h => by simp [Sh.enc] at h⟩
      simp only [Sh.enc, List.getElem?_cons_zero, Option.some.injEq, Ent.arr.injEq] at h
      obtain ⟨rfl, rfl, _⟩ := h
      exact ⟨y, rfl⟩
    | succ j => exact ⟨fun _ _ _ _ h => by simp [Sh.enc] at h, fun _ h => by simp [Sh.enc] at h⟩
  | box s ih =>
    intro x y n j
    cases j with
    | zero => exact ⟨fun _ _ _ _ h => by simp [Sh.enc] at h, fun c h => ⟨(s.enc y (n + 1)).1, rfl⟩⟩
    | succ j =>
      simp only [Sh.enc, List.getElem?_cons_succ]
      exact ih x y (n + 1) j
  | pr a b iha ihb =>
    intro x y n j
    simp only [Sh.enc, Sh.enc_length]
    by_cases h : j < a.n
    · rw [List.getElem?_append_left (by rw [Sh.enc_length]; exact h), List.getElem?_append_left (by rw [Sh.enc_length]; exact h)]
      exact iha _ _ _ _
    · rw [List.getElem?_append_right (by rw [Sh.enc_length]; omega), List.getElem?_append_right (by rw [Sh.enc_length]; omega), Sh.enc_length, Sh.enc_length]
      exact ihb _ _ _ _
  | un => intro x y n j; exact ⟨fun _ _ _ _ h => by simp [Sh.enc] at h, fun _ h => by simp [Sh.enc] at h⟩

section
variable {P : Program} {C : Ctx} {w0 : World} {S0 O0 : Nat → Prop} {pl0 : List Value} {s : St} {a : Act} {w : World} {S : Nat → Prop} {pl : List Value}

/-- The number that an entry of the callee has with the caller. -/
def fwd (idx : List Nat) (n0 N i : Nat) : Nat := if i < n0 then nth idx i else N + (i - n0)

/-- The places behind the call. -/
def joined (pl pl' : List Value) (idx : List Nat) (n0 N k : Nat) : List Value :=
  (List.range (N + k)).map fun i => if i < N then (match pos i idx with | some j => pl'.getD j undef | none => pl.getD i undef) else pl'.getD (n0 + (i - N)) undef

theorem SV.R.mapI {w w' : World} {S S' : Nat → Prop} {tab tab' : List Ent} {pl pl' : List Value} {f : Nat → Nat} (hS : ∀ b, S b → b < w.heap.size → S' b ∧ w'.heap[b]? = w.heap[b]?) (h0 : ∀ b, S b → b < w.heap.size)
    (hk : ∀ i, i < tab.length → Ren f tab pl tab' pl' i) {many : Bool} {a : AV} {u : Value} (h : (resSV many a).R w S tab pl u) : (resSV many (a.mapI f)).R w' S' tab' pl' u := by
  cases many with
  | false => obtain ⟨cs, h, rfl⟩ := h; exact ⟨cs, h.mapI hS h0 hk, by rw [AV.mapI_agg]⟩
  | true =>
    obtain ⟨us, rfl, hl, h⟩ := h
    have hlist : ∀ a : AV, (a.mapI f).list = a.list.map (AV.mapI f) := by
      intro a
      induction a with
      | pr x y _ ih => simp [AV.mapI, AV.list, ih]
      | _ => rfl
    refine ⟨us, rfl, by rw [hlist]; simpa using hl, fun k a v hk' hv => ?_⟩
    rw [hlist] at hk'
    simp only [List.getElem?_map, Option.map_eq_some_iff] at hk'
    obtain ⟨a', ha', rfl⟩ := hk'
    obtain ⟨cs, h1, h2⟩ := h k a' v ha' hv
    exact ⟨cs, h1.mapI hS h0 hk, by rw [AV.mapI_agg]; exact h2⟩

theorem back_sound (hi : Inv C w0 S0 O0 pl0 s a w S pl) (hpd : s.pd = []) {ins res : Sh} {many : Bool} {x x' : ins.T} {r : res.T} {av : AV} {idx l : List Nat} (hd : ins.dec s.tab av = some (x, idx, l))
    (hok : (nodup idx && apart l idx && ((idx.all fun i => Nat.ble C.m i) || idx.all fun i => Nat.blt i C.m) && movesOk C.fx (ins.fx 0) idx 0 && (moved (ins.fx 0) idx 0).all fun i => isArr s.tab[i]?) = true)
    {s' : St} (hs' : (match res.flat && ins.flatO with | true => some s | false => s.freezes C.m l) = some s') {v : Value} {w' : World}
    (hb : Back ins res many x r x' w (fun b => S b ∨ Lent s.tab pl l b) (handed pl idx) v w') :
    ∃ S'' pl'', Inv C w0 S0 O0 pl0 { (s'.subL (moved (ins.fx 0) idx 0)) with tab := setMany (s'.subL (moved (ins.fx 0) idx 0)).tab idx ((ins.enc x' 0).2.map (Ent.mapI (nth idx))) ++ (res.enc r s'.tab.length).2 } a w' S'' pl'' ∧
      (resSV many (res.enc r s'.tab.length).1).R w' S'' (setMany (s'.subL (moved (ins.fx 0) idx 0)).tab idx ((ins.enc x' 0).2.map (Ent.mapI (nth idx))) ++ (res.enc r s'.tab.length).2) pl'' v ∧
      (∀ G d, dstOk C { (s'.subL (moved (ins.fx 0) idx 0)) with tab := setMany (s'.subL (moved (ins.fx 0) idx 0)).tab idx ((ins.enc x' 0).2.map (Ent.mapI (nth idx))) ++ (res.enc r s'.tab.length).2 } G d = dstOk C s G d) := by
  simp only [Bool.and_eq_true] at hok
  obtain ⟨⟨⟨⟨hn, hap⟩, hmm⟩, hmv⟩, harr⟩ := hok
  have hap' : ∀ i ∈ l, i ∉ idx := fun i hil => has_false (by simp only [apart, List.all_eq_true, Bool.not_eq_true'] at hap; exact hap i hil)
  obtain ⟨hhp, hho, hho'⟩ := hand_hp hi.hp hd hn hap'
  obtain ⟨hd1, hd2, hd3, hd4⟩ := dec_sound (tc := (ins.enc x 0).2) (plc := handed pl idx) hi.hp hd (n := 0)
  obtain ⟨S', plc, hp', hres, hfr, hup, hsub, hown, hnew, hfix⟩ := hb
  -- the state in which the call is made: frozen or not
  obtain ⟨S1, k1, k1p, k1S, k3, k4, k5, k6⟩ : ∃ S1, Inv C w0 S0 O0 pl0 s' a w S1 pl ∧ s'.pd = [] ∧ (∀ b, S b → S1 b) ∧ (∀ j b, Own s'.tab pl j b → Own s.tab pl j b) ∧ s'.tab.length = s.tab.length ∧ (∀ G d, dstOk C s' G d = dstOk C s G d) ∧
      ((res.flat && ins.flatO) = true ∧ s' = s ∧ (∀ b, S1 b ↔ S b) ∨ (res.flat && ins.flatO) = false ∧ (∀ b, S1 b ↔ S b ∨ Lent s.tab pl l b)) := by
    split at hs'
    · rename_i hf
      obtain rfl := Option.some.inj hs'
      exact ⟨S, hi, hpd, fun b hb => hb, fun _ _ h => h, rfl, fun _ _ => rfl, .inl ⟨hf, rfl, fun _ => Iff.rfl⟩⟩
    · rename_i hf
      obtain ⟨S1, q1, q1p, q2, q3, q4, q5, q6⟩ := freezes_sound hi hpd hs'
      exact ⟨S1, q1, q1p, fun b hb => (q2 b).2 (.inl hb), fun j b ho => ((q3 j b).1 ho).1, q4, q5, .inr ⟨hf, q2⟩⟩
  have kidx : ∀ i ∈ idx, (∀ eid t xs, s'.tab[i]? = some (.arr eid t xs) ↔ s.tab[i]? = some (.arr eid t xs)) ∧ (∀ b, Own s'.tab pl i b ↔ Own s.tab pl i b) ∧ ((∃ c, s'.tab[i]? = some (.box c)) ↔ ∃ c, s.tab[i]? = some (.box c)) := fun i him => by
    split at hs'
    · obtain rfl := Option.some.inj hs'
      exact ⟨fun _ _ _ => Iff.rfl, fun _ => Iff.rfl, Iff.rfl⟩
    · obtain ⟨_, _, _, q2, q3, q4, q5, q6⟩ := freezes_sound hi hpd hs'
      have hil : i ∉ l := fun h => hap' i h him
      refine ⟨fun eid t xs => q6 i eid t xs hil, fun b => ⟨fun h => ((q3 i b).1 h).1, fun h => (q3 i b).2 ⟨h, hil⟩⟩, ?_⟩
      have hlt : i < s.tab.length := by obtain ⟨e, he, _⟩ := hd2 i him; exact (List.getElem?_eq_some_iff.1 he).1
      have key : ∀ {l : List Nat} {s s' : St}, s.freezes C.m l = some s' → i ∉ l → ((∃ c, s'.tab[i]? = some (.box c)) ↔ ∃ c, s.tab[i]? = some (.box c)) := by
        intro l
        induction l with
        | nil => intro s s' h _; obtain rfl := Option.some.inj h; exact Iff.rfl
        | cons j r ih =>
          intro s s' h hn
          simp only [St.freezes] at h
          split at h
          · exact ih h (fun k => hn (List.mem_cons_of_mem _ k))
          · split at h
            · rename_i s1 hs1
              rw [ih h (fun k => hn (List.mem_cons_of_mem _ k))]
              unfold St.freeze at hs1
              have viaSub : ∀ {r : AV}, i ≠ j → ((∃ c, (setAt j .dead (s.tab.map (Ent.sub j r)))[i]? = some (.box c)) ↔ ∃ c, s.tab[i]? = some (.box c)) := fun {r} hij => by
                rw [setAt_ne hij, List.getElem?_map]
                constructor
                · rintro ⟨c, hc⟩
                  rw [Option.map_eq_some_iff] at hc
                  obtain ⟨e2, g1, g2⟩ := hc
                  cases e2 with
                  | box c' => exact ⟨c', g1⟩
                  | arr => simp [Ent.sub] at g2
                  | rows => simp [Ent.sub] at g2
                  | dead => simp [Ent.sub] at g2
                · rintro ⟨c, hc⟩
                  exact ⟨_, by rw [hc]; rfl⟩
              have hij : i ≠ j := fun e => hn (e ▸ by simp)
              split at hs1
              · obtain rfl := Option.some.inj hs1
                exact viaSub hij
              · obtain rfl := Option.some.inj hs1
                exact viaSub hij
              · rename_i c0 _ _
                obtain rfl := Option.some.inj hs1
                show (∃ c, (setAt j .dead (s.tab.map (Ent.kill j)))[i]? = some (.box c)) ↔ _
                rw [setAt_ne hij, List.getElem?_map]
                constructor
                · rintro ⟨c, hc⟩
                  rw [Option.map_eq_some_iff] at hc
                  obtain ⟨e2, g1, g2⟩ := hc
                  cases e2 with
                  | box c' => exact ⟨c', g1⟩
                  | arr => simp [Ent.kill] at g2
                  | rows => simp [Ent.kill] at g2
                  | dead => simp [Ent.kill] at g2
                · rintro ⟨c, hc⟩
                  exact ⟨_, by rw [hc]; rfl⟩
              · cases hs1
            · cases h
      exact key hs' hil
  -- names
  generalize hN : s'.tab.length = N at *
  have hlen' : (ins.enc x' 0).2.length = ins.n := Sh.enc_length _ _ _
  generalize hL : moved (ins.fx 0) idx 0 = L at *
  have hT0 : (s'.subL L).tab.length = N := by simp [St.subL, hN]
  have hidxlt : ∀ j ∈ idx, j < N := fun j hj => by
    obtain ⟨e, he, _⟩ := hd2 j hj
    have := (List.getElem?_eq_some_iff.1 he).1
    omega
  have hNt : N = s.tab.length := by omega
  -- the parts of the new table
  have tget : ∀ i, i < N → (setMany (s'.subL L).tab idx ((ins.enc x' 0).2.map (Ent.mapI (nth idx))) ++ (res.enc r N).2)[i]? = match pos i idx with | some k => ((ins.enc x' 0).2[k]?).map (Ent.mapI (nth idx)) | none => (s'.tab[i]?).map (Ent.subL L) := fun i hlt => by
    rw [List.getElem?_append_left (by rw [length_setMany, hT0]; exact hlt), setMany_get hn (by simp [hlen', hd1]) (fun j hj => by rw [hT0]; exact hidxlt j hj)]
    cases pos i idx with
    | some k => simp only [List.getElem?_map]
    | none => simp only [St.subL, List.getElem?_map]
  have tget2 : ∀ k, (setMany (s'.subL L).tab idx ((ins.enc x' 0).2.map (Ent.mapI (nth idx))) ++ (res.enc r N).2)[N + k]? = (res.enc r N).2[k]? := fun k => by
    rw [List.getElem?_append_right (by rw [length_setMany, hT0]; omega), length_setMany, hT0, Nat.add_sub_cancel_left]
  have hplen : plc.length = ins.n + res.n := by rw [hp'.len]; simp [Sh.enc_length]
  have pget : ∀ i, i < N → (joined pl plc idx ins.n N res.n)[i]? = match pos i idx with | some k => plc[k]? | none => pl[i]? := fun i hlt => by
    simp only [joined, List.getElem?_map, List.getElem?_range (show i < N + res.n by omega), Option.map_some, if_pos hlt]
    cases hpos : pos i idx with
    | some k =>
      have hk : k < plc.length := by
        have := (List.getElem?_eq_some_iff.1 (pos_some hpos)).1
        omega
      simp only [List.getD_eq_getElem?_getD, List.getElem?_eq_getElem hk, Option.getD_some]
    | none =>
      have hk : i < pl.length := by have := hi.hp.len; omega
      simp only [List.getD_eq_getElem?_getD, List.getElem?_eq_getElem hk, Option.getD_some]
  have pget2 : ∀ k, k < res.n → (joined pl plc idx ins.n N res.n)[N + k]? = plc[ins.n + k]? := fun k hk => by
    have hlt : ins.n + k < plc.length := by omega
    simp only [joined, List.getElem?_map, List.getElem?_range (show N + k < N + res.n by omega), Option.map_some, if_neg (show ¬ N + k < N by omega), Nat.add_sub_cancel_left, List.getD_eq_getElem?_getD, List.getElem?_eq_getElem hlt, Option.getD_some]
  -- the callee's entries under the caller's numbers
  have hf1 : ∀ i, i < ins.n → fwd idx ins.n N i = nth idx i := fun i hlt => by simp [fwd, hlt]
  have hf2 : ∀ k, fwd idx ins.n N (ins.n + k) = N + k := fun k => by simp only [fwd, if_neg (show ¬ ins.n + k < ins.n by omega), Nat.add_sub_cancel_left]
  have hnth : ∀ {i j : Nat}, idx[j]? = some i → nth idx j = i := fun {i j} h => by simp [nth, List.getD, h]
  have hinsE : (ins.enc x' 0).2.map (Ent.mapI (nth idx)) = (ins.enc x' 0).2.map (Ent.mapI (fwd idx ins.n N)) := (Sh.enc_congr ins x' 0 fun i hlt => by rw [Nat.zero_add, hf1 i hlt]).2
  obtain ⟨hresA, hresE⟩ := Sh.enc_mapI (f := fwd idx ins.n N) res r ins.n N fun i _ => hf2 i
  have hren : ∀ i, i < ((ins.enc x' 0).2 ++ (res.enc r ins.n).2).length → Ren (fwd idx ins.n N) ((ins.enc x' 0).2 ++ (res.enc r ins.n).2) plc (setMany (s'.subL L).tab idx ((ins.enc x' 0).2.map (Ent.mapI (nth idx))) ++ (res.enc r N).2) (joined pl plc idx ins.n N res.n) i := fun i hlt => by
    rw [List.length_append, hlen', Sh.enc_length] at hlt
    by_cases hin : i < ins.n
    · have hidx : idx[i]? = some idx[i] := List.getElem?_eq_getElem (by omega)
      have hpos := pos_at hn hidx
      have hlt' := hidxlt idx[i] (List.getElem_mem (by omega))
      have hfi : fwd idx ins.n N i = idx[i] := by rw [hf1 i hin, hnth hidx]
      refine ⟨fun hv hpl => ?_, fun e he => ?_⟩
      · rw [hfi, pget _ hlt', hpos]; exact hpl
      · rw [hfi, tget _ hlt', hpos]
        rw [List.getElem?_append_left (by rw [hlen']; exact hin)] at he
        have := congrArg (fun l : List Ent => l[i]?) hinsE
        simp only [List.getElem?_map, he, Option.map_some] at this
        simp only [he, Option.map_some, this]
    · obtain ⟨k, rfl⟩ : ∃ k, i = ins.n + k := ⟨i - ins.n, by omega⟩
      refine ⟨fun hv hpl => ?_, fun e he => ?_⟩
      · rw [hf2, pget2 k (by omega)]; exact hpl
      · rw [hf2, tget2]
        rw [List.getElem?_append_right (by rw [hlen']; omega), hlen', Nat.add_sub_cancel_left] at he
        rw [← hresE, List.getElem?_map, he]; rfl
  -- stable memory behind the call
  obtain ⟨S'', hS1, hS2, hS3, hS4, hS5⟩ : ∃ S'' : Nat → Prop, (∀ b, S1 b → S'' b) ∧ (∀ b, S'' b → S1 b ∨ w.heap.size ≤ b) ∧ (∀ b, S'' b → S' b ∨ b < w.heap.size ∧ S b) ∧
      (∀ i e hv, ((ins.enc x' 0).2 ++ (res.enc r ins.n).2)[i]? = some e → EntAt w' S' ((ins.enc x' 0).2 ++ (res.enc r ins.n).2) plc e hv → EntAt w' S'' ((ins.enc x' 0).2 ++ (res.enc r ins.n).2) plc e hv) ∧
      ((resSV many (res.enc r ins.n).1).R w' S'' ((ins.enc x' 0).2 ++ (res.enc r ins.n).2) plc v) := by
    rcases k6 with ⟨hfl, _, hS⟩ | ⟨hfl, hS⟩
    · simp only [Bool.and_eq_true] at hfl
      refine ⟨fun b => S b ∨ (w.heap.size ≤ b ∧ S' b), fun b hb => .inl ((hS b).1 hb), fun b hb => hb.elim (fun h => .inl ((hS b).2 h)) (fun h => .inr h.1), fun b hb => hb.elim (fun h => .inr ⟨hi.hp.stable b h, h⟩) (fun h => .inl h.2), fun i e hv he hent => ?_, ?_⟩
      · have hm := List.mem_of_getElem? he
        rcases List.mem_append.1 hm with hm | hm
        · exact enc_flatO hfl.2 e hm hv hent
        · exact (enc_flat hfl.1).2 e hm hv hent
      · cases many with
        | false => obtain ⟨cs, g1, g2⟩ := hres; exact ⟨cs, (enc_flat hfl.1).1 g1, g2⟩
        | true =>
          obtain ⟨us, g1, g2, g3⟩ := hres
          refine ⟨us, g1, g2, fun i a' v' hi' hv' => ?_⟩
          obtain ⟨cs, q1, q2⟩ := g3 i a' v' hi' hv'
          -- the i-th result is a part of the shape
          have : ∀ (s : Sh), s.flat = true → ∀ (y : s.T) (n i : Nat) (a' : AV), (s.enc y n).1.list[i]? = some a' → ∃ (t : Sh) (z : t.T) (m : Nat), t.flat = true ∧ a' = (t.enc z m).1 := by
            intro s
            induction s with
            | pr p q ihp ihq =>
              intro hf y n i a' h
              simp only [Sh.flat, Bool.and_eq_true] at hf
              cases i with
              | zero => simp only [Sh.enc, AV.list, List.getElem?_cons_zero, Option.some.injEq] at h; exact ⟨p, y.1, n, hf.1, h.symm⟩
              | succ i => simp only [Sh.enc, AV.list, List.getElem?_cons_succ] at h; exact ihq hf.2 y.2 _ i a' h
            | _ => intro hf y n i a' h; simp [Sh.enc, AV.list] at h
          obtain ⟨t, z, m, hft, rfl⟩ := this res hfl.1 r ins.n i a' hi'
          exact ⟨cs, (enc_flat hft).1 q1, q2⟩
    · exact ⟨S', fun b hb => hup b ((hS b).1 hb), fun b hb => (hsub b hb).imp (hS b).2 id, fun b hb => .inl hb, fun _ _ _ _ h => h, hres⟩
  have hS''lt : ∀ b, S'' b → b < w'.heap.size := fun b hb => (hS3 b hb).elim (hp'.stable b) (fun h => Nat.lt_of_lt_of_le h.1 hfr.size)
  have hst : ∀ b, S1 b → b < w.heap.size → S'' b ∧ w'.heap[b]? = w.heap[b]? := fun b hb hlt => ⟨hS1 b hb, hfr.block b hlt fun ⟨j, ho⟩ => by
    obtain ⟨i, g1, g2⟩ := hho j b ho
    exact k1.hp.off i b (((kidx i (List.mem_of_getElem? g1)).2.1 b).2 g2) hb⟩
  -- whose is a block
  have hcls : ∀ i b, Own (setMany (s'.subL L).tab idx ((ins.enc x' 0).2.map (Ent.mapI (nth idx))) ++ (res.enc r N).2) (joined pl plc idx ins.n N res.n) i b →
      (∃ k, Own ((ins.enc x' 0).2 ++ (res.enc r ins.n).2) plc k b ∧ i = fwd idx ins.n N k ∧ k < ins.n + res.n) ∨ (i < N ∧ i ∉ idx ∧ Own s'.tab pl i b) := fun i b ⟨e, hv, g1, g2, g3, g4⟩ => by
    by_cases hlt : i < N
    · rw [tget i hlt] at g1
      rw [pget i hlt] at g3
      cases hpos : pos i idx with
      | some k =>
        rw [hpos] at g1 g3
        simp only [Option.map_eq_some_iff] at g1
        obtain ⟨e0, he0, rfl⟩ := g1
        have hk := pos_some hpos
        have hklt : k < ins.n := by have := (List.getElem?_eq_some_iff.1 he0).1; omega
        exact .inl ⟨k, ⟨e0, hv, by rw [List.getElem?_append_left (by omega)]; exact he0, by rwa [Ent.mapI_live] at g2, g3, g4⟩, by rw [hf1 k hklt, hnth hk], by omega⟩
      | none =>
        rw [hpos] at g1 g3
        simp only [Option.map_eq_some_iff] at g1
        obtain ⟨e0, he0, rfl⟩ := g1
        exact .inr ⟨hlt, pos_none hpos, e0, hv, he0, by rwa [Ent.live_subL] at g2, g3, g4⟩
    · obtain ⟨k, rfl⟩ : ∃ k, i = N + k := ⟨i - N, by omega⟩
      rw [tget2] at g1
      have hk : k < res.n := by have := (List.getElem?_eq_some_iff.1 g1).1; rwa [Sh.enc_length] at this
      rw [pget2 k hk] at g3
      rw [← hresE, List.getElem?_map, Option.map_eq_some_iff] at g1
      obtain ⟨e0, he0, rfl⟩ := g1
      exact .inl ⟨ins.n + k, ⟨e0, hv, by rw [List.getElem?_append_right (by omega), hlen', Nat.add_sub_cancel_left]; exact he0, by rwa [Ent.mapI_live] at g2, g3, g4⟩, by rw [hf2], by omega⟩
  have hother : ∀ i b, i ∉ idx → Own s'.tab pl i b → b < w.heap.size ∧ w'.heap[b]? = w.heap[b]? ∧ ∀ k, ¬ Own ((ins.enc x' 0).2 ++ (res.enc r ins.n).2) plc k b := fun i b hni ho => by
    have hblt := k1.hp.lt ho
    have hnot : ∀ j, ¬ Own (ins.enc x 0).2 (handed pl idx) j b := fun j hoj => by
      obtain ⟨q, g1, g2⟩ := hho j b hoj
      have := hi.hp.inj q i b g2 (k3 i b ho)
      exact hni (this ▸ List.mem_of_getElem? g1)
    exact ⟨hblt, hfr.block b hblt fun ⟨j, hoj⟩ => hnot j hoj, fun k hk => (hown k b hk).elim (fun ⟨j, hoj⟩ => hnot j hoj) (fun h => by omega)⟩
  -- what other entries and slots say
  have hkeep : ∀ j, j ∉ L → Keep s'.tab pl (setMany (s'.subL L).tab idx ((ins.enc x' 0).2.map (Ent.mapI (nth idx))) ++ (res.enc r N).2) (joined pl plc idx ins.n N res.n) j := fun j hjL => by
    by_cases hjN : j < N
    · cases hpos : pos j idx with
      | none =>
        refine ⟨fun hv h => by rw [pget j hjN, hpos]; exact h, fun eid e xs h => ⟨xs, by rw [tget j hjN, hpos]; simp only [h, Option.map_some]; rfl, rfl⟩, fun c h => ⟨c.subL L, by rw [tget j hjN, hpos]; simp only [h, Option.map_some]; rfl⟩, fun eid0 eid e xss h => ⟨xss, by rw [tget j hjN, hpos]; simp only [h, Option.map_some]; rfl⟩⟩
      | some k =>
        have hk := pos_some hpos
        have hklt : k < ins.n := by have := (List.getElem?_eq_some_iff.1 hk).1; omega
        have hfx : k ∈ ins.fx 0 := Classical.byContradiction fun hn' => hjL (by rw [← hL]; exact mem_moved hk (by simpa using hn'))
        have hplk : (handed pl idx)[k]? = pl[j]? := handed_at hi.hp hd2 hk
        have hplc : ∀ hv, pl[j]? = some hv → plc[k]? = some hv := fun hv h => hfix k hfx hv (by rw [hplk]; exact h)
        obtain ⟨e0, he0, hl0⟩ := hd2 j (List.mem_of_getElem? hk)
        obtain ⟨hv0, hpl0, hent0⟩ := hi.hp.pl he0
        have hkx : (ins.enc x 0).2[k]? = some ((ins.enc x 0).2[k]'(by rw [Sh.enc_length]; exact hklt)) := List.getElem?_eq_getElem _
        obtain ⟨q1, q2, q3⟩ := hd4 (At.mk hi.hp hd2) k _ j hv0 hkx hk hpl0
        obtain ⟨n1, n2⟩ := enc_kind ins x x' 0 k
        refine ⟨fun hv h => by rw [pget j hjN, hpos]; exact hplc hv h, fun eid e xs h => ?_, fun c h => ?_, fun eid0 eid e xss h => ?_⟩
        · have h' := ((kidx j (List.mem_of_getElem? hk)).1 eid e xs).1 h
          -- the callee's entry is this row
          cases hE : (ins.enc x 0).2[k]'(by rw [Sh.enc_length]; exact hklt) with
          | box c =>
            obtain ⟨c', hc'⟩ := q3 c hE
            rw [h'] at hc'; cases hc'
          | dead => have := enc_live ins x 0 _ (List.getElem_mem (by rw [Sh.enc_length]; exact hklt)); rw [hE] at this; cases this
          | rows e1 e2 e3 e4 => exact absurd hE (enc_norows ins x 0 _ (List.getElem_mem (by rw [Sh.enc_length]; exact hklt)) _ _ _ _)
          | arr eid2 t2 xs2 =>
            have h2 := q2 eid2 t2 xs2 hE
            rw [h'] at h2
            simp only [Option.some.injEq, Ent.arr.injEq] at h2
            obtain ⟨rfl, rfl, h2⟩ := h2
            have hx2 : xs = xs2 := eq_of_heq h2
            subst hx2
            rw [hE] at hkx
            obtain ⟨ys, hys⟩ := n1 ⟨_, _, _, hkx⟩ _ _ _ hkx
            refine ⟨ys, by rw [tget j hjN, hpos]; simp only [hys, Option.map_some]; rfl, ?_⟩
            -- the header tells the length
            have e1 := hi.hp.ent j _ _ h' hpl0
            have e2 := hp'.ent k _ _ (by rw [List.getElem?_append_left (by rw [hlen']; exact hklt)]; exact hys) (hplc hv0 hpl0)
            obtain ⟨c1, ⟨_, r1⟩, _⟩ := e1
            obtain ⟨c2, ⟨_, r2⟩, _⟩ := e2
            rcases r1 with ⟨r1, r1'⟩ | ⟨g1, o1, cap1, cur1, r1, _⟩ <;> rcases r2 with ⟨r2, r2'⟩ | ⟨g2, o2, cap2, cur2, r2, _⟩
            · omega
            · rw [r1] at r2; cases r2
            · rw [r1] at r2; cases r2
            · rw [r1] at r2
              simp only [Value.slice.injEq] at r2
              exact r2.2.1.symm
        · have hbx := ((kidx j (List.mem_of_getElem? hk)).2.2).1 ⟨c, h⟩
          obtain ⟨c0, hc0⟩ := hbx
          cases hE : (ins.enc x 0).2[k]'(by rw [Sh.enc_length]; exact hklt) with
          | arr eid2 t2 xs2 =>
            have h2 := q2 eid2 t2 xs2 hE
            rw [hc0] at h2; cases h2
          | dead => have := enc_live ins x 0 _ (List.getElem_mem (by rw [Sh.enc_length]; exact hklt)); rw [hE] at this; cases this
          | rows e1 e2 e3 e4 => exact absurd hE (enc_norows ins x 0 _ (List.getElem_mem (by rw [Sh.enc_length]; exact hklt)) _ _ _ _)
          | box c2 =>
            rw [hE] at hkx
            obtain ⟨c', hc'⟩ := n2 c2 hkx
            exact ⟨_, by rw [tget j hjN, hpos]; simp only [hc', Option.map_some]; rfl⟩
        · exfalso
          cases hE : (ins.enc x 0).2[k]'(by rw [Sh.enc_length]; exact hklt) with
          | arr eid2 t2 xs2 =>
            have h2 := ((kidx j (List.mem_of_getElem? hk)).1 _ _ _).2 (q2 eid2 t2 xs2 hE)
            rw [h] at h2; cases h2
          | box c2 =>
            obtain ⟨c', hc'⟩ := ((kidx j (List.mem_of_getElem? hk)).2.2).2 (q3 c2 hE)
            rw [h] at hc'; cases hc'
          | dead => have := enc_live ins x 0 _ (List.getElem_mem (by rw [Sh.enc_length]; exact hklt)); rw [hE] at this; cases this
          | rows e1 e2 e3 e4 => exact enc_norows ins x 0 _ (List.getElem_mem (by rw [Sh.enc_length]; exact hklt)) _ _ _ _ hE
    · have hno : s'.tab[j]? = none := List.getElem?_eq_none (by omega)
      refine ⟨fun hv h => ?_, fun eid e xs h => (by rw [hno] at h; cases h), fun c h => (by rw [hno] at h; cases h), fun _ _ _ _ h => by rw [hno] at h; cases h⟩
      have := (List.getElem?_eq_some_iff.1 h).1
      have := hi.hp.len
      omega
  have hLarr : ∀ i ∈ L, isArr s'.tab[i]? = true := fun i hiL => by
    simp only [List.all_eq_true] at harr
    have h1 := harr i hiL
    obtain ⟨j, hj, _⟩ := moved_mem (hL ▸ hiL : i ∈ moved (ins.fx 0) idx 0)
    unfold isArr at h1
    split at h1
    · rename_i eid t xs he
      rw [((kidx i (List.mem_of_getElem? hj)).1 eid t xs).2 he]; rfl
    · cases h1
  have hjlen : (joined pl plc idx ins.n N res.n).length = N + res.n := by simp [joined]
  have hpF : Hp w' S'' (setMany (s'.subL L).tab idx ((ins.enc x' 0).2.map (Ent.mapI (nth idx))) ++ (res.enc r N).2) (joined pl plc idx ins.n N res.n) := by
    refine ⟨by rw [hjlen, List.length_append, length_setMany, hT0, Sh.enc_length], fun i e hv g1 g2 => ?_, fun i j b g1 g2 => ?_, hS''lt, fun i b g1 => ?_⟩
    · have cal : ∀ (k : Nat) (e0 : Ent), ((ins.enc x' 0).2 ++ (res.enc r ins.n).2)[k]? = some e0 → plc[k]? = some hv → EntAt w' S'' (setMany (s'.subL L).tab idx ((ins.enc x' 0).2.map (Ent.mapI (nth idx))) ++ (res.enc r N).2) (joined pl plc idx ins.n N res.n) (e0.mapI (fwd idx ins.n N)) hv := fun k e0 he0 hpk =>
        (hS4 k e0 hv he0 (hp'.ent k e0 hv he0 hpk)).mapI (fun b hb _ => ⟨hb, rfl⟩) hS''lt hren (fun _ _ _ => rfl)
      by_cases hlt : i < N
      · rw [tget i hlt] at g1
        rw [pget i hlt] at g2
        cases hpos : pos i idx with
        | some k =>
          rw [hpos] at g1 g2
          simp only [Option.map_eq_some_iff] at g1
          obtain ⟨e0, he0, rfl⟩ := g1
          have hklt : k < ins.n := by have := (List.getElem?_eq_some_iff.1 he0).1; omega
          have := congrArg (fun l : List Ent => l[k]?) hinsE
          simp only [List.getElem?_map, he0, Option.map_some, Option.some.injEq] at this
          rw [this]
          exact cal k e0 (by rw [List.getElem?_append_left (by omega)]; exact he0) g2
        | none =>
          rw [hpos] at g1 g2
          simp only [Option.map_eq_some_iff] at g1
          obtain ⟨e0, he0, rfl⟩ := g1
          exact (k1.hp.ent i e0 hv he0 g2).subL hst k1.hp.stable hLarr hkeep (fun b hl hb => (hother i b (pos_none hpos) ⟨e0, hv, he0, hl, g2, hb⟩).2.1)
      · obtain ⟨k, rfl⟩ : ∃ k, i = N + k := ⟨i - N, by omega⟩
        rw [tget2] at g1
        have hk : k < res.n := by have := (List.getElem?_eq_some_iff.1 g1).1; rwa [Sh.enc_length] at this
        rw [pget2 k hk] at g2
        rw [← hresE, List.getElem?_map, Option.map_eq_some_iff] at g1
        obtain ⟨e0, he0, rfl⟩ := g1
        exact cal (ins.n + k) e0 (by rw [List.getElem?_append_right (by omega), hlen', Nat.add_sub_cancel_left]; exact he0) g2
    · rcases hcls i b g1 with ⟨k, o1, rfl, _⟩ | ⟨_, n1, o1⟩ <;> rcases hcls j b g2 with ⟨k', o2, rfl, _⟩ | ⟨_, n2, o2⟩
      · rw [hp'.inj k k' b o1 o2]
      · exact absurd o1 ((hother j b n2 o2).2.2 k)
      · exact absurd o2 ((hother i b n1 o1).2.2 k')
      · exact k1.hp.inj i j b o1 o2
    · rcases hcls i b g1 with ⟨k, o1, rfl, _⟩ | ⟨_, n1, o1⟩
      · intro hb
        rcases hS3 b hb with h | ⟨h1, h2⟩
        · exact hp'.off k b o1 h
        · rcases hown k b o1 with ⟨j, hoj⟩ | h
          · obtain ⟨q, _, g2⟩ := hho j b hoj
            exact hi.hp.off q b g2 h2
          · omega
      · intro hb
        rcases hS2 b hb with h | h
        · exact k1.hp.off i b o1 h
        · have := k1.hp.lt o1; omega
  refine ⟨S'', joined pl plc idx ins.n N res.n, ⟨hpF, ?_, fun i b g1 => ?_, fun i hif hv h => ?_, fun i b hm g1 => ?_, fun b hb => hS1 b (k1.up b hb), fun b hb => ?_, ?_, k1.size, k1.defers, PendsR.nil k1p⟩, ?_, fun G d => ?_⟩
  · exact k1.fr.step hfr fun b ⟨j, hoj⟩ => by
      obtain ⟨q, g1, g2⟩ := hho j b hoj
      exact hi.own q b g2
  · rcases hcls i b g1 with ⟨k, o1, rfl, _⟩ | ⟨_, n1, o1⟩
    · rcases hown k b o1 with ⟨j, hoj⟩ | h
      · obtain ⟨q, _, g2⟩ := hho j b hoj
        exact hi.own q b g2
      · exact .inr (Nat.le_trans hi.fr.size h)
    · exact k1.own i b o1
  · have hpli := hi.fix i hif hv h
    have hilt : i < N := by have := (List.getElem?_eq_some_iff.1 hpli).1; have := hi.hp.len; omega
    rw [pget i hilt]
    cases hpos : pos i idx with
    | none => exact hpli
    | some k =>
      have hk := pos_some hpos
      rcases movesOk_spec (j := k) hmv hk with h1 | h1
      · rw [Nat.zero_add] at h1
        exact hfix k h1 hv (by rw [handed_at hi.hp hd2 hk]; exact hpli)
      · exact absurd hif h1
  · rcases hcls i b g1 with ⟨k, o1, rfl, hklt⟩ | ⟨_, n1, o1⟩
    · by_cases hkn : k < ins.n
      · have hkidx : idx[k]? = some idx[k] := List.getElem?_eq_getElem (by omega)
        rw [hf1 k hkn, hnth hkidx] at hm
        have hall : ∀ q ∈ idx, C.m ≤ q := by
          simp only [Bool.or_eq_true, List.all_eq_true] at hmm
          rcases hmm with h | h
          · exact fun q hq => Nat.le_of_ble_eq_true (h q hq)
          · have := h idx[k] (List.getElem_mem (by omega))
            rw [Nat.blt_eq] at this
            omega
        rcases hown k b o1 with ⟨j, hoj⟩ | h
        · obtain ⟨q, g1, g2⟩ := hho j b hoj
          exact hi.fresh q b (hall q (List.mem_of_getElem? g1)) g2
        · exact Nat.le_trans hi.fr.size h
      · exact Nat.le_trans hi.fr.size (hnew k b (by omega) o1)
    · exact k1.fresh i b hm o1
  · exact (hS2 b hb).elim (k1.sub b) fun h => .inr (Nat.le_trans hi.fr.size h)
  · exact k1.env.subL hst k1.hp.stable hLarr hkeep
  · have := SV.R.mapI (fun b hb _ => ⟨hb, rfl⟩) hS''lt hren hS5
    rwa [hresA] at this
  · rw [← k5 G d]
    cases d with
    | none => rfl
    | some t => simp [dstOk, St.subL, List.all_map, Function.comp_def]

end

end Go.Lg
