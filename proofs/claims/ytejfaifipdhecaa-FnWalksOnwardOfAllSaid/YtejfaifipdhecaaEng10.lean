/-
  The operations that change the table do what the interpreter says.
-/
import Derived.Test.YtejfaifipdhecaaEng9
set_option linter.unusedVariables false
set_option linter.unusedSimpArgs false
namespace Go.Lg
open Go.RowKit

theorem has_iff {i : Nat} : ∀ {l : List Nat}, has i l = true ↔ i ∈ l
  | [] => by simp [has]
  | j :: r => by
    simp only [has, List.mem_cons]
    cases h : Nat.beq j i with
    | true => simp [Nat.eq_of_beq_eq_true h]
    | false =>
      have hne := Nat.ne_of_beq_eq_false h
      simp only [has_iff (l := r)]
      constructor
      · exact .inr
      · rintro (rfl | h)
        · exact absurd rfl hne
        · exact h

theorem has_false {i : Nat} {l : List Nat} (h : has i l = false) : i ∉ l := fun hm => by rw [has_iff.2 hm] at h; cases h

/-! ### slots written -/

theorem mem_of_look {t : Nat} {x : SV × PC} : ∀ {env : Env}, look t env = some x → (t, x) ∈ env
  | [], h => by simp [look] at h
  | (u, y) :: r, h => by
    rw [look_cons] at h
    split at h
    · rename_i e; subst e; obtain rfl := Option.some.inj h; simp
    · exact List.mem_cons_of_mem _ (mem_of_look h)

theorem dstOk_sub {C : Ctx} {s : St} {G : PC} {d : Option Tmp} {i : Nat} {r : AV} {tab : List Ent} : dstOk C { s.sub i r with tab := tab } G d = dstOk C s G d := by
  cases d with
  | none => rfl
  | some t => simp [dstOk, St.sub, List.all_map, Function.comp_def]

section
variable {C : Ctx} {w0 : World} {S0 O0 : Nat → Prop} {pl0 : List Value} {s : St} {a : Act} {w : World} {S : Nat → Prop} {pl : List Value}

theorem Inv.put (hi : Inv C w0 S0 O0 pl0 s a w S pl) {d : Option Tmp} {v : SV} {G : PC} {u : Value} (hd : dstOk C s G d = true) (hv : v.R w S s.tab pl u ∨ ¬ Holds a.tmps G) : Inv C w0 S0 O0 pl0 (s.put d v G) (a.put d u) w S pl := by
  cases d with
  | none => exact hi
  | some t =>
    simp only [dstOk, Bool.and_eq_true, List.all_eq_true, Bool.not_eq_true'] at hd
    obtain ⟨⟨⟨h1, h2⟩, h3⟩, h4⟩ := hd
    have hlt : t < a.tmps.size := by rw [hi.size, ← Nat.blt_eq]; exact h1
    refine ⟨hi.hp, hi.fr, hi.own, hi.fix, hi.fresh, hi.up, hi.sub, ?_, by simp [Act.put, hi.size], hi.defers, hi.pend.keep hi.hp (fun _ _ => rfl) (Nat.le_refl _) (fun _ h => h) (fun _ h => .inl h) fun p hp => ?_⟩
    case refine_2 =>
      have : t ≠ p.d := Ne.symm (Nat.ne_of_beq_eq_false (h4 p hp))
      exact Array.getElem?_setIfInBounds_ne this
    refine hi.env.put hlt (hv.imp id fun hn hh => hn fun p hp => ?_) fun t' x T hl p hp => Nat.ne_of_beq_eq_false (h3 (t', x, T) (mem_of_look hl) p hp)
    have := hh p hp
    rwa [Array.getElem?_setIfInBounds_ne (Ne.symm (Nat.ne_of_beq_eq_false (h2 p hp)))] at this

/-- From the state before an operation to the one behind it, its slot not yet written. -/
theorem Inv.to (hi : Inv C w0 S0 O0 pl0 s a w S pl) {s' : St} {w' : World} {S' : Nat → Prop} {pl' : List Value} (hp : Hp w' S' s'.tab pl') (hfr : Fr w (fun b => ∃ i, Own s.tab pl i b) w')
    (hown : ∀ i b, Own s'.tab pl' i b → (Own s.tab pl i b) ∨ w.heap.size ≤ b) (hup : ∀ b, S b → S' b)
    (hfix : ∀ i ∈ C.fx, ∀ hv : Value, pl[i]? = some hv → pl'[i]? = some hv) (henv : EnvR w' S' s'.tab pl' s'.env a.tmps) (hs' : ∀ b, S' b → S b ∨ w.heap.size ≤ b ∨ w0.heap.size ≤ b) (hpd : s'.pd = [] := by assumption) : Inv C w0 S0 O0 pl0 s' a w' S' pl' :=
  ⟨hp, hi.fr.step hfr (fun b ⟨i, ho⟩ => hi.own i b ho), fun i b ho => (hown i b ho).elim (fun h => hi.own i b h) (fun h => .inr (Nat.le_trans hi.fr.size h)), fun i hm hv h => hfix i hm hv (hi.fix i hm hv h), fun i b hm ho => (hown i b ho).elim (fun h => hi.fresh i b hm h) (fun h => Nat.le_trans hi.fr.size h), fun b hb => hup b (hi.up b hb),
    fun b hb => (hs' b hb).elim (hi.sub b) (fun h => .inr (h.elim (Nat.le_trans hi.fr.size) id)), henv, hi.size, hi.defers, PendsR.nil hpd⟩

end

/-! ### the elements of a slice that is appended, copied -/

section
variable {w : World} {S : Nat → Prop} {tab : List Ent} {pl : List Value}

theorem Cells.flatten {b o size : Nat} : ∀ {css : List (List Value)}, (∀ (i : Nat) (cs : List Value), css[i]? = some cs → cs.length = size) → (∀ (i : Nat) (cs : List Value), css[i]? = some cs → Cells w b (o + i * size) cs) → Cells w b o css.flatten
  | [], _, _ => by simpa using Cells.nil
  | c :: r, hl, h => by
    simp only [List.flatten_cons]
    refine Cells.append.2 ⟨by simpa using h 0 c rfl, ?_⟩
    rw [hl 0 c rfl]
    refine Cells.flatten (size := size) (fun i cs hi => hl (i + 1) cs (by simpa using hi)) (fun i cs hi => ?_)
    have := h (i + 1) cs (by simpa using hi)
    rw [Nat.succ_mul] at this
    rwa [Nat.add_assoc, Nat.add_comm size]

/-- A slice of stable memory: where its elements lie. -/
theorem stable_elems {e : Ty} {ys : List e.T} {cs : List Value} (hr : (Ty.sl e).R w S cs ys) :
    ∃ ad c css, cs = [.slice ad ys.length c] ∧ Elems w S e css ys ∧ (ys.length = 0 ∨ ∃ b o, ad = some ⟨b, o, none⟩ ∧ Cells w b o css.flatten) := by
  simp only [Ty.R] at hr
  obtain ⟨ad, n, c, rfl, rfl, hc, hel⟩ := hr
  rcases hel with rfl | ⟨b, o, rfl, hb, hel⟩
  · exact ⟨ad, c, [], rfl, ⟨rfl, fun i cs x hi => by simp at hi⟩, .inl rfl⟩
  · have hch : ∀ i : Nat, ∃ ces : List Value, ∀ x, ys[i]? = some x → Cells w b (o + i * e.size) ces ∧ e.R w S ces x := fun i => by
      cases hx : ys[i]? with
      | none => exact ⟨[], fun x hx' => by cases hx'⟩
      | some x => obtain ⟨ces, h1⟩ := hel i x hx; exact ⟨ces, fun x' hx' => by obtain rfl := Option.some.inj hx'; exact h1⟩
    obtain ⟨f, hf⟩ := Classical.axiomOfChoice hch
    have hel' : Elems w S e ((List.range ys.length).map f) ys := ⟨by simp, fun i cs x hi hx => by
      simp only [List.getElem?_map, Option.map_eq_some_iff] at hi
      obtain ⟨j, hj, rfl⟩ := hi
      have hij : j = i := by
        have := List.getElem?_eq_some_iff.1 hj
        obtain ⟨hlt, he⟩ := this
        simpa using he.symm
      subst hij
      exact (hf j x hx).2⟩
    refine ⟨_, c, (List.range ys.length).map f, rfl, hel', .inr ⟨b, o, rfl, Cells.flatten hel'.lens fun i cs hi => ?_⟩⟩
    simp only [List.getElem?_map, Option.map_eq_some_iff] at hi
    obtain ⟨j, hj, rfl⟩ := hi
    obtain ⟨hlt, he⟩ := List.getElem?_eq_some_iff.1 hj
    have hij : j = i := by simpa using he.symm
    subst hij
    have hlt' : j < ys.length := by simpa using hlt
    exact (hf j ys[j] (List.getElem?_eq_getElem hlt')).1

/-- A slice that reads as ys: where its elements lie. -/
theorem toVal_elems (hp : Hp w S tab pl) {e : Ty} {q : AV} {ys : List e.T} {l : List Nat} {cs : List Value} (hq : q.notTop = true) (h : q.toVal tab (.sl e) = some (ys, l)) (hr : q.R w S tab pl cs) :
    ∃ ad c css, cs = [.slice ad ys.length c] ∧ Elems w S e css ys ∧ (ys.length = 0 ∨ ∃ b o, ad = some ⟨b, o, none⟩ ∧ Cells w b o css.flatten) := by
  cases q with
  | nsl eid e' =>
    simp only [AV.toVal] at h
    split at h
    · simp only [Option.some.injEq, Prod.mk.injEq] at h
      obtain ⟨rfl, rfl⟩ := h
      simp only [AV.R] at hr
      exact ⟨none, 0, [], hr, ⟨rfl, fun i cs x hi => by simp at hi⟩, .inl rfl⟩
    · cases h
  | own i =>
    simp only [AV.toVal] at h
    split at h
    · rename_i eid e' xs hb
      simp only [Option.map_eq_some_iff, Prod.mk.injEq] at h
      obtain ⟨y, hy, rfl, rfl⟩ := h
      obtain ⟨he, rfl⟩ := castT_some hy
      cases he
      simp only [AV.R] at hr
      obtain ⟨_, _, _, hv, g1, g2, ⟨ad, n, c, rfl⟩, rfl⟩ := hr
      obtain ⟨css, hrow, hel⟩ := hp.ent i _ _ hb g2
      rcases hrow.2 with ⟨h2, h3⟩ | ⟨g, o, cap, cur, h2, hg, hn, hm, hsz, htk⟩
      · cases h2
        exact ⟨none, 0, css, by rw [h3], hel, .inl h3⟩
      · cases h2
        exact ⟨_, _, css, rfl, hel, .inr ⟨g, o, rfl, Cells.flatten hel.lens fun i cs hi => hrow.cells hel rfl hi⟩⟩
    · cases h
  | xr i t =>
    cases t with
    | top => cases hq
    | cell j => simp [AV.toVal] at h
    | row j =>
      simp only [AV.R] at hr
      obtain ⟨_, _, _, _, outer, hs, c, g1, g2, g3, rfl⟩ := hr
      simp only [AV.toVal] at h
      split at h
      · rename_i eid0 eid e' xss hb
        simp only [Option.map_eq_some_iff, Prod.mk.injEq] at h
        obtain ⟨y, hy, rfl, rfl⟩ := h
        obtain ⟨he, rfl⟩ := castT_some hy
        cases he
        obtain ⟨h0, h1, ad, n, cp, rfl⟩ := XT.row_inv g3
        have hro := hp.rows hb g2
        have hjl : j.toNat < xss.length := by rw [← hro.len]; exact (List.getElem?_eq_some_iff.1 h1).1
        obtain ⟨_, css, hrow, hel⟩ := hro.rows j.toNat _ xss[j.toNat] h1 (List.getElem?_eq_getElem hjl)
        have hgd : xss.getD j.toNat [] = xss[j.toNat] := by simp [List.getD, List.getElem?_eq_getElem hjl]
        show ∃ ad' c' css', [Value.slice ad n cp] = [Value.slice ad' (xss.getD j.toNat []).length c'] ∧ Elems w S _ css' (xss.getD j.toNat []) ∧ ((xss.getD j.toNat []).length = 0 ∨ ∃ b o, ad' = some ⟨b, o, none⟩ ∧ Cells w b o css'.flatten)
        rw [hgd]
        rcases hrow.2 with ⟨h2, h3⟩ | ⟨g, o, cap, cur, h2, hg, hn, hm, hsz, htk⟩
        · cases h2
          exact ⟨none, 0, css, by rw [h3], hel, .inl h3⟩
        · cases h2
          exact ⟨_, _, css, rfl, hel, .inr ⟨g, o, rfl, Cells.flatten hel.lens fun i cs hi => hrow.cells hel rfl hi⟩⟩
      · cases h
  | val t' y =>
    simp only [AV.toVal, Option.map_eq_some_iff, Prod.mk.injEq] at h
    obtain ⟨z, hz, rfl, rfl⟩ := h
    obtain ⟨he, rfl⟩ := castT_some hz
    subst he
    obtain ⟨ad, n, c, rfl, rfl, hc, hel⟩ := AV.R.val_sl hr
    rcases hel with rfl | ⟨b, o, rfl, hb, hel⟩
    · exact ⟨ad, c, [], rfl, ⟨rfl, fun i cs x hi => by simp at hi⟩, .inl rfl⟩
    · have hch : ∀ i : Nat, ∃ ces : List Value, ∀ x, y[i]? = some x → Cells w b (o + i * e.size) ces ∧ e.R w S ces x := fun i => by
        cases hx : y[i]? with
        | none => exact ⟨[], fun x hx' => by cases hx'⟩
        | some x => obtain ⟨ces, h1⟩ := hel i x hx; exact ⟨ces, fun x' hx' => by obtain rfl := Option.some.inj hx'; exact h1⟩
      obtain ⟨f, hf⟩ := Classical.axiomOfChoice hch
      have hel' : Elems w S e ((List.range y.length).map f) y := ⟨by simp, fun i cs x hi hx => by
        simp only [List.getElem?_map, Option.map_eq_some_iff] at hi
        obtain ⟨j, hj, rfl⟩ := hi
        have hij : j = i := by
          have := List.getElem?_eq_some_iff.1 hj
          obtain ⟨hlt, he⟩ := this
          simpa using he.symm
        subst hij
        exact (hf j x hx).2⟩
      refine ⟨_, c, (List.range y.length).map f, rfl, hel', .inr ⟨b, o, rfl, Cells.flatten hel'.lens fun i cs hi => ?_⟩⟩
      simp only [List.getElem?_map, Option.map_eq_some_iff] at hi
      obtain ⟨j, hj, rfl⟩ := hi
      obtain ⟨hlt, he⟩ := List.getElem?_eq_some_iff.1 hj
      have hij : j = i := by simpa using he.symm
      subst hij
      have hlt' : j < y.length := by simpa using hlt
      exact (hf j y[j] (List.getElem?_eq_getElem hlt')).1
  | _ => simp [AV.toVal] at h

theorem Elems.step' {w' : World} {S' : Nat → Prop} (hp : Hp w S tab pl) (hS : ∀ b, S b → S' b ∧ w'.heap[b]? = w.heap[b]?) {e : Ty} {css : List (List Value)} {xs : List e.T} (h : Elems w S e css xs) : Elems w' S' e css xs :=
  h.step (fun b hb _ => hS b hb) hp.stable

end

section ops
variable {P : Program} {C : Ctx} (hT : thOk P C = true) {w0 : World} {S0 O0 : Nat → Prop} {pl0 : List Value} {s : St} {a : Act} {w : World} {S : Nat → Prop} {pl : List Value}

theorem holds_nil {tmps : Array Value} : Holds tmps [] := fun p hp => by simp at hp

theorem thOk_elem (hT : thOk P C = true) {t eid : TypeId} {e : Ty} (hf : find t C.th = some (.sl e)) (hs : find t C.se = some eid) :
    ∃ i, P.underlying t = some (.slice eid) ∧ TyOk P C eid e (P.underlying eid |>.getD .invalid) i ∧ 0 < e.size := by
  obtain ⟨d, i, hi⟩ := thOk_find hT hf
  obtain ⟨eid', rfl, h1, h2, h3⟩ := hi.slice'
  rw [hs] at h1
  obtain rfl := Option.some.inj h1
  obtain ⟨d', i', hi'⟩ := thOk_find hT h2
  refine ⟨i', hi.under, ?_, h3⟩
  rw [hi'.under]
  exact hi'

theorem castD_self {t : Ty} {x : t.T} : castD t t x = x := by simp [castD]

theorem zero_cells {t : Ty} : (pack t.isAgg t.zero).cells = t.zero.toArray := by
  cases t <;> rfl

theorem opAppend_sound (hT : thOk P C = true) (hi : Inv C w0 S0 O0 pl0 s a w S pl) (hpd : s.pd = []) {dst : Option Tmp} {t ty : TypeId} {x y : Operand} {g : Option Bool} {s' : St} (h : opAppend C s dst t x y = some (g, s')) (hg : g ≠ some false)
    (hd : dstOk C s [] dst = true) :
    ∃ u w', (Builtin.append_ #[t, t] ty #[a.eval x, a.eval y]).run P w = .ok u w' ∧ ∃ S' pl', Inv C w0 S0 O0 pl0 s' (a.put dst u) w' S' pl' := by
  unfold opAppend at h
  split at h
  · rename_i e eid p q hf hs hx hy
    obtain ⟨ti, hu, hti, hsz⟩ := thOk_elem hT hf hs
    obtain ⟨cy, hy1, hy2⟩ := av_sound hi.env holds_nil hy
    obtain ⟨cx, hx1, hx2⟩ := av_sound hi.env holds_nil hx
    have hz := hti.zero
    split at h
    · rename_i ys l hqt hq
      obtain ⟨ad, c, dss, rfl, hel, hloc⟩ := toVal_elems hi.hp hqt hq hy1
      have hqa : q.isAgg = false := toVal_agg hq
      have hev : a.eval y = .slice ad ys.length c := by rw [hy2, hqa]; rfl
      have hlen : dss.flatten.length = ys.length * ti.size := by rw [flatten_length hel.lens, hel.1, hti.size]
      have hnews : ys.length = 0 ∨ ∃ ad', ad = some ad' ∧ ∀ j u, dss.flatten[j]? = some u → w.cell? (ad'.add j) = some u := by
        rcases hloc with h0 | ⟨b, o, rfl, hc⟩
        · exact .inl h0
        · exact .inr ⟨_, rfl, fun j u hj => by rw [Addr.add_lit]; exact hc j u hj⟩
      have row := fun {hv : Value} {n : Nat} {xs : List Value} (hr : Row w eid ti.size hv n xs) (hle : n + ys.length ≤ LIM) =>
        run_append_row (P := P) w t ty eid ti (pack e.isAgg e.zero) hu hti.info hz (by rw [zero_cells]; simp [e.zero_length, hti.size]) (by rw [hti.size]; exact hsz) hti.bytes (c := c) hr hlen hnews hel.oneCell hle
      split at h
      · rename_i i
        split at h
        · rename_i eid' e' xs hb
          split at h
          · rename_i hee
            obtain ⟨rfl, rfl, hfxi⟩ := hee
            simp only [Option.some.injEq, Prod.mk.injEq] at h
            obtain ⟨rfl, rfl⟩ := h
            simp only [castD_self] at hg ⊢
            have hle : xs.length + ys.length ≤ LIM := Nat.not_lt.1 fun k => hg (by simp [Nat.not_le.2 k])
            simp only [AV.R] at hx1
            obtain ⟨_, _, _, hv, g1, g2, ⟨ad0, n0, c0, rfl⟩, rfl⟩ := hx1
            have hevx : a.eval x = .slice ad0 n0 c0 := by rw [hx2]; rfl
            obtain ⟨css, hrow, hels⟩ := hi.hp.ent i _ _ hb g2
            rw [← hti.size] at hrow
            obtain ⟨hv', w', hrun, ⟨ad', n', c', rfl⟩, hrow', hgr, hblk, _⟩ := row hrow hle
            have hown : ∀ b, blk (.slice ad0 n0 c0) = some b → Own s.tab pl i b := fun b hb' => ⟨_, _, hb, rfl, g2, hb'⟩
            have hsame : ∀ b, S b → S b ∧ w'.heap[b]? = w.heap[b]? := fun b hb' => ⟨hb', hgr.block b (hi.hp.stable b hb') fun k => hi.hp.off i b (hown b k.symm) hb'⟩
            have hwj : ∀ j b, j ≠ i → Own s.tab pl j b → w'.heap[b]? = w.heap[b]? ∧ ¬ S b := fun j b hj ho =>
              ⟨hgr.block b (hi.hp.lt ho) fun k => hj (hi.hp.inj j i b ho (hown b k.symm)), hi.hp.off j b ho⟩
            have hp' : Hp w' S (setAt i (.arr eid' e' (xs ++ ys)) (s.tab.map (Ent.sub i .dd))) (pl.set i (.slice ad' n' c')) := by
              refine hi.hp.replace hb rfl g2 (by simp) (by simp [AV.R]) hsame (fun b hb' => Nat.lt_of_lt_of_le (hi.hp.stable b hb') hgr.size) hwj (fun b _ hb' => ?_) ?_
              · have hb' : blk (.slice ad' n' c') = some b := hb'
                rcases hblk with k | k
                · rw [k] at hb'
                  exact ⟨hi.hp.off i b (hown b hb'), fun j hj ho => hj (hi.hp.inj j i b ho (hown b hb'))⟩
                · rw [k] at hb'
                  obtain rfl := Option.some.inj hb'
                  exact ⟨fun hb' => Nat.lt_irrefl _ (hi.hp.stable _ hb'), fun j _ ho => Nat.lt_irrefl _ (hi.hp.lt ho)⟩
              · refine ⟨css ++ dss, ?_, (hels.append hel).step' hi.hp hsame⟩
                rw [List.flatten_append, List.length_append, ← hti.size]
                exact hrow'
            refine ⟨_, w', by rw [hevx, hev]; exact hrun, S, pl.set i (.slice ad' n' c'), ?_⟩
            have hi' : Inv C w0 S0 O0 pl0 { s.sub i .dd with tab := setAt i (.arr eid' e' (xs ++ ys)) (s.sub i .dd).tab } a w' S (pl.set i (.slice ad' n' c')) := by
              refine hi.to hp' ⟨hgr.os, hgr.tape, hgr.output, hgr.size, fun b hb' hn => hgr.block b hb' fun k => hn ⟨i, hown b k.symm⟩⟩ (fun j b ⟨e1, v1, k1, k2, k3, k4⟩ => ?_) (fun b hb' => hb') (fun j hj hv1 hv2 => by rw [List.getElem?_set_ne (fun e => by subst e; exact has_false hfxi hj)]; exact hv2) ?_ (fun b hb' => .inl hb')
              · by_cases hj : j = i
                · subst hj
                  have hlt : j < pl.length := (List.getElem?_eq_some_iff.1 g2).1
                  rw [List.getElem?_set_self hlt] at k3
                  obtain rfl := Option.some.inj k3
                  have k4 : blk (.slice ad' n' c') = some b := k4
                  rcases hblk with k | k
                  · rw [k] at k4; exact .inl (hown b k4)
                  · rw [k] at k4; exact .inr (Nat.le_of_eq (Option.some.inj k4))
                · rw [setAt_ne hj] at k1
                  simp only [St.sub, List.getElem?_map, Option.map_eq_some_iff] at k1
                  obtain ⟨e2, k1, rfl⟩ := k1
                  rw [List.getElem?_set_ne (Ne.symm hj)] at k3
                  exact .inl ⟨e2, v1, k1, by rwa [Ent.live_sub] at k2, k3, k4⟩
              · exact hi.env.sub (fun b hb' _ => hsame b hb') hi.hp.stable (fun a ha => by rw [hb] at ha; cases ha) (fun j hj => Keep.replace hj) rfl (fun hv1 _ => by simp [AV.R])
            refine hi'.put (by rw [dstOk_sub]; exact hd) (.inl ⟨[.slice ad' n' c'], ⟨eid', e', xs ++ ys, _, ?_, ?_, ⟨_, _, _, rfl⟩, rfl⟩, rfl⟩)
            · exact setAt_self (e0 := Ent.sub i .dd (.arr eid' e' xs)) (by simp only [St.sub, List.getElem?_map, hb]; rfl)
            · exact List.getElem?_set_self (List.getElem?_eq_some_iff.1 g2).1
          · cases h
        · cases h
      · rename_i eid0 e'
        split at h
        · rename_i hee; subst hee
          simp only [Option.some.injEq, Prod.mk.injEq] at h
          obtain ⟨rfl, rfl⟩ := h
          have hle : 0 + ys.length ≤ LIM := Nat.not_lt.1 fun k => hg (by simp only [Nat.zero_add] at k; simp [Nat.not_le.2 k])
          simp only [AV.R] at hx1
          subst hx1
          have hevx : a.eval x = .slice none 0 0 := by rw [hx2]; rfl
          obtain ⟨hv', w', hrun, ⟨ad', n', c', rfl⟩, hrow', hgr, hblk, _⟩ := row (hv := .slice none 0 0) (n := 0) (xs := []) ⟨by simp, .inl ⟨rfl, rfl⟩⟩ hle
          have hall : ∀ b, b < w.heap.size → w'.heap[b]? = w.heap[b]? := fun b hb' => hgr.block b hb' (by simp [blk])
          have hb' : ∀ b, blk (.slice ad' n' c') = some b → b = w.heap.size := fun b k => by
            rcases hblk with k' | k'
            · rw [k'] at k; simp [blk] at k
            · rw [k'] at k; exact (Option.some.inj k).symm
          have hp1 : Hp w' S s.tab pl := hi.hp.grow (fun b hb => hb) (fun b hb => Nat.lt_of_lt_of_le (hi.hp.stable b hb) hgr.size) hi.hp.off (fun b hb => hall b (hb.elim (hi.hp.stable b) (fun ⟨i, ho⟩ => hi.hp.lt ho)))
          have hp' : Hp w' S (s.tab ++ [.arr eid e' ys]) (pl ++ [.slice ad' n' c']) := by
            refine hp1.push ⟨dss, ?_, hel.step' hi.hp (fun b hb => ⟨hb, hall b (hi.hp.stable b hb)⟩)⟩ fun b _ k => ?_
            · simp only [Nat.zero_add, List.nil_append] at hrow'
              rw [← hti.size]; exact hrow'
            · rw [hb' b k]
              exact ⟨fun hb => Nat.lt_irrefl _ (hi.hp.stable _ hb), fun j ho => Nat.lt_irrefl _ (hi.hp.lt ho)⟩
          refine ⟨_, w', by rw [hevx, hev]; exact hrun, S, pl ++ [.slice ad' n' c'], ?_⟩
          have hi' : Inv C w0 S0 O0 pl0 { s with tab := s.tab ++ [.arr eid e' ys] } a w' S (pl ++ [.slice ad' n' c']) := by
            refine hi.to hp' ⟨hgr.os, hgr.tape, hgr.output, hgr.size, fun b hb _ => hall b hb⟩ (fun j b ho => ?_) (fun b hb => hb) (fun j hj hv1 hv2 => by rw [List.getElem?_append_left (List.getElem?_eq_some_iff.1 hv2).1]; exact hv2) ?_ (fun b hb => .inl hb)
            · rcases (own_push hi.hp.len).1 ho with k | ⟨_, _, k⟩
              · exact .inl k
              · exact .inr (Nat.le_of_eq (hb' b k).symm)
            · exact hi.env.keep (fun b hb _ => ⟨hb, hall b (hi.hp.stable b hb)⟩) hi.hp.stable (Keep.push hi.hp.len _ _)
          refine hi'.put (by cases dst <;> exact hd) (.inl ⟨[.slice ad' n' c'], ⟨eid, e', ys, _, by simp, by rw [← hi.hp.len]; simp, ⟨_, _, _, rfl⟩, rfl⟩, rfl⟩)
        · cases h
      · cases h
    · cases h
  · cases h

end ops

end Go.Lg
