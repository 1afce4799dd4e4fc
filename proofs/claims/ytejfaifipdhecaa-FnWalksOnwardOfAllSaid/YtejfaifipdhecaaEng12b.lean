/-
  Rows that were made longer and wait to be put where they belong; slices that wait to come into the table.
-/
import Derived.Test.YtejfaifipdhecaaEng12
set_option linter.unusedVariables false
set_option linter.unusedSimpArgs false
namespace Go.Lg
open Go.RowKit

theorem nodup_cons {i : Nat} {r : List Nat} (h : nodup (i :: r) = true) : i ∉ r ∧ nodup r = true := by
  simp only [nodup, Bool.and_eq_true, Bool.not_eq_true'] at h
  exact ⟨has_false h.1, h.2⟩

section
variable {P : Program} {C : Ctx} {w0 : World} {S0 O0 : Nat → Prop} {pl0 : List Value} {s : St} {a : Act} {w : World} {S : Nat → Prop} {pl : List Value}

/-- Room behind a row is used, or memory grows: the table stays what it is. -/
theorem Hp.redo {w' : World} {tab : List Ent} (h : Hp w S tab pl) {i : Nat} {e0 : Ent} {hv : Value} {row : Option Nat} (hi : tab[i]? = some e0) (hl0 : e0.live = true) (hp : pl[i]? = some hv) (hrow : ∀ b, row = some b → blks hv b) (hg : w.grownBy w' row) (he : EntAt w' S tab pl e0 hv) : Hp w' S tab pl := by
  have hown : ∀ b, row = some b → Own tab pl i b := fun b hb => ⟨e0, hv, hi, hl0, hp, hrow b hb⟩
  have hS : ∀ b, S b → b < w.heap.size → S b ∧ w'.heap[b]? = w.heap[b]? := fun b hb hlt => ⟨hb, hg.block b hlt fun k => h.off i b (hown b k.symm) hb⟩
  refine ⟨h.len, fun j e v h1 h2 => ?_, h.inj, fun b hb => Nat.lt_of_lt_of_le (h.stable b hb) hg.size, h.off⟩
  by_cases hj : j = i
  · subst hj
    rw [hi] at h1
    rw [hp] at h2
    obtain rfl := Option.some.inj h1
    obtain rfl := Option.some.inj h2
    exact he
  · refine (h.ent j e v h1 h2).keep hS h.stable (fun k => Keep.refl tab pl k) (fun b hl hb => ?_)
    have ho : Own tab pl j b := ⟨e, v, h1, hl, h2, hb⟩
    exact hg.block b (h.lt ho) fun k => hj (h.inj j i b ho (hown b k.symm))

/-- What an append to a row does that somebody else still looks at. -/
theorem pendApp_sound (hT : thOk P C = true) (hp : Hp w S s.tab pl) (he : EnvR w S s.tab pl s.env a.tmps) {dst : Option Tmp} {t ty : TypeId} {x y : Operand} {p : Pend} (h : pendApp C s dst t x y = some (true, p)) :
    dst = some p.d ∧ ∃ u w', (Builtin.append_ #[t, t] ty #[a.eval x, a.eval y]).run P w = .ok u w' ∧ Hp w' S s.tab pl ∧ Fr w (fun b => ∃ i, Own s.tab pl i b) w' ∧ (∀ b, S b → w'.heap[b]? = w.heap[b]?) ∧
      ∀ (n0 : Nat) (tmps : Array Value), n0 ≤ w.heap.size → tmps[p.d]? = some u → ∃ b, (b = none ∨ b = some w.heap.size) ∧ PendR n0 w' S s.tab pl tmps b p := by
  unfold pendApp at h
  split at h
  · rename_i e eid d q r hf hs hx hy
    obtain ⟨ti, hu, hti, hsz⟩ := thOk_elem hT hf hs
    obtain ⟨cy, hy1, hy2⟩ := av_sound he holds_nil hy
    obtain ⟨cx, hx1, hx2⟩ := av_sound he holds_nil hx
    have hz := hti.zero
    split at h
    · rename_i ys l hqt hq
      obtain ⟨ad, c, dss, rfl, hel, hloc⟩ := toVal_elems hp hqt hq hy1
      have hqa := toVal_agg hq
      have hev : a.eval y = .slice ad ys.length c := by rw [hy2, hqa]; rfl
      have hlen : dss.flatten.length = ys.length * ti.size := by rw [flatten_length hel.lens, hel.1, hti.size]
      have hnews : ys.length = 0 ∨ ∃ ad', ad = some ad' ∧ ∀ j u, dss.flatten[j]? = some u → w.cell? (ad'.add j) = some u := by
        rcases hloc with h0 | ⟨b, o, rfl, hc⟩
        · exact .inl h0
        · exact .inr ⟨_, rfl, fun j u hj => by rw [Addr.add_lit]; exact hc j u hj⟩
      have row := fun {hv : Value} {n : Nat} {xs : List Value} (hr : Row w eid ti.size hv n xs) (hle : n + ys.length ≤ LIM) =>
        run_append_row (P := P) w t ty eid ti (pack e.isAgg e.zero) hu hti.info hz (by rw [zero_cells]; simp [e.zero_length, hti.size]) (by rw [hti.size]; exact hsz) hti.bytes (c := c) hr hlen hnews hel.oneCell hle
      -- what follows in both cases
      have fin : ∀ {i : Nat} {e0 : Ent} {hv0 h0 u : Value} {w' : World} {j : Option Int} {xs : List e.T} {css : List (List Value)}, s.tab[i]? = some e0 → e0.live = true → pl[i]? = some hv0 → (∀ b, blk h0 = some b → blks hv0 b) → Base s.tab pl i j eid e h0 → Elems w S e css xs →
          (∃ a b d, u = .slice a b d) → Row w' eid ti.size u (xs.length + ys.length) (css.flatten ++ dss.flatten) → w.grownBy w' (blk h0) → (blk u = blk h0 ∨ blk u = some w.heap.size) → EntAt w' S s.tab pl e0 hv0 →
          Hp w' S s.tab pl ∧ Fr w (fun b => ∃ i, Own s.tab pl i b) w' ∧ (∀ b, S b → w'.heap[b]? = w.heap[b]?) ∧
            ∀ (n0 : Nat) (tmps : Array Value), n0 ≤ w.heap.size → tmps[d]? = some u → ∃ b, (b = none ∨ b = some w.heap.size) ∧ PendR n0 w' S s.tab pl tmps b (.app d i j eid e (xs ++ ys)) := by
        intro i e0 hv0 h0 u w' j xs css hi hl0 hpl hblk hbase hels hsl hrow' hgr hbl hent
        have hown : ∀ b, blk h0 = some b → Own s.tab pl i b := fun b hb => ⟨e0, hv0, hi, hl0, hpl, hblk b hb⟩
        have hsame : ∀ b, S b → S b ∧ w'.heap[b]? = w.heap[b]? := fun b hb => ⟨hb, hgr.block b (hp.stable b hb) fun k => hp.off i b (hown b k.symm) hb⟩
        have hp' : Hp w' S s.tab pl := hp.redo hi hl0 hpl hblk hgr hent
        refine ⟨hp', ⟨hgr.os, hgr.tape, hgr.output, hgr.size, fun b hb hn => hgr.block b hb fun k => hn ⟨i, hown b k.symm⟩⟩, fun b hb => (hsame b hb).2, fun n0 tmps hn0 ht => ?_⟩
        have hrow2 : Row w' eid e.size u (xs ++ ys).length (css ++ dss).flatten := by
          rw [List.flatten_append, List.length_append, ← hti.size]; exact hrow'
        have hels2 : Elems w' S e (css ++ dss) (xs ++ ys) := (hels.append hel).step' hp hsame
        rcases hbl with k | k
        · exact ⟨none, .inl rfl, u, h0, css ++ dss, ht, hsl, hrow2, hels2, hbase, .inl ⟨k, rfl⟩⟩
        · exact ⟨some w.heap.size, .inr rfl, u, h0, css ++ dss, ht, hsl, hrow2, hels2, hbase, .inr ⟨w.heap.size, k, rfl, hn0, hrow2.lt k, fun hb => Nat.lt_irrefl _ (hp.stable _ hb), fun j ho => Nat.lt_irrefl _ (hp.lt ho)⟩⟩
      split at h
      · rename_i i j
        split at h
        · rename_i eid0 eid' e' xss hb
          split at h
          · rename_i hee
            obtain ⟨rfl, rfl⟩ := hee
            simp only [Option.some.injEq, Prod.mk.injEq, castD_self, decide_eq_true_eq] at h
            obtain ⟨hle, rfl⟩ := h
            simp only [AV.R] at hx1
            obtain ⟨_, _, _, _, outer, hs', c0, g1, g2, g3, rfl⟩ := hx1
            obtain ⟨h0, h1, ad0, n0, cp0, rfl⟩ := XT.row_inv g3
            have hevx : a.eval x = .slice ad0 n0 cp0 := by rw [hx2]; rfl
            have hro := hp.rows hb g2
            have hjl : j.toNat < xss.length := by rw [← hro.len]; exact (List.getElem?_eq_some_iff.1 h1).1
            have hgd : xss.getD j.toNat [] = xss[j.toNat] := by simp [List.getD, List.getElem?_eq_getElem hjl]
            have hgd' : (xss.getD j.toNat [] : List e'.T).length = xss[j.toNat].length := by rw [hgd]
            obtain ⟨_, css, hrow, hels⟩ := hro.rows j.toNat _ xss[j.toNat] h1 (List.getElem?_eq_getElem hjl)
            have hrow0 := hrow
            rw [← hti.size] at hrow
            obtain ⟨hv', w', hrun, hsl, hrow', hgr, hblk, hold⟩ := row hrow (by rw [← hgd']; exact hle)
            have hmem : Value.slice ad0 n0 cp0 ∈ (outer :: hs').toArray.toList := by simp [List.mem_of_getElem? h1]
            have hpl' : ∀ b, blk (.slice ad0 n0 cp0) = some b → blks (.tuple (outer :: hs').toArray) b := fun b hb' => ⟨_, hmem, hb'⟩
            have hsame : ∀ b, S b → b < w.heap.size → S b ∧ w'.heap[b]? = w.heap[b]? := fun b hb' hlt => ⟨hb', hgr.block b hlt fun k => hp.off i b ⟨_, _, hb, rfl, g2, hpl' b k.symm⟩ hb'⟩
            have hent : EntAt w' S s.tab pl (.rows eid0 eid' e' xss) (.tuple (outer :: hs').toArray) := by
              refine ⟨outer, hs', rfl, hro.row.step fun b hb' => hgr.block b (hro.row.lt hb') fun k => hro.off j.toNat b _ h1 k.symm hb', hro.hdr, fun j2 h2 xs2 hj2 hx2' => ?_, hro.inj, hro.off⟩
              obtain ⟨q0, css2, q1, q2⟩ := hro.rows j2 h2 xs2 hj2 hx2'
              by_cases hjj : j2 = j.toNat
              · subst hjj
                rw [h1] at hj2
                obtain rfl := Option.some.inj hj2
                rw [List.getElem?_eq_getElem hjl] at hx2'
                obtain rfl := Option.some.inj hx2'
                refine ⟨q0, css, ?_, hels.step hsame hp.stable⟩
                rw [← hti.size]; exact hold
              · exact ⟨q0, css2, q1.step fun b hb' => hgr.block b (q1.lt hb') fun k => hjj (hro.inj j2 j.toNat b h2 _ hj2 h1 hb' k.symm), q2.step hsame hp.stable⟩
            refine ⟨rfl, hv', w', by rw [hevx, hev]; exact hrun, ?_⟩
            have := fin (i := i) (j := some j) (xs := xss[j.toNat]) (css := css) hb rfl g2 hpl' ⟨eid0, xss, outer, hs', hb, g2, h0, h1⟩ hels hsl hrow' hgr hblk hent
            rw [← hgd] at this
            exact this
          · cases h
        · cases h
      · rename_i i
        split at h
        · rename_i eid' e' xs hb
          split at h
          · rename_i hee
            obtain ⟨rfl, rfl⟩ := hee
            simp only [Option.some.injEq, Prod.mk.injEq, castD_self, decide_eq_true_eq] at h
            obtain ⟨hle, rfl⟩ := h
            simp only [AV.R] at hx1
            obtain ⟨_, _, _, hv, g1, g2, ⟨ad0, n0, c0, rfl⟩, rfl⟩ := hx1
            have hevx : a.eval x = .slice ad0 n0 c0 := by rw [hx2]; rfl
            obtain ⟨css, hrow, hels⟩ := hp.ent i _ _ hb g2
            rw [← hti.size] at hrow
            obtain ⟨hv', w', hrun, hsl, hrow', hgr, hblk, hold⟩ := row hrow hle
            have hsame : ∀ b, S b → b < w.heap.size → S b ∧ w'.heap[b]? = w.heap[b]? := fun b hb' hlt => ⟨hb', hgr.block b hlt fun k => hp.off i b ⟨_, _, hb, rfl, g2, k.symm⟩ hb'⟩
            refine ⟨rfl, hv', w', by rw [hevx, hev]; exact hrun, ?_⟩
            exact fin (i := i) (j := none) (xs := xs) (css := css) hb rfl g2 (fun b hb' => hb') ⟨xs, hb, g2, _, _, _, rfl⟩ hels hsl hrow' hgr hblk ⟨css, by rw [← hti.size]; exact hold, hels.step hsame hp.stable⟩
          · cases h
        · cases h
      · cases h
    · cases h
  · cases h

/-- The same for an operation. -/
theorem pendOp_sound (hT : thOk P C = true) (hp : Hp w S s.tab pl) (he : EnvR w S s.tab pl s.env a.tmps) {o : Oper} {p : Pend} (h : pendOp C s o = some (true, p)) :
    o.dst = some p.d ∧ ∃ u w', (execOp a.eval o).run P w = .ok (.value u) w' ∧ Hp w' S s.tab pl ∧ Fr w (fun b => ∃ i, Own s.tab pl i b) w' ∧ (∀ b, S b → w'.heap[b]? = w.heap[b]?) ∧
      ∀ (n0 : Nat) (tmps : Array Value), n0 ≤ w.heap.size → tmps[p.d]? = some u → ∃ b, (b = none ∨ b = some w.heap.size) ∧ PendR n0 w' S s.tab pl tmps b p := by
  obtain ⟨dst, op, ty, pos, af, gd⟩ := o
  unfold pendOp at h
  split at h
  · rename_i args tys hop
    simp only at hop
    subst hop
    split at h
    · rename_i x y t t' hargs htys
      split at h
      · rename_i htt
        obtain rfl := Nat.eq_of_beq_eq_true htt
        have ha : args = #[x, y] := by apply Array.toList_inj.1; simpa using hargs
        have ht : tys = #[t, t] := by apply Array.toList_inj.1; simpa using htys
        subst ha ht
        obtain ⟨h1, u, w', h2, h3⟩ := pendApp_sound (ty := ty) hT hp he h
        exact ⟨h1, u, w', by simp only [execOp, resolve, invoke, builtin, Sem.run_bind, Sem.run_pure, Result.andThen_ok, List.map_toArray, List.map_cons, List.map_nil, h2], h3⟩
      · cases h
    · cases h
  · cases h

/-- A row that was made longer comes where it belongs. -/
theorem storePend_sound (hT : thOk P C = true) {p : Pend} {o : Oper} {g : Option Bool} {s' : St} (hi : Inv C w0 S0 O0 pl0 s a w S pl) (hpd : s.pd = [p]) (h : storePend C s p o = some (g, s')) (hg : g ≠ some false) (hd : dstOk C s [] o.dst = true) :
    ∃ w', (execOp a.eval o).run P w = .ok .skip w' ∧ s'.pd = [] ∧ ∃ pl', Inv C w0 S0 O0 pl0 s' (a.put o.dst undef) w' S pl' := by
  obtain ⟨dst, op, ty, pos, af, gd⟩ := o
  unfold storePend at h
  split at h
  · rename_i t x d' d i j eid e xs hop
    simp only at hop
    subst hop
    split at h
    · rename_i t' i' j' eid0 eid' e' xss hf hx hb
      split at h
      · rename_i hc
        obtain ⟨rfl, rfl, rfl, rfl, rfl, hfxi⟩ := hc
        simp only [Option.some.injEq, Prod.mk.injEq] at h
        obtain ⟨rfl, rfl⟩ := h
        have hjj : j = j' := by
          by_cases hq : j = j'
          · exact hq
          · rw [decide_eq_false hq] at hg; exact absurd rfl hg
        subst hjj
        simp only [castD_self]
        obtain ⟨dt, ti, hti⟩ := thOk_find hT hf
        obtain ⟨cx, hx1, hx2⟩ := av_sound hi.env holds_nil hx
        simp only [AV.R] at hx1
        obtain ⟨_, _, _, _, outer, hs, c, g1, g2, g3, rfl⟩ := hx1
        rw [hb] at g1
        cases g1
        obtain ⟨gb, off, n, cap, rfl, hj0, hjn, rfl⟩ := XT.cell_inv g3
        obtain ⟨bs, hbs, _⟩ := hi.pend
        have hpr := hbs (.app d' i' (some j) eid' e' xs) (by rw [hpd]; simp)
        obtain ⟨hv, h0, css, k1, ⟨va, vn, vc, rfl⟩, k3, k4, ⟨_, _, outer', hs', k5, k6, k7, k8⟩, k9⟩ := hpr
        rw [hb] at k5
        cases k5
        rw [g2] at k6
        simp only [Option.some.injEq, Value.tuple.injEq, List.toArray_inj, List.cons.injEq] at k6
        obtain ⟨rfl, rfl⟩ := k6
        have hro := hi.hp.rows hb g2
        have hn : n = xss.length := hro.n.1
        have hlen := hro.len
        have hjl : j.toNat < hs.length := by omega
        -- the store
        rcases hro.row.2 with ⟨q, _⟩ | ⟨g', o', cap', cur, q, hgb, hnc, hcm, hsz, htk⟩
        · cases q
        · cases q
          have hev : a.eval (.tmp d') = .slice va vn vc := by
            simp only [Act.eval]
            rw [Array.getD_eq_getD_getElem?, k1]; rfl
          have hbound : off + j.toNat + 1 ≤ cur.size := by omega
          have hrun := run_storeVar (P := P) hti (o := off + j.toNat) hgb (v := .slice va vn vc) (cs := [Value.slice va vn vc]) rfl (by simp [Ty.size]) (by simpa [Ty.size] using hbound) (fun u hu => by simp at hu; subst hu; simp [Value.oneCell'])
          simp only [List.length_singleton] at hrun
          generalize hcur' : (cur.toList.take (off + j.toNat) ++ [Value.slice va vn vc] ++ cur.toList.drop (off + j.toNat + 1)).toArray = cur' at hrun
          have howng : Own s.tab pl i' gb := ⟨_, _, hb, rfl, g2, _, List.mem_cons_self, rfl⟩
          have hother : ∀ b, b ≠ gb → (w.setRow gb cur').heap[b]? = w.heap[b]? := fun b hb' => setRow_other w gb b _ hb'
          have hS : ∀ b, S b → S b ∧ (w.setRow gb cur').heap[b]? = w.heap[b]? := fun b hb' => ⟨hb', hother b fun e => hi.hp.off i' gb howng (e ▸ hb')⟩
          have hownh : ∀ (k : Nat) (h : Value) (b : Nat), hs[k]? = some h → blk h = some b → Own s.tab pl i' b := fun k h b hk hb' => ⟨_, _, hb, rfl, g2, h, by simp [List.mem_of_getElem? hk], hb'⟩
          -- the block of the new row
          have hnew : ∀ b, blk (.slice va vn vc) = some b → (blk h0 = some b ∨ Nobodys w0.heap.size w S s.tab pl b) := fun b hb' => by
            rcases k9 with ⟨k9, _⟩ | ⟨b', k9, _, k10⟩
            · rw [k9] at hb'; exact .inl hb'
            · rw [k9] at hb'; obtain rfl := Option.some.inj hb'; exact .inr k10
          have hnewg : ∀ b, blk (.slice va vn vc) = some b → b ≠ gb := fun b hb' e => by
            subst e
            rcases hnew b hb' with k | k
            · exact hro.off j.toNat b h0 k8 k rfl
            · exact k.2.2.2 i' howng
          have hnewi : ∀ (k b : Nat) (h : Value), k ≠ j.toNat → hs[k]? = some h → blk h = some b → blk (.slice va vn vc) ≠ some b := fun k b h hk hkk hb' hb2 => by
            rcases hnew b hb2 with q | q
            · exact hk (hro.inj k j.toNat b h h0 hkk k8 hb' q)
            · exact q.2.2.2 i' (hownh k h b hkk hb')
          have hset : ∀ {k : Nat} {h : Value}, (hs.set j.toNat (.slice va vn vc))[k]? = some h → (k = j.toNat ∧ h = .slice va vn vc) ∨ (k ≠ j.toNat ∧ hs[k]? = some h) := fun {k h} hk => by
            by_cases e : k = j.toNat
            · subst e
              rw [List.getElem?_set_self hjl] at hk
              exact .inl ⟨rfl, (Option.some.inj hk).symm⟩
            · rw [List.getElem?_set_ne (Ne.symm e)] at hk; exact .inr ⟨e, hk⟩
          have hrow' : Row (w.setRow gb cur') eid0 1 (.slice (some ⟨gb, off, none⟩) xss.length cap) xss.length (hs.set j.toNat (.slice va vn vc)) := by
            refine ⟨by rw [List.length_set]; exact hro.row.1, .inr ⟨gb, off, cap, _, rfl, setRow_heap w gb cur _ eid0 _ hgb, hnc, hcm, ?_, ?_⟩⟩
            · rw [← hcur']
              simp only [List.size_toArray, List.length_append, List.length_take, List.length_drop, Array.length_toList, List.length_cons, List.length_nil]
              omega
            · rw [← hcur']
              have hcl : cur.toList.length = cur.size := Array.length_toList
              have := list_row_set cur.toList off j.toNat 1 (xss.length * 1) [.slice va vn vc] rfl (by omega) (by omega)
              simp only [List.length_singleton] at this
              show ((List.take (off + j.toNat) cur.toList ++ [Value.slice va vn vc] ++ List.drop (off + j.toNat + 1) cur.toList).drop off).take (xss.length * 1) = _
              rw [this, htk]
              have hl2 : j.toNat < hs.length := hjl
              rw [List.set_eq_take_append_cons_drop, if_pos hl2]
              simp
          have hp' : Hp (w.setRow gb cur') S (setAt i' (.rows eid0 eid' e' (xss.set j.toNat xs)) (s.tab.map (Ent.sub i' (.xr i' .top)))) (pl.set i' (.tuple (.slice (some ⟨gb, off, none⟩) xss.length cap :: hs.set j.toNat (.slice va vn vc)).toArray)) := by
            refine hi.hp.replace hb rfl g2 (by simp) ?_ hS (fun b hb' => by simpa using hi.hp.stable b hb') (fun k b hk ho => ⟨hother b fun e => hk (hi.hp.inj k i' b ho (e ▸ howng)), hi.hp.off k b ho⟩) (fun b _ hb' => ?_) ?_
            · refine ⟨eid0, eid', e', xss.set j.toNat xs, _, _, _, setAt_self (e0 := Ent.sub i' (.xr i' .top) (.rows eid0 eid' e' xss)) (by rw [List.getElem?_map, hb]; rfl), List.getElem?_set_self (List.getElem?_eq_some_iff.1 g2).1, rfl, rfl⟩
            · obtain ⟨h, hm, hb'⟩ := hb'
              simp only [List.mem_cons] at hm
              have done : Own s.tab pl i' b → ¬ S b ∧ ∀ k, k ≠ i' → ¬ Own s.tab pl k b := fun ho => ⟨hi.hp.off i' b ho, fun k hk hok => hk (hi.hp.inj k i' b hok ho)⟩
              rcases hm with rfl | hm
              · obtain rfl := Option.some.inj hb'; exact done howng
              · obtain ⟨k, hk⟩ := List.mem_iff_getElem?.1 hm
                rcases hset hk with ⟨rfl, rfl⟩ | ⟨hkj, hk⟩
                · rcases hnew b hb' with q | q
                  · exact done (hownh _ _ b k8 q)
                  · exact ⟨q.2.2.1, fun k _ => q.2.2.2 k⟩
                · exact done (hownh k h b hk hb')
            · refine ⟨_, _, rfl, by rw [List.length_set]; exact hrow', ⟨_, _, _, rfl⟩, fun k h ys hk hy => ?_, fun k k' b h h' hk hk' hb1 hb2 => ?_, fun k b h hk hb1 => ?_⟩
              · rcases hset hk with ⟨rfl, rfl⟩ | ⟨hkj, hk⟩
                · rw [List.getElem?_set_self (by omega)] at hy
                  obtain rfl := Option.some.inj hy
                  exact ⟨⟨_, _, _, rfl⟩, css, k3.step fun b hb' => hother b (hnewg b hb'), k4.step (fun b hb' _ => hS b hb') hi.hp.stable⟩
                · rw [List.getElem?_set_ne (Ne.symm hkj)] at hy
                  obtain ⟨q0, css2, q1, q2⟩ := hro.rows k h ys hk hy
                  exact ⟨q0, css2, q1.step fun b hb' => hother b fun e => hro.off k b h hk hb' (by rw [e]; rfl), q2.step (fun b hb' _ => hS b hb') hi.hp.stable⟩
              · rcases hset hk with ⟨rfl, rfl⟩ | ⟨hkj, hk⟩ <;> rcases hset hk' with ⟨rfl, rfl⟩ | ⟨hkj', hk'⟩
                · rfl
                · exact absurd hb1 (hnewi k' b h' hkj' hk' hb2)
                · exact absurd hb2 (hnewi k b h hkj hk hb1)
                · exact hro.inj k k' b h h' hk hk' hb1 hb2
              · rcases hset hk with ⟨rfl, rfl⟩ | ⟨hkj, hk⟩
                · intro e
                  exact hnewg b hb1 (Option.some.inj e).symm
                · exact hro.off k b h hk hb1
          have hownb : ∀ k b, Own (setAt i' (.rows eid0 eid' e' (xss.set j.toNat xs)) (s.tab.map (Ent.sub i' (.xr i' .top)))) (pl.set i' (.tuple (.slice (some ⟨gb, off, none⟩) xss.length cap :: hs.set j.toNat (.slice va vn vc)).toArray)) k b → Own s.tab pl k b ∨ w0.heap.size ≤ b := fun k b ⟨e1, v1, q1, q2, q3, q4⟩ => by
            by_cases hk : k = i'
            · subst hk
              rw [List.getElem?_set_self (List.getElem?_eq_some_iff.1 g2).1] at q3
              obtain rfl := Option.some.inj q3
              obtain ⟨h, hm, hb'⟩ := q4
              simp only [List.mem_cons] at hm
              rcases hm with rfl | hm
              · obtain rfl := Option.some.inj hb'; exact .inl howng
              · obtain ⟨k2, hk2⟩ := List.mem_iff_getElem?.1 hm
                rcases hset hk2 with ⟨rfl, rfl⟩ | ⟨hkj, hk2⟩
                · rcases hnew b hb' with q | q
                  · exact .inl (hownh _ _ b k8 q)
                  · exact .inr q.1
                · exact .inl (hownh k2 h b hk2 hb')
            · rw [setAt_ne hk, List.getElem?_map, Option.map_eq_some_iff] at q1
              obtain ⟨e2, q1, rfl⟩ := q1
              rw [List.getElem?_set_ne (Ne.symm hk)] at q3
              exact .inl ⟨e2, v1, q1, by rwa [Ent.live_sub] at q2, q3, q4⟩
          refine ⟨w.setRow gb cur', ?_, ?_, pl.set i' (.tuple (.slice (some ⟨gb, off, none⟩) xss.length cap :: hs.set j.toNat (.slice va vn vc)).toArray), ?_⟩
          · simp only [execOp, hx2, hev, pack, AV.isAgg, Bool.false_eq_true, if_false, List.headD_cons, Instr.storeAt, Instr.sureAddr, Sem.run_bind, Sem.run_pure, Result.andThen_ok, hrun]
          · cases dst <;> rfl
          · have hi' : Inv C w0 S0 O0 pl0 { s.sub i' (.xr i' .top) with tab := setAt i' (.rows eid0 eid' e' (xss.set j.toNat xs)) (s.sub i' (.xr i' .top)).tab, pd := [] } a (w.setRow gb cur') S (pl.set i' (.tuple (.slice (some ⟨gb, off, none⟩) xss.length cap :: hs.set j.toNat (.slice va vn vc)).toArray)) := by
              refine ⟨hp', hi.fr.step (O := fun b => b = gb) ⟨rfl, rfl, rfl, by simp, fun b _ hn => hother b hn⟩ (fun b e => by subst e; exact hi.own i' b howng), fun k b ho => (hownb k b ho).elim (hi.own k b) .inr, fun k hk hv1 hq => ?_, fun k b hm ho => (hownb k b ho).elim (hi.fresh k b hm) id, hi.up, hi.sub, ?_, hi.size, hi.defers, PendsR.nil rfl⟩
              · rw [List.getElem?_set_ne (fun e => by subst e; exact has_false hfxi hk)]; exact hi.fix k hk hv1 hq
              · refine hi.env.sub (fun b hb' _ => hS b hb') hi.hp.stable (fun a ha => by rw [hb] at ha; cases ha) (fun k hk => Keep.replace hk) rfl (fun hv1 hq => ?_)
                rw [g2] at hq
                obtain rfl := Option.some.inj hq
                exact ⟨eid0, eid', e', xss.set j.toNat xs, _, _, _, setAt_self (e0 := Ent.sub i' (.xr i' .top) (.rows eid0 eid' e' xss)) (by rw [List.getElem?_map, hb]; rfl), List.getElem?_set_self (List.getElem?_eq_some_iff.1 g2).1, rfl, rfl⟩
            refine hi'.put ?_ (.inl trivial)
            cases dst with
            | none => rfl
            | some d1 =>
              simp only [dstOk, Bool.and_eq_true] at hd ⊢
              refine ⟨⟨⟨hd.1.1.1, rfl⟩, ?_⟩, rfl⟩
              have := hd.1.2
              simpa [St.sub, List.all_map, Function.comp_def] using this
      · cases h
    · cases h
  · cases h

/-- New slices come into the table. -/
theorem settle_sound : ∀ {ps : List Pend} {s s' : St} {pl : List Value}, settle ps s = some s' → nodup (ps.map Pend.d) = true → s.pd = [] → Inv C w0 S0 O0 pl0 { s with pd := ps } a w S pl → s'.pd = [] ∧ ∃ pl', Inv C w0 S0 O0 pl0 s' a w S pl'
  | [], s, s', pl, h, hn, hpd, hi => by
    obtain rfl := Option.some.inj h
    refine ⟨hpd, pl, ?_⟩
    obtain ⟨env, tab, pd⟩ := s
    simp only at hpd
    subst hpd
    exact hi
  | .app _ _ _ _ _ _ :: _, s, s', pl, h, hn, hpd, hi => by simp [settle] at h
  | .upd _ _ _ :: _, s, s', pl, h, hn, hpd, hi => by simp [settle] at h
  | .make d e :: r, s, s', pl, h, hn, hpd, hi => by
    simp only [settle] at h
    simp only [List.map_cons, Pend.d] at hn
    obtain ⟨hn1, hn2⟩ := nodup_cons hn
    obtain ⟨bs, hbs, hinj⟩ := hi.pend
    obtain ⟨hv, hvp, k1, k2, k4⟩ := hbs (.make d e) (by simp)
    simp only [Pend.d] at k2 k4
    have hown : ∀ k b, Own (s.tab ++ [e]) (pl ++ [hvp]) k b → Own s.tab pl k b ∨ bs d = some b := fun k b ho => ((own_push hi.hp.len).1 ho).imp id fun ⟨_, _, k5⟩ => k2.blks b k5
    have hp' : Hp w S (s.tab ++ [e]) (pl ++ [hvp]) := hi.hp.push (k2.at_ _ _ _) fun b _ hb => ⟨(k4 b (k2.blks b hb)).2.2.1, (k4 b (k2.blks b hb)).2.2.2⟩
    have hlen : pl.length = s.tab.length := hi.hp.len
    have hget : (pl ++ [hvp])[s.tab.length]? = some hvp := by rw [← hlen]; simp
    have hi' : Inv C w0 S0 O0 pl0 { (({ s with tab := s.tab ++ [e] } : St).put (some d) (.one (entAV s.tab.length e)) []) with pd := r } a w S (pl ++ [hvp]) := by
      refine ⟨hp', hi.fr, fun k b ho => (hown k b ho).elim (hi.own k b) fun e => .inr (k4 b e).1, fun k hk hv1 hq => ?_, fun k b hm ho => (hown k b ho).elim (hi.fresh k b hm) fun e => (k4 b e).1, hi.up, hi.sub, ?_, hi.size, hi.defers, bs, fun p hm => ?_, fun p hm q hq => hinj p (by simp [hm]) q (by simp [hq])⟩
      · have := hi.fix k hk hv1 hq
        rw [List.getElem?_append_left (List.getElem?_eq_some_iff.1 this).1]; exact this
      · intro t v T hl hT
        simp only [St.put, look_cons] at hl
        split at hl
        · rename_i e1
          subst e1
          obtain ⟨rfl, rfl⟩ := Prod.mk.inj (Option.some.inj hl)
          exact ⟨hv, k1, [hv], k2.av _ _ _ _ _ (by simp [St.put]) hget, by rw [entAV_agg]; rfl⟩
        · obtain ⟨u, q1, q2⟩ := hi.env t v T hl hT
          exact ⟨u, q1, q2.keep (fun b hb _ => ⟨hb, rfl⟩) hi.hp.stable (Keep.push hi.hp.len _ _)⟩
      · have hne : p.d ≠ d := fun e1 => hn1 (e1 ▸ List.mem_map.2 ⟨p, hm, rfl⟩)
        have hpr := hbs p (by simp [hm])
        have nb : ∀ b, bs p.d = some b → Nobodys w0.heap.size w S s.tab pl b → Nobodys w0.heap.size w S (s.tab ++ [e]) (pl ++ [hvp]) b := fun b hb ⟨q1, q2, q3, q4⟩ => ⟨q1, q2, q3, fun k ho => (hown k b ho).elim (q4 k) fun e1 => hne (hinj p (by simp [hm]) (.make d e) (by simp) b hb e1)⟩
        cases p with
        | make d1 e1 =>
          obtain ⟨hv1, hvp1, q1, q2, q4⟩ := hpr
          exact ⟨hv1, hvp1, q1, q2, fun b1 q3 => nb b1 q3 (q4 b1 q3)⟩
        | upd d0 d1 e1 =>
          obtain ⟨hv1, hvp1, q1, q2, q4⟩ := hpr
          exact ⟨hv1, hvp1, q1, q2, fun b1 q3 => nb b1 q3 (q4 b1 q3)⟩
        | app d1 i j eid e1 xs =>
          obtain ⟨hv1, h0, css, q1, q2, q3, q4, q5, q6⟩ := hpr
          refine ⟨hv1, h0, css, q1, q2, q3, q4, ?_, q6.imp id fun ⟨b1, q7, q8, q9⟩ => ⟨b1, q7, q8, nb b1 q8 q9⟩⟩
          have up1 : ∀ {i : Nat} {e2 : Ent}, s.tab[i]? = some e2 → (s.tab ++ [e])[i]? = some e2 := fun {i e2} h => by rw [List.getElem?_append_left (List.getElem?_eq_some_iff.1 h).1]; exact h
          have up2 : ∀ {i : Nat} {v : Value}, pl[i]? = some v → (pl ++ [hvp])[i]? = some v := fun {i v} h => by rw [List.getElem?_append_left (List.getElem?_eq_some_iff.1 h).1]; exact h
          cases j with
          | none => obtain ⟨xs0, r1, r2, r3⟩ := q5; exact ⟨xs0, up1 r1, up2 r2, r3⟩
          | some j => obtain ⟨eid0, xss, outer, hs, r1, r2, r3⟩ := q5; exact ⟨eid0, xss, outer, hs, up1 r1, up2 r2, r3⟩
    exact settle_sound h hn2 hpd hi'

end
end Go.Lg
