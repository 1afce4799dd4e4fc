/-
  Rows that grow, are made, are written; what is lent, frozen, put together.
-/
import Derived.Test.YtejfaifipdhecaaEng8
set_option linter.unusedVariables false
set_option linter.unusedSimpArgs false
namespace Go.Lg
open Go.RowKit

theorem Ty.R.oneCell {w : World} {S : Nat → Prop} : {t : Ty} → {cs : List Value} → {x : t.T} → t.R w S cs x → ∀ u ∈ cs, u.oneCell' = true
  | .int _, _, _, h => by simp only [Ty.R] at h; subst h; simp [Value.oneCell']
  | .bool, _, _, h => by simp only [Ty.R] at h; subst h; simp [Value.oneCell']
  | .str, _, _, h => by simp only [Ty.R] at h; subst h; simp [Value.oneCell']
  | .sl _, _, _, h => by simp only [Ty.R] at h; obtain ⟨_, _, _, rfl, _⟩ := h; simp [Value.oneCell']
  | .unit, _, _, h => by simp only [Ty.R] at h; subst h; simp
  | .pair a b, _, _, h => by
    simp only [Ty.R] at h
    obtain ⟨c1, c2, rfl, h1, h2⟩ := h
    intro u hu
    rcases List.mem_append.1 hu with hu | hu
    · exact Ty.R.oneCell h1 u hu
    · exact Ty.R.oneCell h2 u hu
  | .pt _, _, none, h => by simp only [Ty.R] at h; subst h; simp [Value.oneCell']
  | .pt _, _, some _, h => by simp only [Ty.R] at h; obtain ⟨_, _, rfl, _⟩ := h; simp [Value.oneCell']

theorem flatten_at {size : Nat} : ∀ {l : List (List Value)}, (∀ (i : Nat) (cs : List Value), l[i]? = some cs → cs.length = size) → ∀ {m : Nat} {cm : List Value}, l[m]? = some cm → ∀ {q : Nat} {v : Value}, cm[q]? = some v → l.flatten[m * size + q]? = some v
  | [], _, m, cm, hm, _, _, _ => by simp at hm
  | c0 :: l, hl, m, cm, hm, q, v, hq => by
    have h0 : c0.length = size := hl 0 c0 rfl
    cases m with
    | zero =>
      simp at hm; subst hm
      simp only [List.flatten_cons, Nat.zero_mul, Nat.zero_add]
      rw [List.getElem?_append_left (List.getElem?_eq_some_iff.1 hq).1]; exact hq
    | succ m =>
      simp only [List.flatten_cons]
      rw [List.getElem?_append_right (by rw [h0, Nat.succ_mul]; omega), h0]
      have := flatten_at (fun i cs hi => hl (i + 1) cs (by simpa using hi)) (m := m) (by simpa using hm) hq
      rw [← this]
      congr 1
      rw [Nat.succ_mul]; omega

theorem flatten_length {size : Nat} : ∀ {l : List (List Value)}, (∀ (i : Nat) (cs : List Value), l[i]? = some cs → cs.length = size) → l.flatten.length = l.length * size
  | [], _ => by simp
  | c0 :: l, hl => by
    simp only [List.flatten_cons, List.length_append, List.length_cons]
    rw [hl 0 c0 rfl, flatten_length (fun i cs hi => hl (i + 1) cs (by simpa using hi)), Nat.succ_mul]; omega

theorem Elems.lens {w : World} {S : Nat → Prop} {e : Ty} {css : List (List Value)} {xs : List e.T} (h : Elems w S e css xs) : ∀ (i : Nat) (cs : List Value), css[i]? = some cs → cs.length = e.size := fun i cs hi =>
  (h.2 i cs (xs[i]'(by have := (List.getElem?_eq_some_iff.1 hi).1; have := h.1; omega)) hi (List.getElem?_eq_getElem _)).length

theorem Elems.oneCell {w : World} {S : Nat → Prop} {e : Ty} {css : List (List Value)} {xs : List e.T} (h : Elems w S e css xs) : ∀ u ∈ css.flatten, u.oneCell' = true := fun u hu => by
  obtain ⟨cs, hcs, hu⟩ := List.mem_flatten.1 hu
  obtain ⟨i, hi⟩ := List.mem_iff_getElem?.1 hcs
  have hlt : i < xs.length := by have := (List.getElem?_eq_some_iff.1 hi).1; have := h.1; omega
  exact (h.2 i cs xs[i] hi (List.getElem?_eq_getElem hlt)).oneCell u hu

theorem Elems.append {w : World} {S : Nat → Prop} {e : Ty} {css dss : List (List Value)} {xs ys : List e.T} (h : Elems w S e css xs) (k : Elems w S e dss ys) : Elems w S e (css ++ dss) (xs ++ ys) := by
  refine ⟨by simp [h.1, k.1], fun i cs x h1 h2 => ?_⟩
  by_cases hlt : i < css.length
  · rw [List.getElem?_append_left hlt] at h1
    rw [List.getElem?_append_left (by have := h.1; omega)] at h2
    exact h.2 i cs x h1 h2
  · rw [List.getElem?_append_right (by omega)] at h1
    rw [List.getElem?_append_right (by have := h.1; omega)] at h2
    exact k.2 _ cs x h1 (by rw [h.1]; exact h2)

/-- An element of an owned row lies in memory. -/
theorem Row.cells {w : World} {S : Nat → Prop} {eid : TypeId} {e : Ty} {hv : Value} {xs : List e.T} {css : List (List Value)} (h : Row w eid e.size hv xs.length css.flatten) (k : Elems w S e css xs)
    {g o n c : Nat} (hh : hv = .slice (some ⟨g, o, none⟩) n c) {i : Nat} {cs : List Value} (hi : css[i]? = some cs) : Cells w g (o + i * e.size) cs := by
  rcases h.2 with ⟨h2, _⟩ | ⟨g', o', cap, cur, h2, hg, hn, hm, hsz, htk⟩
  · rw [h2] at hh; cases hh
  · rw [h2] at hh
    cases hh
    intro q v hq
    have hfl := flatten_at k.lens hi hq
    rw [← htk] at hfl
    have hlt : i * e.size + q < xs.length * e.size := by
      have := (List.getElem?_eq_some_iff.1 hfl).1
      rw [List.length_take] at this
      exact (Nat.lt_min.1 this).1
    rw [List.getElem?_take_of_lt hlt, List.getElem?_drop] at hfl
    simp only [World.cell?, hg, Option.isSome_none, Bool.false_eq_true, if_false]
    rw [← Array.getElem?_toList, Nat.add_assoc]
    exact hfl

def Lent (tab : List Ent) (pl : List Value) (l : List Nat) (b : Nat) : Prop := ∃ i ∈ l, Own tab pl i b

theorem toVal_agg {tab : List Ent} : ∀ {a : AV} {t : Ty} {p : t.T × List Nat}, a.toVal tab t = some p → a.isAgg = t.isAgg := by
  intro a t p h
  unfold AV.toVal at h
  split at h
  · rfl
  · rfl
  · rfl
  · rfl
  · rfl
  · rfl
  · rfl
  · rfl
  · simp only [Option.map_eq_some_iff] at h
    obtain ⟨y, hy, _⟩ := h
    obtain ⟨e, _⟩ := castT_some hy
    subst e
    rfl
  · cases h

section
variable {w : World} {S : Nat → Prop} {tab : List Ent} {pl : List Value}

theorem toVal_sound (hp : Hp w S tab pl) : ∀ {t : Ty} {a : AV} {x : t.T} {l : List Nat} {cs : List Value}, a.toVal tab t = some (x, l) → a.R w S tab pl cs → t.R w (fun b => S b ∨ Lent tab pl l b) cs x := by
  intro t
  induction t with
  | pair p q ihp ihq =>
    intro a x l cs h hr
    cases a with
    | pr y z =>
      simp only [AV.toVal] at h
      split at h
      · rename_i u l1 v l2 h1 h2
        simp only [Option.some.injEq, Prod.mk.injEq] at h
        obtain ⟨rfl, rfl⟩ := h
        simp only [AV.R] at hr
        obtain ⟨c1, c2, rfl, g1, g2⟩ := hr
        have st : ∀ {l' : List Nat}, (∀ i ∈ l', i ∈ l1 ++ l2) → ∀ {t : Ty} {cs : List Value} {x : t.T}, t.R w (fun b => S b ∨ Lent tab pl l' b) cs x → t.R w (fun b => S b ∨ Lent tab pl (l1 ++ l2) b) cs x := fun {l'} hsub {t} {cs} {x} hh =>
          hh.step (fun b hb _ => ⟨hb.imp id (fun ⟨i, hi, ho⟩ => ⟨i, hsub i hi, ho⟩), rfl⟩) (fun b hb => hb.elim (hp.stable b) (fun ⟨i, _, ho⟩ => hp.lt ho))
        exact ⟨c1, c2, rfl, st (fun i hi => List.mem_append_left _ hi) (ihp h1 g1), st (fun i hi => List.mem_append_right _ hi) (ihq h2 g2)⟩
      · cases h
    | val t' y =>
      simp only [AV.toVal, Option.map_eq_some_iff, Prod.mk.injEq] at h
      obtain ⟨z, hz, rfl, rfl⟩ := h
      obtain ⟨e, rfl⟩ := castT_some hz
      subst e
      simp only [AV.R] at hr
      exact hr.step (fun b hb _ => ⟨.inl hb, rfl⟩) hp.stable
    | _ => simp [AV.toVal] at h
  | unit =>
    intro a x l cs h hr
    cases a with
    | un => exact hr
    | val t' y =>
      simp only [AV.toVal, Option.map_eq_some_iff] at h
      obtain ⟨z, hz, _⟩ := h
      obtain ⟨e, _⟩ := castT_some hz
      subst e
      exact hr
    | _ => simp [AV.toVal] at h
  | sl e ihe =>
    intro a x l cs h hr
    cases a with
    | nsl eid e' =>
      simp only [AV.toVal] at h
      split at h
      · simp only [Option.some.injEq, Prod.mk.injEq] at h
        obtain ⟨rfl, rfl⟩ := h
        simp only [AV.R] at hr
        subst hr
        exact ⟨none, 0, 0, rfl, rfl, Nat.le_refl _, .inl rfl⟩
      · cases h
    | own i =>
      simp only [AV.toVal] at h
      split at h
      · rename_i eid e' xs hb
        simp only [Option.map_eq_some_iff, Prod.mk.injEq] at h
        obtain ⟨y, hy, rfl, rfl⟩ := h
        obtain ⟨he, rfl⟩ := castT_some hy
        cases he
        simp only [AV.R] at hr
        obtain ⟨_, _, _, hv, g1, g2, ⟨ad, n, c, rfl⟩, rfl⟩ := hr
        obtain ⟨css, hrow, hel⟩ := hp.ent i _ _ hb g2
        rcases hrow.2 with ⟨h2, h3⟩ | ⟨g, o, cap, cur, h2, hg, hn, hm, hsz, htk⟩
        · cases h2
          exact ⟨none, 0, 0, rfl, h3.symm, Nat.le_refl _, .inl (List.eq_nil_of_length_eq_zero h3)⟩
        · cases h2
          refine ⟨_, _, _, rfl, rfl, hn, .inr ⟨g, o, rfl, .inr ⟨i, by simp, _, _, hb, rfl, g2, rfl⟩, fun k x hk => ?_⟩⟩
          have hlt : k < css.length := by rw [hel.1]; exact (List.getElem?_eq_some_iff.1 hk).1
          refine ⟨css[k], hrow.cells hel rfl (List.getElem?_eq_getElem hlt), ?_⟩
          exact (hel.2 k css[k] x (List.getElem?_eq_getElem hlt) hk).step (fun b hb _ => ⟨.inl hb, rfl⟩) hp.stable
      · cases h
    | xr i t =>
      simp only [AV.R] at hr
      obtain ⟨_, _, _, _, outer, hs, c, g1, g2, g3, rfl⟩ := hr
      have rd : ∀ {eid0 eid : TypeId} {e' : Ty} {xss : List (List e'.T)}, tab[i]? = some (.rows eid0 eid e' xss) → ∀ (j : Nat) (xs : List e'.T), xss[j]? = some xs → ∃ v, hs[j]? = some v ∧ (∃ a n c, v = .slice a n c) ∧ (Ty.sl e').R w (fun b => S b ∨ Lent tab pl [i] b) [v] xs := by
        intro eid0 eid e' xss hb j xs hj
        have hro := hp.rows hb g2
        have hjx : j < xss.length := (List.getElem?_eq_some_iff.1 hj).1
        have hjl : j < hs.length := by rw [hro.len]; exact hjx
        obtain ⟨⟨ad, n, cp, hsl⟩, css, hrow, hel⟩ := hro.rows j hs[j] xs (List.getElem?_eq_getElem hjl) hj
        refine ⟨hs[j], List.getElem?_eq_getElem hjl, ⟨_, _, _, hsl⟩, ?_⟩
        have hown : ∀ b, blk hs[j] = some b → Lent tab pl [i] b := fun b hb' => ⟨i, by simp, _, _, hb, rfl, g2, hs[j], by simp, hb'⟩
        rw [hsl] at hown hrow
        rcases hrow.2 with ⟨h2, h3⟩ | ⟨g, o, cap, cur, h2, hg, hn, hm, hsz, htk⟩
        · cases h2
          exact ⟨none, 0, 0, by rw [hsl], h3.symm, Nat.le_refl _, .inl (List.eq_nil_of_length_eq_zero h3)⟩
        · cases h2
          refine ⟨_, _, _, by rw [hsl], rfl, hn, .inr ⟨g, o, rfl, .inr (hown g rfl), fun k x hk => ?_⟩⟩
          have hlt : k < css.length := by rw [hel.1]; exact (List.getElem?_eq_some_iff.1 hk).1
          refine ⟨css[k], hrow.cells hel rfl (List.getElem?_eq_getElem hlt), ?_⟩
          exact (hel.2 k css[k] x (List.getElem?_eq_getElem hlt) hk).step (fun b hb _ => ⟨.inl hb, rfl⟩) hp.stable
      cases t with
      | top =>
        simp only [AV.toVal] at h
        split at h
        · rename_i eid0 eid e' xss hb
          simp only [Option.map_eq_some_iff, Prod.mk.injEq] at h
          obtain ⟨y, hy, rfl, rfl⟩ := h
          obtain ⟨he, rfl⟩ := castT_some hy
          cases he
          obtain ⟨rfl, ad, n, cp, rfl⟩ := XT.top_inv g3
          have hro := hp.rows hb g2
          have hown : ∀ b, blk (.slice ad n cp) = some b → Lent tab pl [i] b := fun b hb' => ⟨i, by simp, _, _, hb, rfl, g2, .slice ad n cp, by simp, hb'⟩
          have hrow := hro.row
          rcases hrow.2 with ⟨h2, h3⟩ | ⟨g, o, cap, cur, h2, hg, hn, hm, hsz, htk⟩
          · cases h2
            exact ⟨none, 0, 0, rfl, h3.symm, Nat.le_refl _, .inl (List.eq_nil_of_length_eq_zero h3)⟩
          · cases h2
            refine ⟨_, _, _, rfl, rfl, hn, .inr ⟨g, o, rfl, .inr (hown g rfl), fun k x hk => ?_⟩⟩
            obtain ⟨v, k1, k2, k3⟩ := rd hb k x hk
            refine ⟨[v], ?_, k3⟩
            have := Row.at1 hrow k1
            simpa [Ty.size] using this
        · cases h
      | row j =>
        simp only [AV.toVal] at h
        split at h
        · rename_i eid0 eid e' xss hb
          simp only [Option.map_eq_some_iff, Prod.mk.injEq] at h
          obtain ⟨y, hy, rfl, rfl⟩ := h
          obtain ⟨he, rfl⟩ := castT_some hy
          cases he
          obtain ⟨h0, h1, ad, n, cp, rfl⟩ := XT.row_inv g3
          have hro := hp.rows hb g2
          have hjl : j.toNat < xss.length := by rw [← hro.len]; exact (List.getElem?_eq_some_iff.1 h1).1
          obtain ⟨v, k1, k2, k3⟩ := rd hb j.toNat xss[j.toNat] (List.getElem?_eq_getElem hjl)
          rw [h1] at k1
          obtain rfl := Option.some.inj k1
          have : xss.getD j.toNat [] = xss[j.toNat] := by simp [List.getD, List.getElem?_eq_getElem hjl]
          show (Ty.sl _).R _ _ _ (xss.getD j.toNat [])
          rw [this]
          exact k3
        · cases h
      | cell j => simp [AV.toVal] at h
    | val t' y =>
      simp only [AV.toVal, Option.map_eq_some_iff, Prod.mk.injEq] at h
      obtain ⟨z, hz, rfl, rfl⟩ := h
      obtain ⟨e, rfl⟩ := castT_some hz
      subst e
      simp only [AV.R] at hr
      exact hr.step (fun b hb _ => ⟨.inl hb, rfl⟩) hp.stable
    | _ => simp [AV.toVal] at h
  | pt e ihe =>
    intro a x l cs h hr
    cases a with
    | bx i off t0 =>
      simp only [AV.toVal] at h
      split at h
      · rename_i c hb
        simp only [Option.map_eq_some_iff, Prod.mk.injEq] at h
        obtain ⟨⟨y, l'⟩, hy, rfl, rfl⟩ := h
        simp only [AV.R] at hr
        obtain ⟨c', b, g1, g2, rfl⟩ := hr
        obtain ⟨b', cs', eid, k1, k2, k3⟩ := hp.ent i _ _ hb g2
        simp only [Value.pointer.injEq, Option.some.injEq, Addr.mk.injEq, and_true] at k1
        subst k1
        have hown : Own tab pl i b := ⟨_, _, hb, rfl, g2, rfl⟩
        refine ⟨b, 0, rfl, .inr ⟨i, by simp, hown⟩, cs', fun j v hj => ?_, ?_⟩
        · simp only [World.cell?, k2, Option.isSome_none, Bool.false_eq_true, if_false, Nat.zero_add]
          simpa using hj
        · exact (ihe hy k3).step (fun b hb _ => ⟨hb.imp id (fun ⟨j, hj, ho⟩ => ⟨j, List.mem_cons_of_mem _ hj, ho⟩), rfl⟩) (fun b hb => hb.elim (hp.stable b) (fun ⟨j, _, ho⟩ => hp.lt ho))
      · cases h
    | npt =>
      simp only [AV.toVal, Option.some.injEq, Prod.mk.injEq] at h
      obtain ⟨rfl, rfl⟩ := h
      exact hr
    | val t' y =>
      simp only [AV.toVal, Option.map_eq_some_iff, Prod.mk.injEq] at h
      obtain ⟨z, hz, rfl, rfl⟩ := h
      obtain ⟨e, rfl⟩ := castT_some hz
      subst e
      simp only [AV.R] at hr
      exact hr.step (fun b hb _ => ⟨.inl hb, rfl⟩) hp.stable
    | _ => simp [AV.toVal] at h
  | _ =>
    intro a x l cs h hr
    cases a with
    | val t' y =>
      simp only [AV.toVal, Option.map_eq_some_iff, Prod.mk.injEq] at h
      obtain ⟨z, hz, rfl, rfl⟩ := h
      obtain ⟨e, rfl⟩ := castT_some hz
      subst e
      simp only [AV.R] at hr
      exact hr.step (fun b hb _ => ⟨.inl hb, rfl⟩) hp.stable
    | _ => simp [AV.toVal] at h

end

/-! ### append, on rows wherever they lie -/

section
variable {P : Program} (w : World)

theorem run_append_nothing (t ty e : TypeId) (i : TypeInfo) (ht : P.underlying t = some (.slice e)) (hi : P.info? e = some i) (base ad : Option Addr) (n cap c : Nat) (h : n ≤ cap) :
    (Builtin.append_ #[t, t] ty #[.slice base n cap, .slice ad 0 c]).run P w = .ok (.slice base n cap) w := by
  cases base <;> cases ad <;> simp [Builtin.append_, run_underlying ht, sizeOf, typeInfo, hi, Builtin.lenOf, Builtin.firstCells, loadCells, loadCellsFrom, storeCells, h]

theorem run_append_in (t ty e : TypeId) (i : TypeInfo) (ht : P.underlying t = some (.slice e)) (hi : P.info? e = some i)
    (g o sLen sCap : Nat) (cur : Array Value) (hg : w.heap[g]? = some (.cells cur e (0, 0)))
    (a : Addr) (m c : Nat) (news : List Value) (hl : news.length = m * i.size) (hnews : ∀ j u, news[j]? = some u → w.cell? (a.add j) = some u) (h1 : ∀ u ∈ news, u.oneCell' = true)
    (hroom : sLen + m ≤ sCap) (hfit : o + sLen * i.size + news.length ≤ cur.size) :
    (Builtin.append_ #[t, t] ty #[.slice (some ⟨g, o, none⟩) sLen sCap, .slice (some a) m c]).run P w =
      .ok (.slice (some ⟨g, o, none⟩) (sLen + m) sCap) (w.setRow g (cur.toList.take (o + sLen * i.size) ++ news ++ cur.toList.drop (o + sLen * i.size + news.length)).toArray) := by
  have hf := run_firstCells_some (P := P) w i.size m a m c news hl hnews
  have hst := run_storeCells_at P g (o + sLen * i.size) e news 0 cur w hg (by simpa using hfit) h1
  simp only [Nat.add_zero] at hst
  simp [Builtin.append_, run_underlying ht, sizeOf, typeInfo, hi, Builtin.lenOf, hroom, hf, Addr.add_lit, hst]

theorem run_append_row (t ty e : TypeId) (i : TypeInfo) (z : Value) (ht : P.underlying t = some (.slice e)) (hi : P.info? e = some i) (hz : i.zero = some z)
    (hzs : z.cells.size = i.size) (hsz : 0 < i.size) (hby : i.bytes ≤ 128) {hv : Value} {n : Nat} {xs : List Value} (hrow : Row w e i.size hv n xs)
    {ad : Option Addr} {m c : Nat} {news : List Value} (hl : news.length = m * i.size) (hnews : m = 0 ∨ ∃ a, ad = some a ∧ ∀ j u, news[j]? = some u → w.cell? (a.add j) = some u) (h1 : ∀ u ∈ news, u.oneCell' = true)
    (hlim : n + m ≤ LIM) :
    ∃ hv' w', (Builtin.append_ #[t, t] ty #[hv, .slice ad m c]).run P w = .ok hv' w' ∧ (∃ a b d, hv' = .slice a b d) ∧ Row w' e i.size hv' (n + m) (xs ++ news) ∧ w.grownBy w' (blk hv) ∧ (blk hv' = blk hv ∨ blk hv' = some w.heap.size) ∧ Row w' e i.size hv n xs := by
  unfold LIM at hlim
  have hmax : n + m ≤ maxLen := by simp only [maxLen]; omega
  have hbytes : (n + m) * i.bytes ≤ 140737488355328 := by
    have := Nat.mul_le_mul hlim hby
    omega
  rcases Nat.eq_zero_or_pos m with rfl | hm
  · have hn : news = [] := List.eq_nil_of_length_eq_zero (by simpa using hl)
    subst hn
    rcases hrow.2 with ⟨rfl, rfl⟩ | ⟨g, o, cap, cur, rfl, hg, hnc, hcm, hcs, htk⟩
    · exact ⟨_, w, run_append_nothing w t ty e i ht hi none ad 0 0 c (Nat.le_refl _), ⟨_, _, _, rfl⟩, by simpa using hrow, ⟨rfl, rfl, rfl, Nat.le_refl _, fun _ _ _ => rfl⟩, .inl rfl, hrow⟩
    · exact ⟨_, w, run_append_nothing w t ty e i ht hi _ ad n cap c hnc, ⟨_, _, _, rfl⟩, by simpa using hrow, ⟨rfl, rfl, rfl, Nat.le_refl _, fun _ _ _ => rfl⟩, .inl rfl, hrow⟩
  · obtain ⟨a, rfl, hnw⟩ := hnews.resolve_left (by omega)
    have hlen : (xs ++ news).length = (n + m) * i.size := by rw [List.length_append, hrow.1, hl, Nat.add_mul]
    have grown : ∀ (old : Nat), old < n + m → ∀ (row : Option Nat),
        Row (w.drew.alloc (.cells (xs.toArray ++ news.toArray ++ Builtin.zeroCells z.cells (grownCap w (n + m) old e - (n + m))) e)) e i.size
          (.slice (some ⟨w.heap.size, 0, none⟩) (n + m) (grownCap w (n + m) old e)) (n + m) (xs ++ news) ∧
        w.grownBy (w.drew.alloc (.cells (xs.toArray ++ news.toArray ++ Builtin.zeroCells z.cells (grownCap w (n + m) old e - (n + m))) e)) row := by
      intro old ho row
      have hge := grownCap_ge w (n + m) old e
      have hcm : grownCap w (n + m) old e ≤ maxLen := grownCap_le_maxLen w (n + m) old e hmax
      refine ⟨⟨hlen, .inr ⟨w.heap.size, 0, _, _, rfl, _root_.Go.heap_alloc_new w.drew _, hge, hcm, ?_, ?_⟩⟩, ⟨rfl, rfl, rfl, by simp, fun k hk _ => Below.heap_alloc w.drew _ k hk⟩⟩
      · simp only [Array.size_append, List.size_toArray, size_zeroCells, hzs, hrow.1, hl, ← Nat.add_mul]
        rw [Nat.zero_add]
        apply Nat.le_of_eq
        congr 1
        omega
      · simp only [Array.toList_append, List.append_assoc, List.drop_zero]
        rw [← List.append_assoc, ← hlen]
        exact List.take_left
    rcases hrow.2 with ⟨rfl, rfl⟩ | ⟨g, o, cap, cur, rfl, hg, hnc, hcm, hcs, htk⟩
    · have hx : xs = [] := List.eq_nil_of_length_eq_zero (by simpa using hrow.1)
      subst hx
      have hr := run_append_nil (P := P) w t ty e i z ht hi hz a m c news hl hnw (by omega) (by omega) (by have hb := hbytes; simp only [Nat.zero_add] at hb; omega)
      have hgr := grown 0 (by omega) (blk (.slice none 0 0))
      simp only [Nat.zero_add, List.nil_append, Array.empty_append] at hgr ⊢
      exact ⟨_, _, hr, ⟨_, _, _, rfl⟩, hgr.1, hgr.2, .inr rfl, ⟨by simp, .inl ⟨rfl, rfl⟩⟩⟩
    · by_cases hroom : n + m ≤ cap
      · have hfit : o + n * i.size + news.length ≤ cur.size := by
          rw [hl, Nat.add_assoc, ← Nat.add_mul]
          have := Nat.mul_le_mul_right i.size hroom
          omega
        have hr := run_append_in (P := P) w t ty e i ht hi g o n cap cur hg a m c news hl hnw h1 hroom hfit
        refine ⟨_, _, hr, ⟨_, _, _, rfl⟩, ⟨hlen, .inr ⟨g, o, cap, _, rfl, setRow_heap w g cur _ e _ hg, hroom, hcm, ?_, ?_⟩⟩, ⟨rfl, rfl, rfl, by simp, fun k _ hk => setRow_other w g k _ (fun e => hk (by simp [blk, e]))⟩, .inl rfl, ⟨hrow.1, .inr ⟨g, o, cap, _, rfl, setRow_heap w g cur _ e _ hg, hnc, hcm, ?_, ?_⟩⟩⟩
        · simp only [List.size_toArray, List.length_append, List.length_take, List.length_drop, Array.length_toList]
          omega
        · simp only [List.append_assoc]
          rw [List.drop_append, List.length_take, Array.length_toList, Nat.min_eq_left (by omega), Nat.sub_eq_zero_of_le (by omega), List.drop_zero, List.drop_take, Nat.add_sub_cancel_left, htk, ← List.append_assoc, ← hlen]
          exact List.take_left
        · simp only [List.size_toArray, List.length_append, List.length_take, List.length_drop, Array.length_toList]
          omega
        · simp only [List.append_assoc]
          rw [List.drop_append, List.length_take, Array.length_toList, Nat.min_eq_left (by omega), Nat.sub_eq_zero_of_le (by omega), List.drop_zero, List.drop_take, Nat.add_sub_cancel_left, htk, List.take_append_of_le_length (by rw [hrow.1]; exact Nat.le_refl _), List.take_of_length_le (by rw [hrow.1]; exact Nat.le_refl _)]
      · have holds : ∀ j u, xs[j]? = some u → w.cell? ((⟨g, o, none⟩ : Addr).add j) = some u := fun j u hj => by
          rw [Addr.add_lit]
          rw [← htk] at hj
          have hlt : j < n * i.size := by
            have := (List.getElem?_eq_some_iff.1 hj).1
            rw [List.length_take] at this
            exact (Nat.lt_min.1 this).1
          rw [List.getElem?_take_of_lt hlt, List.getElem?_drop] at hj
          simp only [World.cell?, hg, Option.isSome_none, Bool.false_eq_true, if_false]
          rw [← Array.getElem?_toList]
          exact hj
        have hr := run_append_grow (P := P) w t ty e i z ht hi hz ⟨g, o, none⟩ n cap xs hrow.1 holds a m c news hl hnw (by omega) (by omega) (growslice_fits (by omega) hbytes)
        have hgr := grown cap (by omega) (blk (.slice (some ⟨g, o, none⟩) n cap))
        exact ⟨_, _, hr, ⟨_, _, _, rfl⟩, hgr.1, hgr.2, .inr rfl, ⟨hrow.1, .inr ⟨g, o, cap, cur, rfl, by rw [← hg]; exact Below.heap_alloc w.drew _ g (Array.getElem?_eq_some_iff.1 hg).1, hnc, hcm, hcs, htk⟩⟩⟩

end

end Go.Lg
