/-
  A part of an owned row.
-/
import Derived.Test.YtejfaifipdhecaaEng10
set_option linter.unusedVariables false
set_option linter.unusedSimpArgs false
namespace Go.Lg
open Go.RowKit

theorem _root_.List.getElem?_of_take {α : Type _} {l : List α} {m i : Nat} {x : α} (h : (l.take m)[i]? = some x) : l[i]? = some x := by
  rw [List.getElem?_take] at h
  split at h
  · exact h
  · cases h

theorem flatten_take {size : Nat} : ∀ {l : List (List Value)}, (∀ (i : Nat) (cs : List Value), l[i]? = some cs → cs.length = size) → ∀ m, (l.take m).flatten = l.flatten.take (m * size)
  | [], _, m => by simp
  | c :: l, hl, 0 => by simp
  | c :: l, hl, m + 1 => by
    have h0 : c.length = size := hl 0 c rfl
    have ih := flatten_take (l := l) (fun i cs hi => hl (i + 1) cs (by simpa using hi)) m
    simp only [List.take_succ_cons, List.flatten_cons, ih]
    have h1 : c.take ((m + 1) * size) = c := List.take_of_length_le (by rw [h0, Nat.succ_mul]; omega)
    rw [List.take_append, h1, h0, Nat.succ_mul, Nat.add_sub_cancel]

theorem flatten_drop {size : Nat} : ∀ {l : List (List Value)}, (∀ (i : Nat) (cs : List Value), l[i]? = some cs → cs.length = size) → ∀ m, (l.drop m).flatten = l.flatten.drop (m * size)
  | [], _, m => by simp
  | c :: l, hl, 0 => by simp
  | c :: l, hl, m + 1 => by
    have h0 : c.length = size := hl 0 c rfl
    have ih := flatten_drop (l := l) (fun i cs hi => hl (i + 1) cs (by simpa using hi)) m
    simp only [List.drop_succ_cons, List.flatten_cons, ih]
    have h1 : c.drop ((m + 1) * size) = [] := List.drop_of_length_le (by rw [h0, Nat.succ_mul]; omega)
    rw [List.drop_append, h1, h0, Nat.succ_mul, Nat.add_sub_cancel, List.nil_append]

section
variable {P : Program} {C : Ctx} {w0 : World} {S0 O0 : Nat → Prop} {pl0 : List Value} {s : St} {a : Act} {w : World} {S : Nat → Prop} {pl : List Value}

theorem opReslice_sound (hT : thOk P C = true) (hi : Inv C w0 S0 O0 pl0 s a w S pl) (hpd : s.pd = []) {dst : Option Tmp} {t : TypeId} {x : Operand} {lo hi' : Option Operand} {g : Option Bool} {s' : St} (h : opReslice C s dst t x lo hi' = some (g, s')) (hg : g ≠ some false)
    (hd : dstOk C s [] dst = true) :
    ∃ u w', (Instr.sliceAt t (a.eval x) (lo.map a.eval) (hi'.map a.eval) none).run P w = .ok u w' ∧ ∃ S' pl', Inv C w0 S0 O0 pl0 s' (a.put dst u) w' S' pl' := by
  unfold opReslice at h
  split at h
  · rename_i i e hx hf
    split at h
    · rename_i eid e2 xs hb
      split at h
      · rename_i hee
        obtain ⟨rfl, hfxi⟩ := hee
        split at h
        · rename_i l hh hl hhi
          simp only [Option.some.injEq, Prod.mk.injEq] at h
          obtain ⟨rfl, rfl⟩ := h
          have hbd : 0 ≤ l ∧ l ≤ hh ∧ hh ≤ (xs.length : Int) := by
            by_cases hq : 0 ≤ l ∧ l ≤ hh ∧ hh ≤ (xs.length : Int)
            · exact hq
            · rw [decide_eq_false hq] at hg; exact absurd rfl hg
          obtain ⟨h0, h1, h2⟩ := hbd
          obtain ⟨cx, hx1, hx2⟩ := av_sound hi.env holds_nil hx
          simp only [AV.R] at hx1
          obtain ⟨_, _, _, hv, g1, g2, ⟨ad, m, c, rfl⟩, rfl⟩ := hx1
          have hevx : a.eval x = .slice ad m c := by rw [hx2]; rfl
          obtain ⟨css, hrow, hels⟩ := hi.hp.ent i _ _ hb g2
          obtain ⟨d, ti, hti⟩ := thOk_find hT hf
          obtain ⟨eid', rfl, hse, hth⟩ := hti.slice
          obtain ⟨d', ti', hti'⟩ := thOk_find hT hth
          have hmc : m = xs.length ∧ m ≤ c := by
            rcases hrow.2 with ⟨q1, q2⟩ | ⟨g', o, cap, cur, q1, _, q3, _⟩
            · cases q1; omega
            · cases q1; exact ⟨rfl, q3⟩
          obtain ⟨rfl, hc⟩ := hmc
          have hrb := run_bounds (P := P) (w := w) (isS := true) hi.env holds_nil hl hhi h0 h1 h2 hc
          have hrow' : Row w eid e.size (.slice (if c = l.toNat then ad else ad.map (·.add (l.toNat * e.size))) (hh.toNat - l.toNat) (c - l.toNat)) ((xs.take hh.toNat).drop l.toNat).length ((css.take hh.toNat).drop l.toNat).flatten := by
            have hlens := hels.lens
            have hcl : css.length = xs.length := hels.1
            have hfl : ((css.take hh.toNat).drop l.toNat).flatten = (css.flatten.take (hh.toNat * e.size)).drop (l.toNat * e.size) := by
              rw [flatten_drop (size := e.size) (fun i cs hi => hlens i cs (List.getElem?_of_take hi)), flatten_take hlens]
            have hn : ((xs.take hh.toNat).drop l.toNat).length = hh.toNat - l.toNat := by
              rw [List.length_drop, List.length_take]; omega
            refine ⟨?_, ?_⟩
            · rw [flatten_length (size := e.size) (fun i cs hi => hlens (l.toNat + i) cs (List.getElem?_of_take (by rw [List.getElem?_drop] at hi; exact hi)))]
              rw [List.length_drop, List.length_take, List.length_drop, List.length_take, hcl]
            · rw [hn]
              rcases hrow.2 with ⟨q1, q2⟩ | ⟨g', o, cap, cur, q1, hcur, q3, q4, q5, q6⟩
              · simp only [Value.slice.injEq] at q1
                obtain ⟨rfl, _, rfl⟩ := q1
                left
                have : hh.toNat - l.toNat = 0 := by omega
                refine ⟨?_, this⟩
                have hl0 : l.toNat = 0 := by omega
                simp [hl0, this]
                omega
              · cases q1
                right
                by_cases hcl' : c = l.toNat
                · have hz : hh.toNat - l.toNat = 0 := by omega
                  refine ⟨g', o, c - l.toNat, cur, by simp [hcl'], hcur, by omega, by omega, by rw [hcl']; simp; omega, ?_⟩
                  rw [hz]
                  simp
                  have : ((css.take hh.toNat).drop l.toNat) = [] := List.eq_nil_of_length_eq_zero (by rw [List.length_drop, List.length_take, hcl]; omega)
                  rw [this]
                  simp
                · refine ⟨g', o + l.toNat * e.size, c - l.toNat, cur, by simp [hcl', Addr.add_lit], hcur, by omega, by omega, ?_, ?_⟩
                  · have : l.toNat * e.size + (c - l.toNat) * e.size = c * e.size := by rw [← Nat.add_mul]; congr 1; omega
                    omega
                  · rw [hfl, ← q6]
                    rw [List.take_take, Nat.min_eq_left (Nat.mul_le_mul_right _ (by omega)), List.drop_take, List.drop_drop, ← Nat.sub_mul]
          have hels' : Elems w S e ((css.take hh.toNat).drop l.toNat) ((xs.take hh.toNat).drop l.toNat) := by
            refine ⟨by simp [hels.1], fun k cs y hk hy => ?_⟩
            rw [List.getElem?_drop, List.getElem?_take] at hk hy
            split at hk
            · rename_i hlt; rw [if_pos hlt] at hy; exact hels.2 _ cs y hk hy
            · cases hk
          have hblk : ∀ b, blk (.slice (if c = l.toNat then ad else ad.map (·.add (l.toNat * e.size))) (hh.toNat - l.toNat) (c - l.toNat)) = some b → blk (.slice ad xs.length c) = some b := fun b hb' => by
            cases ad with
            | none => split at hb' <;> simp [blk] at hb'
            | some ad =>
              split at hb'
              · exact hb'
              · simp only [blk, Option.map_some, Option.some.injEq, Addr.add] at hb' ⊢
                split at hb' <;> exact hb'
          have hown : ∀ b, blk (.slice ad xs.length c) = some b → Own s.tab pl i b := fun b hb' => ⟨_, _, hb, rfl, g2, hb'⟩
          have hp' : Hp w S (setAt i (.arr eid e ((xs.take hh.toNat).drop l.toNat)) (s.tab.map (Ent.sub i .dd))) (pl.set i (.slice (if c = l.toNat then ad else ad.map (·.add (l.toNat * e.size))) (hh.toNat - l.toNat) (c - l.toNat))) := by
            refine hi.hp.replace hb rfl g2 (by simp) (by simp [AV.R]) (fun b hb' => ⟨hb', rfl⟩) hi.hp.stable (fun j b hj ho => ⟨rfl, hi.hp.off j b ho⟩) (fun b _ hb' => ⟨hi.hp.off i b (hown b (hblk b hb')), fun j hj ho => hj (hi.hp.inj j i b ho (hown b (hblk b hb')))⟩) ?_
            exact ⟨_, hrow', hels'⟩
          refine ⟨.slice (if c = l.toNat then ad else ad.map (·.add (l.toNat * e.size))) (hh.toNat - l.toNat) (c - l.toNat), w, ?_, S, pl.set i (.slice (if c = l.toNat then ad else ad.map (·.add (l.toNat * e.size))) (hh.toNat - l.toNat) (c - l.toNat)), ?_⟩
          · rw [hevx]
            simp only [Instr.sliceAt, Sem.run_bind, run_underlying hti.under, Result.andThen_ok, Instr.slice, hrb, hti'.sizeOf, Sem.run_pure]
          · have hi2 : Inv C w0 S0 O0 pl0 { s.sub i .dd with tab := setAt i (.arr eid e ((xs.take hh.toNat).drop l.toNat)) (s.sub i .dd).tab } a w S (pl.set i (.slice (if c = l.toNat then ad else ad.map (·.add (l.toNat * e.size))) (hh.toNat - l.toNat) (c - l.toNat))) := by
              refine hi.to hp' (Fr.refl w _) (fun j b ⟨e1, v1, k1, k2, k3, k4⟩ => ?_) (fun b hb' => hb') (fun j hj hv1 hv2 => by rw [List.getElem?_set_ne (fun e => by subst e; exact has_false hfxi hj)]; exact hv2) ?_ (fun b hb' => .inl hb')
              · left
                by_cases hj : j = i
                · subst hj
                  have hlt : j < pl.length := (List.getElem?_eq_some_iff.1 g2).1
                  rw [List.getElem?_set_self hlt] at k3
                  obtain rfl := Option.some.inj k3
                  exact hown b (hblk b k4)
                · rw [setAt_ne hj] at k1
                  simp only [St.sub, List.getElem?_map, Option.map_eq_some_iff] at k1
                  obtain ⟨e2, k1, rfl⟩ := k1
                  rw [List.getElem?_set_ne (Ne.symm hj)] at k3
                  exact ⟨e2, v1, k1, by rwa [Ent.live_sub] at k2, k3, k4⟩
              · exact hi.env.sub (fun b hb' _ => ⟨hb', rfl⟩) hi.hp.stable (fun a ha => by rw [hb] at ha; cases ha) (fun j hj => Keep.replace hj) rfl (fun hv1 _ => by simp [AV.R])
            refine hi2.put (by rw [dstOk_sub]; exact hd) (.inl ⟨[_], ⟨eid, e, (xs.take hh.toNat).drop l.toNat, _, ?_, ?_, ⟨_, _, _, rfl⟩, rfl⟩, rfl⟩)
            · exact setAt_self (e0 := Ent.sub i .dd (.arr eid e xs)) (by simp only [St.sub, List.getElem?_map, hb]; rfl)
            · exact List.getElem?_set_self (List.getElem?_eq_some_iff.1 g2).1
        · cases h
      · cases h
    · cases h
  · cases h

end
end Go.Lg
