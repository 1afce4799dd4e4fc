/-
  Literals, boxes, stores; all operations that change the table.
-/
import Derived.Test.YtejfaifipdhecaaEng11
set_option linter.unusedVariables false
set_option linter.unusedSimpArgs false
namespace Go.Lg
open Go.RowKit

theorem toVal_dd {tab : List Ent} {t : Ty} : AV.toVal tab t .dd = none := by cases t <;> rfl

theorem Ty.explode_R {w : World} {S : Nat → Prop} {tab : List Ent} {pl : List Value} : {t : Ty} → {x : t.T} → {cs : List Value} → t.R w S cs x → (t.explode x).R w S tab pl cs
  | .pair a b, x, _, h => by
    simp only [Ty.R] at h
    obtain ⟨c1, c2, rfl, h1, h2⟩ := h
    exact ⟨c1, c2, rfl, Ty.explode_R h1, Ty.explode_R h2⟩
  | .unit, _, _, h => h
  | .int _, _, _, h => h
  | .bool, _, _, h => h
  | .str, _, _, h => h
  | .sl _, _, _, h => h
  | .pt _, _, _, h => h

theorem AV.explode_R {w : World} {S : Nat → Prop} {tab : List Ent} {pl : List Value} : {a : AV} → {cs : List Value} → a.R w S tab pl cs → a.explode.R w S tab pl cs
  | .val t x, _, h => Ty.explode_R (by simpa only [AV.R] using h)
  | .pr a b, _, h => by
    simp only [AV.R] at h
    obtain ⟨c1, c2, rfl, h1, h2⟩ := h
    exact ⟨c1, c2, rfl, AV.explode_R h1, AV.explode_R h2⟩
  | .nsl _ _, _, h => h
  | .npt, _, h => h
  | .own _, _, h => h
  | .bx _ _ _, _, h => h
  | .ela _ _ _, _, h => h
  | .xr _ _, _, h => h
  | .fn _ _, _, h => h
  | .un, _, h => h
  | .dd, _, h => h
  | .ub _, _, h => h

theorem Ty.explode_agg {t : Ty} {x : t.T} : (t.explode x).isAgg = t.isAgg := by cases t <;> rfl
theorem AV.explode_agg {a : AV} : a.explode.isAgg = a.isAgg := by
  cases a with
  | val t x => exact Ty.explode_agg
  | _ => rfl

theorem AV.R.oneCell {w : World} {S : Nat → Prop} {tab : List Ent} {pl : List Value} : {a : AV} → {t : Ty} → a.fits t = true → {cs : List Value} → a.R w S tab pl cs → ∀ u ∈ cs, u.oneCell' = true
  | .pr a b, .pair s t, hf, _, h => by
    simp only [AV.fits, Bool.and_eq_true] at hf
    simp only [AV.R] at h
    obtain ⟨c1, c2, rfl, h1, h2⟩ := h
    intro u hu
    rcases List.mem_append.1 hu with hu | hu
    · exact AV.R.oneCell hf.1 h1 u hu
    · exact AV.R.oneCell hf.2 h2 u hu
  | .val t x, _, _, _, h => Ty.R.oneCell (by simpa only [AV.R] using h)
  | .nsl _ _, _, _, _, h => by simp only [AV.R] at h; subst h; simp [Value.oneCell']
  | .npt, _, _, _, h => by simp only [AV.R] at h; subst h; simp [Value.oneCell']
  | .own _, _, _, _, h => by simp only [AV.R] at h; obtain ⟨_, _, _, _, _, _, ⟨_, _, _, rfl⟩, rfl⟩ := h; simp [Value.oneCell']
  | .bx _ _ _, _, _, _, h => by simp only [AV.R] at h; obtain ⟨_, _, _, _, rfl⟩ := h; simp [Value.oneCell']
  | .ela _ _ _, _, _, _, h => by simp only [AV.R] at h; obtain ⟨_, _, _, _, _, _, _, _, _, _, rfl⟩ := h; simp [Value.oneCell']
  | .xr _ t, _, _, _, h => by
    simp only [AV.R] at h
    obtain ⟨_, _, _, _, _, _, _, _, _, h3, rfl⟩ := h
    cases t with
    | top => obtain ⟨_, _, _, _, rfl⟩ := XT.top_inv h3; simp [Value.oneCell']
    | cell j => obtain ⟨_, _, _, _, _, _, _, rfl⟩ := XT.cell_inv h3; simp [Value.oneCell']
    | row j => obtain ⟨_, _, _, _, _, rfl⟩ := XT.row_inv h3; simp [Value.oneCell']
  | .un, _, _, _, h => by simp only [AV.R] at h; subst h; simp
  | .fn _ _, t, hf, _, _ => by cases t <;> simp [AV.fits] at hf
  | .dd, t, hf, _, _ => by cases t <;> simp [AV.fits] at hf
  | .ub _, t, hf, _, _ => by cases t <;> simp [AV.fits] at hf
  | .pr _ _, .int _, hf, _, _ => by simp [AV.fits] at hf
  | .pr _ _, .bool, hf, _, _ => by simp [AV.fits] at hf
  | .pr _ _, .str, hf, _, _ => by simp [AV.fits] at hf
  | .pr _ _, .sl _, hf, _, _ => by simp [AV.fits] at hf
  | .pr _ _, .pt _, hf, _, _ => by simp [AV.fits] at hf
  | .pr _ _, .unit, hf, _, _ => by simp [AV.fits] at hf

/-- A part of a box's content, put anew. -/
theorem putAt_spec {w : World} {S : Nat → Prop} {tab : List Ent} {pl : List Value} : ∀ {c : AV} {o : Nat} {t : Ty} {n c' : AV}, n.fits t = true → c.putAt o t n = some c' → ∀ {cs : List Value}, c.R w S tab pl cs →
    ∃ c1 c2 c3, cs = c1 ++ c2 ++ c3 ∧ c1.length = o ∧ c2.length = t.size ∧ ∀ {ns : List Value}, n.R w S tab pl ns → c'.R w S tab pl (c1 ++ ns ++ c3) := by
  intro c
  induction c with
  | pr a b iha ihb =>
    intro o t n c' hf h cs hr
    simp only [AV.putAt] at h
    split at h
    · rename_i hc
      simp only [Bool.and_eq_true] at hc
      obtain rfl := Option.some.inj h
      exact ⟨[], cs, [], by simp, (Nat.eq_of_beq_eq_true hc.1).symm ▸ rfl, by rw [hr.length, (AV.fits_agg hc.2).2], fun {ns} hn => by simpa using hn⟩
    · split at h
      · split at h
        · rename_i a' ha
          obtain rfl := Option.some.inj h
          simp only [AV.R] at hr
          obtain ⟨d1, d2, rfl, g1, g2⟩ := hr
          obtain ⟨c1, c2, c3, rfl, g3, g4, g5⟩ := iha hf ha g1
          exact ⟨c1, c2, c3 ++ d2, by simp, g3, g4, fun {ns} hn => ⟨c1 ++ ns ++ c3, d2, by simp, g5 hn, g2⟩⟩
        · cases h
      · rename_i hlt
        have hge : a.size ≤ o := Nat.not_lt.1 fun hh => hlt (by rw [Nat.blt_eq]; exact hh)
        split at h
        · rename_i b' hb
          obtain rfl := Option.some.inj h
          simp only [AV.R] at hr
          obtain ⟨d1, d2, rfl, g1, g2⟩ := hr
          obtain ⟨c1, c2, c3, rfl, g3, g4, g5⟩ := ihb hf hb g2
          exact ⟨d1 ++ c1, c2, c3, by simp, by simp [g1.length, g3]; omega, g4, fun {ns} hn => ⟨d1, c1 ++ ns ++ c3, by simp, g1, g5 hn⟩⟩
        · cases h
  | _ =>
    intro o t n c' hf h cs hr
    simp only [AV.putAt] at h
    split at h
    · rename_i hc
      simp only [Bool.and_eq_true, Bool.or_eq_true, Bool.not_eq_true'] at hc
      obtain rfl := Option.some.inj h
      refine ⟨[], cs, [], by simp, (Nat.eq_of_beq_eq_true hc.1).symm ▸ rfl, ?_, fun {ns} hn => by simpa using hn⟩
      rcases hc.2 with hc | hc
      · rw [hr.length, (AV.fits_agg hc).2]
      · rw [hr.length, Nat.eq_of_beq_eq_true hc.1, Ty.size_one hc.2]
    · cases h

theorem list_row_set {α : Type} (L : List α) (o j sz n : Nat) (cy : List α) (hcy : cy.length = sz) (hj : j + sz ≤ n) (hn : o + n ≤ L.length) :
    ((L.take (o + j) ++ cy ++ L.drop (o + j + cy.length)).drop o).take n = ((L.drop o).take n).take j ++ cy ++ ((L.drop o).take n).drop (j + sz) := by
  apply List.ext_getElem?
  intro i
  subst hcy
  have h1 : min (o + j) L.length = o + j := by omega
  have h2 : min n (L.length - o) = n := by omega
  have h3 : min j n = j := by omega
  simp only [List.getElem?_take, List.getElem?_drop, List.getElem?_append, List.length_append, List.length_take, List.length_drop, h1, h2, h3]
  by_cases a : i < j
  · simp [show i < n by omega, show o + i < o + j by omega, show i < j + cy.length by omega, show o + i < o + j + cy.length by omega, a]
  · by_cases b : i < j + cy.length
    · simp [show i < n by omega, show ¬ o + i < o + j by omega, b, show o + i < o + j + cy.length by omega, a]
      congr 1; omega
    · by_cases c : i < n
      · simp [c, show ¬ o + i < o + j + cy.length by omega, b, a, show j + cy.length + (i - (j + cy.length)) < n by omega]
        congr 1; omega
      · simp [c, b, a, show ¬ (j + cy.length + (i - (j + cy.length)) < n) by omega]

theorem flatten_set {size : Nat} {cy : List Value} : ∀ {l : List (List Value)} {m : Nat}, (∀ (q : Nat) (cs : List Value), l[q]? = some cs → cs.length = size) → m < l.length →
    (l.set m cy).flatten = l.flatten.take (m * size) ++ cy ++ l.flatten.drop (m * size + size)
  | [], m, _, hm => by simp at hm
  | c0 :: l, m, hl, hm => by
    have h0 : c0.length = size := hl 0 c0 rfl
    cases m with
    | zero => simp [List.set_cons_zero, ← h0]
    | succ m =>
      simp only [List.set_cons_succ, List.flatten_cons]
      rw [flatten_set (fun q cs hq => hl (q + 1) cs (by simpa using hq)) (by simpa using hm)]
      have h1 : (m + 1) * size = c0.length + m * size := by rw [h0, Nat.succ_mul, Nat.add_comm]
      have h2 : (m + 1) * size + size = c0.length + (m * size + size) := by rw [h1, Nat.add_assoc]
      rw [h2, h1, List.take_length_add_append, List.drop_length_add_append]
      simp

section
variable {P : Program} {C : Ctx} {w0 : World} {S0 O0 : Nat → Prop} {pl0 : List Value} {s : St} {a : Act} {w : World} {S : Nat → Prop} {pl : List Value}

theorem vals_fill (hp : Hp w S s.tab pl) (he : EnvR w S s.tab pl s.env a.tmps) {G : PC} (hG : Holds a.tmps G) {t : Ty} : ∀ {parts : List (Nat × Operand)} {n : Nat} {ys : List t.T} {l : List Nat}, s.vals G t parts n = some (ys, l) →
    ∀ (pre : List Value) (arr : Array Value), pre.length = n * t.size → arr.toList = pre ++ (List.replicate parts.length t.zero).flatten →
    ∃ css : List (List Value), Instr.fill (fun i => some (i * t.size, t.size)) arr (parts.map fun p => (p.1, a.eval p.2)) = some (pre ++ css.flatten).toArray ∧ Elems w (fun b => S b ∨ Lent s.tab pl l b) t css ys
  | [], n, ys, l, h, pre, arr, hpre, harr => by
    simp only [St.vals, Option.some.injEq, Prod.mk.injEq] at h
    obtain ⟨rfl, rfl⟩ := h
    refine ⟨[], ?_, rfl, fun i cs x hi => by simp at hi⟩
    have : arr = pre.toArray := by apply Array.toList_inj.1; simpa using harr
    simp [Instr.fill, this]
  | (i, x) :: r, n, ys, l, h, pre, arr, hpre, harr => by
    simp only [St.vals] at h
    split at h
    · rename_i hi
      obtain rfl := Nat.eq_of_beq_eq_true hi
      split at h
      · rename_i av hav
        split at h
        · rename_i y l1 ys' l2 h1 h2
          simp only [Option.some.injEq, Prod.mk.injEq] at h
          obtain ⟨rfl, rfl⟩ := h
          obtain ⟨cy, hy1, hy2⟩ := av_sound he hG hav
          have hdd : av ≠ .dd := fun e => by rw [e, toVal_dd] at h1; cases h1
          have hcell := hy1.cells hdd
          have hval := toVal_sound hp h1 hy1
          have hlen : cy.length = t.size := hval.length
          have hasz : arr.size = pre.length + ((r.length + 1) * t.size) := by
            have := congrArg List.length harr
            rw [List.length_append, flatten_length (size := t.size) (fun i cs hi => by rw [List.getElem?_replicate] at hi; split at hi <;> simp at hi; rw [← hi, t.zero_length])] at this
            simpa using this
          rw [Nat.succ_mul] at hasz
          have hset := foldl_set pre.length cy 0 arr (by omega)
          simp only [Nat.add_zero] at hset
          have harr' : ((cy.zipIdx 0).foldl (fun cs (p : Value × Nat) => cs.setIfInBounds (pre.length + p.2) p.1) arr).toList = (pre ++ cy) ++ (List.replicate r.length t.zero).flatten := by
            rw [hset, harr]
            simp only [List.length_cons, List.replicate_succ, List.flatten_cons]
            rw [List.take_left, hlen, ← t.zero_length, List.drop_append, List.drop_eq_nil_of_le (by omega)]
            simp
          obtain ⟨css, g1, g2⟩ := vals_fill hp he hG h2 (pre ++ cy) _ (by rw [List.length_append, hlen, hpre, Nat.succ_mul]) harr'
          have up : ∀ {l' : List Nat}, (∀ j ∈ l', j ∈ l1 ++ l2) → ∀ b, S b ∨ Lent s.tab pl l' b → b < w.heap.size → (S b ∨ Lent s.tab pl (l1 ++ l2) b) ∧ w.heap[b]? = w.heap[b]? := fun {l'} hs b hb _ => ⟨hb.imp id fun ⟨j, hj, ho⟩ => ⟨j, hs j hj, ho⟩, rfl⟩
          have lt' : ∀ {l' : List Nat} b, S b ∨ Lent s.tab pl l' b → b < w.heap.size := fun {l'} b hb => hb.elim (hp.stable b) fun ⟨j, _, ho⟩ => hp.lt ho
          refine ⟨cy :: css, ?_, ?_⟩
          · simp only [List.map_cons, Instr.fill, hy2, hcell]
            rw [← hpre]
            have hne : ¬ (cy.toArray.size ≠ t.size ∨ pre.length + cy.toArray.size > arr.size) := by simp; omega
            rw [if_neg (by simpa using hne)]
            have hz' : cy.toArray.zipIdx.foldl (fun cs (x : Value × Nat) => match x with | (c, j) => cs.setIfInBounds (pre.length + j) c) arr = (cy.zipIdx 0).foldl (fun cs (p : Value × Nat) => cs.setIfInBounds (pre.length + p.2) p.1) arr := by
              rw [← Array.foldl_toList]; simp
            rw [hz', g1]
            simp
          · refine ⟨by simp [g2.1], fun k cs z hk hz => ?_⟩
            cases k with
            | zero =>
              simp at hk hz
              subst hk hz
              exact hval.step (up fun j hj => List.mem_append_left _ hj) (lt' )
            | succ k =>
              exact (g2.2 k cs z (by simpa using hk) (by simpa using hz)).step (up fun j hj => List.mem_append_right _ hj) lt'
        · cases h
      · cases h
    · cases h

/-- A literal slice is laid out. -/
theorem buildSlice_run (hT : thOk P C = true) (hp : Hp w S s.tab pl) (he : EnvR w S s.tab pl s.env a.tmps) {t eid : TypeId} {e : Ty} (hf : find t C.th = some (.sl e)) (hs : find t C.se = some eid) {parts : List (Nat × Operand)} {ys : List e.T} {l : List Nat}
    (hv : s.vals [] e parts 0 = some (ys, l)) (hn2 : parts.length * e.size < 1000) :
    0 < e.size ∧ ys.length = parts.length ∧ ∃ css : List (List Value), (Instr.buildSlice t parts.length (parts.map fun p => (p.1, a.eval p.2)).toArray).run P w = .ok (.slice (some ⟨w.heap.size, 0, none⟩) parts.length parts.length) (w.alloc (.cells css.flatten.toArray eid)) ∧
      Elems w (fun b => S b ∨ Lent s.tab pl l b) e css ys := by
  obtain ⟨ti, hu, hti, hsz⟩ := thOk_elem hT hf hs
  have hzc : (pack e.isAgg e.zero).cells = e.zero.toArray := zero_cells
  obtain ⟨css, g1, g2⟩ := vals_fill hp he holds_nil hv [] (madeCells e.zero.toArray (parts.length * e.zero.length)) (by simp) (by rw [madeCells_flat]; simp)
  simp only [List.nil_append] at g1
  have hlen : ys.length = parts.length := by
    have : ∀ {parts : List (Nat × Operand)} {n : Nat} {ys : List e.T} {l : List Nat}, s.vals [] e parts n = some (ys, l) → ys.length = parts.length := by
      intro parts
      induction parts with
      | nil => intro n ys l h; simp only [St.vals, Option.some.injEq, Prod.mk.injEq] at h; rw [← h.1]; rfl
      | cons p r ih =>
        intro n ys l h
        obtain ⟨i, x⟩ := p
        simp only [St.vals] at h
        split at h
        · split at h
          · split at h
            · rename_i h2
              simp only [Option.some.injEq, Prod.mk.injEq] at h
              rw [← h.1]
              simp [ih h2]
            · cases h
          · cases h
        · cases h
    exact this hv
  have hrun : (Instr.buildSlice t parts.length (parts.map fun p => (p.1, a.eval p.2)).toArray).run P w = .ok (.slice (some ⟨w.heap.size, 0, none⟩) parts.length parts.length) (w.alloc (.cells css.flatten.toArray eid)) := by
    have hle : ¬ (parts.length * e.size > 2 ^ 24) := by omega
    unfold Instr.buildSlice
    simp only [Sem.run_bind, run_underlying hu, Result.andThen_ok, hti.sizeOf, if_neg hle, Sem.run_pure]
    have hz : (zeroValue eid).run P w = .ok (pack e.isAgg e.zero) w := by simp [zeroValue, typeInfo, hti.info, hti.zero, Result.andThen]
    by_cases h0 : parts.length * e.size = 0
    · have hm : (Array.range (parts.length * e.size)).map (fun x => (#[] : Array Value)[x % (#[] : Array Value).size]!) = madeCells e.zero.toArray (parts.length * e.zero.length) := by
        rw [e.zero_length, h0]; simp [madeCells]
      simp only [if_pos h0, Sem.run_bind, Sem.run_pure, Result.andThen_ok, hm, g1]
      simp [newRow, Result.andThen]
    · have hm : (Array.range (parts.length * e.size)).map (fun x => e.zero.toArray[x % e.zero.toArray.size]!) = madeCells e.zero.toArray (parts.length * e.zero.length) := by
        rw [e.zero_length]; rfl
      simp only [if_neg h0, Sem.run_bind, Sem.run_pure, hz, Result.andThen_ok, hzc, hm, g1]
      simp [newRow, Result.andThen]
  exact ⟨hsz, hlen, css, hrun, g2⟩

theorem opBuildSlice_sound (hT : thOk P C = true) (hi : Inv C w0 S0 O0 pl0 s a w S pl) (hpd : s.pd = []) {dst : Option Tmp} {t : TypeId} {n : Nat} {parts : List (Nat × Operand)} {g : Option Bool} {s' : St} (h : opBuildSlice C s dst t n parts = some (g, s'))
    (hd : dstOk C s [] dst = true) : ∃ u w', (Instr.buildSlice t n (parts.map fun p => (p.1, a.eval p.2)).toArray).run P w = .ok u w' ∧ ∃ S' pl', Inv C w0 S0 O0 pl0 s' (a.put dst u) w' S' pl' := by
  unfold opBuildSlice at h
  split at h
  · rename_i e eid d hf hs
    obtain ⟨ti, hu, hti, hsz⟩ := thOk_elem hT hf hs
    split at h
    · rename_i ys l hv
      split at h
      · rename_i s1 hn hs1
        simp only [Bool.and_eq_true] at hn
        obtain ⟨hn1, hn2⟩ := hn
        obtain rfl := Nat.eq_of_beq_eq_true hn1
        have hn2 : parts.length * e.size < 1000 := by rw [← Nat.blt_eq]; exact hn2
        obtain ⟨_, hlen, css, hrun, g2⟩ := buildSlice_run hT hi.hp hi.env hf hs hv hn2
        obtain ⟨S1, k1, k1p, k2, k3, k4, k5, k6⟩ := freezes_sound hi hpd hs1
        have hel : Elems w S1 e css ys := g2.step (fun b hb _ => ⟨(k2 b).2 hb, rfl⟩) (fun b hb => hb.elim (hi.hp.stable b) fun ⟨j, _, ho⟩ => hi.hp.lt ho)
        split at h
        · simp only [Option.some.injEq, Prod.mk.injEq] at h
          obtain ⟨rfl, rfl⟩ := h
          have hi1 := k1.new k1p (cs := css.flatten.toArray) (eid := eid) (e := Ent.arr eid e ys) (hv := .slice (some ⟨w.heap.size, 0, none⟩) parts.length parts.length) (fun b hb => by simp [blks, blk] at hb; exact hb.symm) (fun hp1 => by
            have hfl : css.flatten.length = parts.length * e.size := by rw [flatten_length hel.lens, hel.1, hlen]
            refine ⟨css, ⟨by rw [hfl, hlen], .inr ⟨w.heap.size, 0, parts.length, _, by rw [hlen], _root_.Go.heap_alloc_new w _, by omega, ?_, by simp [hfl], ?_⟩⟩, ?_⟩
            · have : parts.length ≤ parts.length * e.size := Nat.le_mul_of_pos_right _ hsz
              simp only [maxLen]; omega
            · simp only [List.drop_zero]
              rw [hlen, ← hfl]; exact List.take_length
            · exact hel.step (fun b hb _ => ⟨hb, Below.heap_alloc _ _ _ (k1.hp.stable b hb)⟩) k1.hp.stable)
          exact ⟨_, _, hrun, S1, _, hi1.put (by rw [← hd, ← k5]; rfl) (.inl ⟨[_], ⟨eid, e, ys, .slice (some ⟨w.heap.size, 0, none⟩) parts.length parts.length, by simp, by rw [← k1.hp.len]; simp, ⟨_, _, _, rfl⟩, rfl⟩, rfl⟩)⟩
        · simp only [Option.some.injEq, Prod.mk.injEq] at h
          obtain ⟨rfl, rfl⟩ := h
          have hi1 := k1.newS k1p (.cells css.flatten.toArray eid)
          refine ⟨_, _, hrun, _, _, hi1.put (by rw [← hd, ← k5]) (.inl ⟨[_], ?_, rfl⟩)⟩
          refine ⟨_, _, _, rfl, hlen.symm, Nat.le_refl _, .inr ⟨w.heap.size, 0, rfl, .inr rfl, fun i x hx => ?_⟩⟩
          have hlt : i < css.length := by rw [hel.1]; exact (List.getElem?_eq_some_iff.1 hx).1
          refine ⟨css[i], ?_, ?_⟩
          · intro q v hq
            have := flatten_at hel.lens (List.getElem?_eq_getElem hlt) hq
            simp only [World.cell?, _root_.Go.heap_alloc_new, Option.isSome_none, Bool.false_eq_true, if_false, Nat.zero_add]
            simpa using this
          · exact (hel.2 i css[i] x (List.getElem?_eq_getElem hlt) hx).step (fun b hb _ => ⟨.inl hb, Below.heap_alloc _ _ _ (k1.hp.stable b hb)⟩) k1.hp.stable
      · cases h
    · cases h
  · cases h

theorem avT_sound (he : EnvR w S s.tab pl s.env a.tmps) {G : PC} (hG : Holds a.tmps G) {t : TypeId} {x : Operand} {v : AV} (h : avT C s G t x = some v) : ∃ cs, v.R w S s.tab pl cs ∧ a.eval x = pack v.isAgg cs := by
  unfold avT at h
  split at h
  · rename_i b hb
    obtain rfl := Option.some.inj h
    obtain ⟨cs, h1, h2⟩ := opMove_sound he hG hb
    exact ⟨cs, h1, h2⟩
  · cases h

theorem run_newVar {id : TypeId} {v : Value} : (newVar id v).run P w = .ok ⟨w.heap.size, 0, none⟩ (w.alloc (.cells v.cells id)) := by
  simp [newVar, newRow, Result.andThen]

theorem opBox_sound (hi : Inv C w0 S0 O0 pl0 s a w S pl) (hpd : s.pd = []) {dst : Option Tmp} {t : TypeId} {x : Operand} {g : Option Bool} {s' : St} (h : opBox C s dst t x = some (g, s')) (hd : dstOk C s [] dst = true) :
    ∃ u w', (Instr.box t (a.eval x)).run P w = .ok u w' ∧ ∃ S' pl', Inv C w0 S0 O0 pl0 s' (a.put dst u) w' S' pl' := by
  have hrun : (Instr.box t (a.eval x)).run P w = .ok (.pointer (some ⟨w.heap.size, 0, none⟩)) (w.alloc (.cells (a.eval x).cells t)) := by
    simp only [Instr.box, Sem.run_bind, run_newVar, Result.andThen_ok, Sem.run_pure]
  unfold opBox at h
  split at h
  · rename_i e av d hf hx
    obtain ⟨cs, h1, h2⟩ := avT_sound hi.env holds_nil hx
    split at h
    · split at h
      · rename_i hfit
        simp only [Option.some.injEq, Prod.mk.injEq] at h
        obtain ⟨rfl, rfl⟩ := h
        have hdd : av ≠ .dd := fun k => by rw [k] at hfit; simp only [AV.explode] at hfit; rw [AV.fits_dd] at hfit; cases hfit
        have hcell := h1.cells hdd
        rw [← h2] at hcell
        rw [hcell] at hrun
        have hi1 := hi.new hpd (cs := cs.toArray) (eid := t) (e := Ent.box av.explode) (hv := .pointer (some ⟨w.heap.size, 0, none⟩)) (fun b hb => by simp [blks, blk] at hb; exact hb.symm) (fun hp1 =>
          ⟨w.heap.size, cs, t, rfl, _root_.Go.heap_alloc_new w _, (AV.explode_R h1).keep (fun b hb _ => ⟨hb, Below.heap_alloc _ _ _ (hi.hp.stable b hb)⟩) hi.hp.stable (Keep.push hi.hp.len _ _)⟩)
        exact ⟨_, _, hrun, S, _, hi1.put (by exact hd) (.inl ⟨[_], ⟨av.explode, w.heap.size, by simp, by rw [← hi.hp.len]; simp, rfl⟩, rfl⟩)⟩
      · cases h
    · split at h
      · rename_i y l hv
        split at h
        · rename_i s1 hs1
          simp only [Option.some.injEq, Prod.mk.injEq] at h
          obtain ⟨rfl, rfl⟩ := h
          have hdd : av ≠ .dd := fun k => by rw [k, toVal_dd] at hv; cases hv
          have hcell := h1.cells hdd
          rw [← h2] at hcell
          rw [hcell] at hrun
          obtain ⟨S1, k1, k1p, k2, k3, k4, k5, k6⟩ := freezes_sound hi hpd hs1
          have hval := toVal_sound hi.hp hv h1
          have hi1 := k1.newS k1p (.cells cs.toArray t)
          refine ⟨_, _, hrun, _, _, hi1.put (by rw [← hd, ← k5]) (.inl ⟨[_], ?_, rfl⟩)⟩
          refine ⟨w.heap.size, 0, rfl, .inr rfl, cs, Cells.of_block (_root_.Go.heap_alloc_new w _), ?_⟩
          refine hval.step (fun b hb hlt => ⟨.inl ((k2 b).2 hb), Below.heap_alloc _ _ _ hlt⟩) (fun b hb => hb.elim (hi.hp.stable b) fun ⟨j, _, ho⟩ => hi.hp.lt ho)
        · cases h
      · cases h
  · cases h

theorem opAlloc_sound (hT : thOk P C = true) (hi : Inv C w0 S0 O0 pl0 s a w S pl) (hpd : s.pd = []) {dst : Option Tmp} {t : TypeId} {g : Option Bool} {s' : St} (h : opAlloc C s dst t = some (g, s')) (hd : dstOk C s [] dst = true) :
    ∃ u w', (Instr.alloc t true (.tuple #[])).run P w = .ok u w' ∧ ∃ S' pl', Inv C w0 S0 O0 pl0 s' (a.put dst u) w' S' pl' := by
  unfold opAlloc at h
  split at h
  · rename_i e hf
    simp only [Option.some.injEq, Prod.mk.injEq] at h
    obtain ⟨rfl, rfl⟩ := h
    obtain ⟨d, i, hti⟩ := thOk_find hT hf
    have hrun : (Instr.alloc t true (.tuple #[])).run P w = .ok (.pointer (some ⟨w.heap.size, 0, none⟩)) (w.alloc (.cells e.zero.toArray t)) := by
      simp only [Instr.alloc, zeroValue, typeInfo, Sem.run_bind, hti.info, Result.andThen_ok, Sem.run_pure, hti.zero, run_newVar, zero_cells, program, Sem.run]
    have hi1 := hi.new hpd (cs := e.zero.toArray) (eid := t) (e := Ent.box (e.zeroAV.eids C.th)) (hv := .pointer (some ⟨w.heap.size, 0, none⟩)) (fun b hb => by simp [blks, blk] at hb; exact hb.symm) (fun hp1 =>
      ⟨w.heap.size, e.zero, t, rfl, _root_.Go.heap_alloc_new w _, AV.eids_R.2 (Ty.zeroAV_R e)⟩)
    exact ⟨_, _, hrun, S, _, hi1.put (by cases dst <;> exact hd) (.inl ⟨[_], ⟨e.zeroAV.eids C.th, w.heap.size, by simp, by rw [← hi.hp.len]; simp, rfl⟩, rfl⟩)⟩
  · cases h

/-- A variable in a block is written. -/
theorem run_storeVar {id : TypeId} {t : Ty} {d : TypeDesc} {i : TypeInfo} (hti : TyOk P C id t d i) {b o : Nat} {cur : Array Value} {eid : TypeId} (hb : w.heap[b]? = some (.cells cur eid (0, 0))) {v : Value} {cs : List Value} (hv : v.cells = cs.toArray)
    (hl : cs.length = t.size) (hfit : o + t.size ≤ cur.size) (h1 : ∀ u ∈ cs, u.oneCell' = true) :
    (storeVar id ⟨b, o, none⟩ v).run P w = .ok () (w.setRow b (cur.toList.take o ++ cs ++ cur.toList.drop (o + cs.length)).toArray) := by
  have hst := run_storeCells_at P b o eid cs 0 cur w hb (by omega) h1
  simp only [Nat.add_zero] at hst
  unfold storeVar
  simp [hti.sizeOf, Result.andThen, hv, hl, hst]

theorem grownBy_setRow {b : Nat} {cs : Array Value} : w.grownBy (w.setRow b cs) (some b) := ⟨rfl, rfl, rfl, by simp, fun k _ hk => setRow_other w b k _ (fun e => hk (by rw [e]))⟩

theorem opStore_sound (hT : thOk P C = true) (hi : Inv C w0 S0 O0 pl0 s a w S pl) (hpd : s.pd = []) {dst : Option Tmp} {t : TypeId} {x y : Operand} {g : Option Bool} {s' : St} (h : opStore C s t x y = some (g, s')) (hd : dstOk C s [] dst = true) :
    ∃ w', (Instr.storeAt t (a.eval x) (a.eval y)).run P w = .ok () w' ∧ ∃ S' pl', Inv C w0 S0 O0 pl0 (s'.put dst .dd []) (a.put dst undef) w' S' pl' := by
  unfold opStore at h
  split at h
  · rename_i e i off t' v hf hx hy
    obtain ⟨d, ti, hti⟩ := thOk_find hT hf
    obtain ⟨cy, hy1, hy2⟩ := avT_sound hi.env holds_nil hy
    obtain ⟨cx, hx1, hx2⟩ := av_sound hi.env holds_nil hx
    split at h
    · rename_i c hb
      split at h
      · rename_i hfit
        split at h
        · rename_i c' hput
          simp only [Option.some.injEq, Prod.mk.injEq] at h
          obtain ⟨rfl, rfl⟩ := h
          simp only [AV.R] at hx1
          obtain ⟨c0, b, g1, g2, rfl⟩ := hx1
          obtain ⟨b', cs', eid, g3, g4, g5⟩ := hi.hp.ent i _ _ hb g2
          rw [Value.pointer.injEq] at g3
          simp only [Option.some.injEq, Addr.mk.injEq, and_true] at g3
          subst g3
          have hdd : v ≠ .dd := fun k => by rw [k] at hfit; simp only [AV.explode] at hfit; rw [AV.fits_dd] at hfit; cases hfit
          have hcell := hy1.cells hdd
          rw [← hy2] at hcell
          obtain ⟨c1, c2, c3, rfl, k1, k2, k3⟩ := putAt_spec hfit hput g5
          have hyl : cy.length = e.size := by rw [(AV.explode_R hy1).length, (AV.fits_agg hfit).2]
          have hrun := run_storeVar (P := P) hti (o := off) g4 hcell hyl (by simp; omega) (AV.R.oneCell hfit (AV.explode_R hy1))
          have hcur : ((c1 ++ c2 ++ c3).toArray.toList.take off ++ cy ++ (c1 ++ c2 ++ c3).toArray.toList.drop (off + cy.length)) = c1 ++ cy ++ c3 := by
            simp only [List.append_assoc]
            rw [← k1, List.take_left, hyl, ← k2, ← List.drop_drop, List.drop_left, List.drop_left]
          rw [hcur] at hrun
          refine ⟨w.setRow b (c1 ++ cy ++ c3).toArray, ?_, S, pl, ?_⟩
          · rw [hx2]
            simp only [pack, AV.isAgg, Bool.false_eq_true, if_false, List.headD_cons, Instr.storeAt, Instr.sureAddr, Sem.run_bind, Sem.run_pure, Result.andThen_ok]
            exact hrun
          have hS : ∀ b', S b' → b' < w.heap.size → S b' ∧ (w.setRow b (c1 ++ cy ++ c3).toArray).heap[b']? = w.heap[b']? := fun b' hb' _ => ⟨hb', setRow_other w b b' _ fun e => hi.hp.off i b ⟨_, _, hb, rfl, g2, rfl⟩ (e ▸ hb')⟩
          have hk : ∀ j, Keep s.tab pl (setAt i (.box c') s.tab) pl j := Keep.inplace hb (.inr (.inl ⟨_, _, rfl, rfl⟩))
          have hp' : Hp (w.setRow b (c1 ++ cy ++ c3).toArray) S (setAt i (.box c') s.tab) pl := hi.hp.inplace hb g2 (.inr (.inl ⟨_, _, rfl, rfl⟩)) (by simp) (fun b' _ hb' => setRow_other w b b' _ fun e => hb' (by subst e; rfl))
            ⟨b, _, eid, rfl, setRow_heap w b _ _ _ _ g4, (k3 (AV.explode_R hy1)).keep hS hi.hp.stable hk⟩
          have hi' : Inv C w0 S0 O0 pl0 { s with tab := setAt i (.box c') s.tab } a (w.setRow b (c1 ++ cy ++ c3).toArray) S pl := by
            refine hi.to hp' ⟨rfl, rfl, rfl, by simp, fun b' hb' hn => setRow_other w b b' _ fun e => hn ⟨i, e ▸ ⟨_, _, hb, rfl, g2, rfl⟩⟩⟩ (fun j b' ⟨e1, v1, q1, q2, q3, q4⟩ => .inl ?_) (fun b hb => hb) (fun _ _ _ h => h) ?_ (fun b hb => .inl hb)
            · by_cases hj : j = i
              · subst hj; exact ⟨_, v1, hb, rfl, q3, q4⟩
              · rw [setAt_ne hj] at q1; exact ⟨e1, v1, q1, q2, q3, q4⟩
            · exact hi.env.keep hS hi.hp.stable hk
          exact hi'.put (d := dst) (G := []) (v := .dd) (u := undef) (by cases dst <;> exact hd) (.inl trivial)
        · cases h
      · cases h
    · cases h
  · rename_i e i j e' v hf hx hy
    obtain ⟨d, ti, hti⟩ := thOk_find hT hf
    obtain ⟨cy, hy1, hy2⟩ := avT_sound hi.env holds_nil hy
    obtain ⟨cx, hx1, hx2⟩ := av_sound hi.env holds_nil hx
    split at h
    · rename_i z l hv
      split at h
      · rename_i s1 hil hs1
        split at h
        · rename_i eid e'' xs hb
          split at h
          · rename_i hee
            obtain ⟨rfl, rfl⟩ := hee
            simp only [Option.some.injEq, Prod.mk.injEq] at h
            obtain ⟨rfl, rfl⟩ := h
            simp only [castD_self]
            have hdd : v ≠ .dd := fun k => by rw [k, toVal_dd] at hv; cases hv
            have hcell := hy1.cells hdd
            rw [← hy2] at hcell
            have hval := toVal_sound hi.hp hv hy1
            obtain ⟨S1, k1, k1p, k2, k3, k4, k5, k6⟩ := freezes_sound hi hpd hs1
            have hval' : Ty.R w S1 e' cy z := hval.step (fun b hb _ => ⟨(k2 b).2 hb, rfl⟩) (fun b hb => hb.elim (hi.hp.stable b) fun ⟨j, _, ho⟩ => hi.hp.lt ho)
            simp only [AV.R] at hx1
            obtain ⟨eid', xs', gb, o, n, c, g1, g2, g3, g4, rfl⟩ := hx1
            have hb0 := (k6 i eid e' xs (has_false hil)).1 hb
            rw [hb0] at g1
            simp only [Option.some.injEq, Ent.arr.injEq, heq_eq_eq, true_and] at g1
            obtain ⟨rfl, rfl⟩ := g1
            obtain ⟨css, hrow, hel⟩ := k1.hp.ent i _ _ hb g2
            rcases hrow.2 with ⟨q2, _⟩ | ⟨g', o', cap, cur, q2, hg, hn, hm, hsz, htk⟩
            · cases q2
            · cases q2
              have hjlt : j.toNat < xs.length := by omega
              have hyl : cy.length = e'.size := hval'.length
              have hbound : o + j.toNat * e'.size + e'.size ≤ cur.size := by
                have h1 : (j.toNat + 1) * e'.size ≤ c * e'.size := Nat.mul_le_mul_right _ (by omega)
                rw [Nat.succ_mul] at h1
                omega
              have hrun := run_storeVar (P := P) hti (o := o + j.toNat * e'.size) hg hcell hyl hbound hval'.oneCell
              refine ⟨w.setRow gb (cur.toList.take (o + j.toNat * e'.size) ++ cy ++ cur.toList.drop (o + j.toNat * e'.size + cy.length)).toArray, ?_, S1, pl, ?_⟩
              · rw [hx2]
                simp only [pack, AV.isAgg, Bool.false_eq_true, if_false, List.headD_cons, Instr.storeAt, Instr.sureAddr, Sem.run_bind, Sem.run_pure, Result.andThen_ok]
                exact hrun
              have hfl : css.flatten.length = xs.length * e'.size := by rw [flatten_length hel.lens, hel.1]
              -- the row with the element set
              have hrow' : Row (w.setRow gb (cur.toList.take (o + j.toNat * e'.size) ++ cy ++ cur.toList.drop (o + j.toNat * e'.size + cy.length)).toArray) eid e'.size (.slice (some ⟨gb, o, none⟩) xs.length c) xs.length (css.set j.toNat cy).flatten := by
                have hcur : (cur.toList.take (o + j.toNat * e'.size) ++ cy ++ cur.toList.drop (o + j.toNat * e'.size + cy.length)).length = cur.size := by
                  simp only [List.length_append, List.length_take, List.length_drop, Array.length_toList]; omega
                refine ⟨?_, .inr ⟨gb, o, c, _, rfl, setRow_heap w gb cur _ eid _ hg, hn, hm, by rw [List.size_toArray, hcur]; exact hsz, ?_⟩⟩
                · rw [flatten_length (size := e'.size) (fun q cs hq => ?_)]
                  · simp [hel.1]
                  · rw [List.getElem?_set] at hq
                    split at hq
                    · split at hq
                      · obtain rfl := Option.some.inj hq; exact hyl
                      · cases hq
                    · exact hel.lens q cs hq
                · -- by the parts of the flattened list
                  rw [flatten_set hel.lens (by rw [hel.1]; exact hjlt), ← htk]
                  have h2 : (j.toNat + 1) * e'.size ≤ xs.length * e'.size := Nat.mul_le_mul_right _ (by omega)
                  rw [Nat.succ_mul] at h2
                  have h3 : xs.length * e'.size ≤ c * e'.size := Nat.mul_le_mul_right _ hn
                  have := list_row_set cur.toList o (j.toNat * e'.size) e'.size (xs.length * e'.size) cy hyl (by omega) (by have hcl : cur.toList.length = cur.size := Array.length_toList; omega)
                  simpa using this
              have hS : ∀ b', S1 b' → b' < w.heap.size → S1 b' ∧ (w.setRow gb (cur.toList.take (o + j.toNat * e'.size) ++ cy ++ cur.toList.drop (o + j.toNat * e'.size + cy.length)).toArray).heap[b']? = w.heap[b']? := fun b' hb' _ =>
                ⟨hb', setRow_other w gb b' _ fun e => k1.hp.off i gb ⟨_, _, hb, rfl, g2, rfl⟩ (e ▸ hb')⟩
              have hkind : (∃ (eid1 : TypeId) (e1 : Ty) (x1 x2 : List e1.T), Ent.arr eid e' xs = .arr eid1 e1 x1 ∧ Ent.arr eid e' (xs.set j.toNat z) = .arr eid1 e1 x2 ∧ x2.length = x1.length) ∨ (∃ a1 a2, Ent.arr eid e' xs = .box a1 ∧ Ent.arr eid e' (xs.set j.toNat z) = .box a2) ∨ (∃ eid0 eid1 e1 x1 x2, Ent.arr eid e' xs = .rows eid0 eid1 e1 x1 ∧ Ent.arr eid e' (xs.set j.toNat z) = .rows eid0 eid1 e1 x2) :=
                .inl ⟨eid, e', xs, xs.set j.toNat z, rfl, rfl, by simp⟩
              have hk : ∀ q, Keep s1.tab pl (setAt i (.arr eid e' (xs.set j.toNat z)) s1.tab) pl q := Keep.inplace hb hkind
              have hp' := k1.hp.inplace (w' := w.setRow gb (cur.toList.take (o + j.toNat * e'.size) ++ cy ++ cur.toList.drop (o + j.toNat * e'.size + cy.length)).toArray) (e' := .arr eid e' (xs.set j.toNat z)) hb g2 hkind (by simp) (fun b' _ hb' => setRow_other w gb b' _ fun e => hb' (by subst e; rfl))
                ⟨css.set j.toNat cy, by simpa using hrow', by simp [hel.1], fun q cs x hq hx => by
                  rw [List.getElem?_set] at hq hx
                  split at hq
                  · rename_i hjq
                    rw [if_pos hjq] at hx
                    split at hq
                    · obtain rfl := Option.some.inj hq
                      rw [if_pos hjlt] at hx
                      obtain rfl := Option.some.inj hx
                      exact hval'.step hS k1.hp.stable
                    · cases hq
                  · rename_i hjq
                    rw [if_neg hjq] at hx
                    exact (hel.2 q cs x hq hx).step hS k1.hp.stable⟩
              have hi' : Inv C w0 S0 O0 pl0 { s1 with tab := setAt i (.arr eid e' (xs.set j.toNat z)) s1.tab } a (w.setRow gb (cur.toList.take (o + j.toNat * e'.size) ++ cy ++ cur.toList.drop (o + j.toNat * e'.size + cy.length)).toArray) S1 pl := by
                refine k1.to hp' ⟨rfl, rfl, rfl, by simp, fun b' hb' hn => setRow_other w gb b' _ fun e => hn ⟨i, e ▸ ⟨_, _, hb, rfl, g2, rfl⟩⟩⟩ (fun q b' ⟨e1, v1, q1, q2, q3, q4⟩ => .inl ?_) (fun b hb => hb) (fun _ _ _ h => h) ?_ (fun b hb => .inl hb)
                · by_cases hj : q = i
                  · subst hj; exact ⟨_, v1, hb, rfl, q3, q4⟩
                  · rw [setAt_ne hj] at q1; exact ⟨e1, v1, q1, q2, q3, q4⟩
                · exact k1.env.keep hS k1.hp.stable hk
              exact hi'.put (d := dst) (G := []) (v := .dd) (u := undef) (by rw [← hd, ← k5]; cases dst <;> rfl) (.inl trivial)
          · cases h
        · cases h
      · cases h
    · cases h
  · cases h

/-- All operations that change the table. -/
theorem effOp_sound (hT : thOk P C = true) (hi : Inv C w0 S0 O0 pl0 s a w S pl) (hpd : s.pd = []) {o : Oper} {g : Option Bool} {s' : St} (h : effOp C s o = some (g, s')) (hg : g ≠ some false) (hd : dstOk C s [] o.dst = true) :
    ∃ u w', ((execOp a.eval o).run P w = .ok (.value u) w' ∨ ((execOp a.eval o).run P w = .ok .skip w' ∧ u = undef)) ∧ ∃ S' pl', Inv C w0 S0 O0 pl0 s' (a.put o.dst u) w' S' pl' := by
  obtain ⟨dst, op, ty, pos, af, gd⟩ := o
  have lift : ∀ {x : Sem Value}, (∃ u w', x.run P w = .ok u w' ∧ ∃ S' pl', Inv C w0 S0 O0 pl0 s' (a.put dst u) w' S' pl') →
      ∃ u w', ((do pure (Next.value (← x)) : Sem Next).run P w = .ok (.value u) w' ∨ ((do pure (Next.value (← x)) : Sem Next).run P w = .ok .skip w' ∧ u = undef)) ∧ ∃ S' pl', Inv C w0 S0 O0 pl0 s' (a.put dst u) w' S' pl' := fun ⟨u, w', h1, h2⟩ =>
    ⟨u, w', .inl (by simp only [Sem.run_bind, h1, Result.andThen_ok, Sem.run_pure]), h2⟩
  unfold effOp at h
  simp only at h
  split at h
  · rename_i args tys
    split at h
    · rename_i x y t t' hargs htys
      split at h
      · rename_i htt
        obtain rfl := Nat.eq_of_beq_eq_true htt
        have ha : args = #[x, y] := by apply Array.toList_inj.1; simpa using hargs
        have ht : tys = #[t, t] := by apply Array.toList_inj.1; simpa using htys
        subst ha ht
        obtain ⟨u, w', h1, h2⟩ := opAppend_sound (ty := ty) hT hi hpd h hg hd
        exact ⟨u, w', .inl (by simp only [execOp, resolve, invoke, builtin, Sem.run_bind, Sem.run_pure, Result.andThen_ok, List.map_toArray, List.map_cons, List.map_nil, h1]), h2⟩
      · cases h
    · cases h
  · exact lift (opMake_sound hT hi hpd h hg hd)
  · split at h
    · exact lift (opReslice_sound hT hi hpd h hg hd)
    · cases h
  · rename_i t n parts
    obtain ⟨u, w', h1, h2⟩ := opBuildSlice_sound hT hi hpd h hd
    refine lift ⟨u, w', ?_, h2⟩
    rw [← h1]
    congr 2
    apply Array.toList_inj.1
    simp
  · exact lift (opBox_sound hi hpd h hd)
  · exact lift (opAlloc_sound hT hi hpd h hd)
  · split at h
    · rename_i g' s1 hst
      simp only [Option.some.injEq, Prod.mk.injEq] at h
      obtain ⟨rfl, rfl⟩ := h
      obtain ⟨w', h1, h2⟩ := opStore_sound hT hi hpd hst hd
      exact ⟨undef, w', .inr ⟨by simp only [execOp, Sem.run_bind, h1, Result.andThen_ok, Sem.run_pure], rfl⟩, h2⟩
    · cases h
  · cases h

end

end Go.Lg
