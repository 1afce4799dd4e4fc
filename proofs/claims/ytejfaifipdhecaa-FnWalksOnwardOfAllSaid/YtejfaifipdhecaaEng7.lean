/-
  The operations that leave the table alone, the third part, and all of them.
-/
import Derived.Test.YtejfaifipdhecaaEng6
set_option linter.unusedVariables false
set_option linter.unusedSimpArgs false
namespace Go.Lg
open Go.RowKit

/-- The cells of a value in a slot. -/
theorem AV.R.cells {w : World} {S : Nat → Prop} {tab : List Ent} {pl : List Value} {a : AV} {cs : List Value} (h : a.R w S tab pl cs) (hd : a ≠ .dd) : (pack a.isAgg cs).cells = cs.toArray := by
  cases a with
  | val t x =>
    simp only [AV.R] at h
    cases t with
    | pt e => cases x with
      | none => simp only [Ty.R] at h; subst h; rfl
      | some y => simp only [Ty.R] at h; obtain ⟨_, _, rfl, _⟩ := h; rfl
    | sl e => simp only [Ty.R] at h; obtain ⟨_, _, _, rfl, _⟩ := h; rfl
    | int k => simp only [Ty.R] at h; subst h; rfl
    | bool => simp only [Ty.R] at h; subst h; rfl
    | str => simp only [Ty.R] at h; subst h; rfl
    | unit => rfl
    | pair a b => rfl
  | own i =>
    simp only [AV.R] at h
    obtain ⟨eid, e, xs, hv, h1, h2, ⟨ad, n, c, rfl⟩, rfl⟩ := h
    rfl
  | nsl => simp only [AV.R] at h; subst h; rfl
  | npt => simp only [AV.R] at h; subst h; rfl
  | bx i o t => simp only [AV.R] at h; obtain ⟨_, _, _, _, rfl⟩ := h; rfl
  | ela i o t => simp only [AV.R] at h; obtain ⟨_, _, _, _, _, _, _, _, _, _, rfl⟩ := h; rfl
  | xr i t =>
    simp only [AV.R] at h
    obtain ⟨_, _, _, _, outer, hs, c, _, _, h3, rfl⟩ := h
    cases t with
    | top => obtain ⟨_, _, _, _, rfl⟩ := XT.top_inv h3; rfl
    | cell j => obtain ⟨_, _, _, _, _, _, _, rfl⟩ := XT.cell_inv h3; rfl
    | row j => obtain ⟨_, _, _, _, _, rfl⟩ := XT.row_inv h3; rfl
  | fn f c => simp only [AV.R] at h; obtain ⟨_, rfl, _⟩ := h; rfl
  | pr a b => rfl
  | un => rfl
  | dd => exact absurd rfl hd
  | ub c => simp only [AV.R] at h; obtain ⟨_, rfl, _⟩ := h; rfl

theorem Value.cells_toList (cs : List Value) : (Value.agg cs.toArray).cells = cs.toArray := rfl

/-! the parts of a struct put into its cells -/

theorem foldl_set (off : Nat) : ∀ (vs : List Value) (k : Nat) (arr : Array Value), off + k + vs.length ≤ arr.size →
    ((vs.zipIdx k).foldl (fun cs (p : Value × Nat) => cs.setIfInBounds (off + p.2) p.1) arr).toList = arr.toList.take (off + k) ++ vs ++ arr.toList.drop (off + k + vs.length)
  | [], k, arr, _ => by simp
  | v :: vs, k, arr, h => by
    simp only [List.length_cons] at h
    simp only [List.zipIdx_cons, List.foldl_cons]
    rw [foldl_set off vs (k + 1) _ (by simp; omega)]
    have hlt : off + k < arr.toList.length := by simp; omega
    simp only [Array.toList_setIfInBounds, List.length_cons]
    rw [List.drop_set_of_lt (by omega), List.take_set]
    have e1 : off + (k + 1) + vs.length = off + k + (vs.length + 1) := by omega
    rw [e1]
    congr 1
    rw [show off + (k + 1) = off + k + 1 from rfl, List.take_add_one, List.getElem?_eq_getElem hlt]
    have hm : min (off + k) arr.size = off + k := by omega
    simp [List.set_append, List.length_take, hm]

def Ty.places : Ty → Nat → List (Nat × Nat)
  | .pair a b, o => (o, a.size) :: b.places (o + a.size)
  | _, _ => []

section ops
variable {P : Program} {C : Ctx} (hT : thOk P C = true) {w : World} {S : Nat → Prop} {s : St} {pl : List Value} {a : Act}
  (he : EnvR w S s.tab pl s.env a.tmps) {G : PC} (hG : Holds a.tmps G)

theorem Ty.zeroAV_R {tab : List Ent} : (t : Ty) → t.zeroAV.R w S tab pl t.zero
  | .pair a b => ⟨_, _, rfl, Ty.zeroAV_R a, Ty.zeroAV_R b⟩
  | .unit => rfl
  | .sl e => rfl
  | .pt _ => rfl
  | .int _ => rfl
  | .bool => rfl
  | .str => rfl

theorem AV.fits_dd {t : Ty} : AV.fits .dd t = false := by cases t <;> rfl

include he hG in
/-- The fields from the n-th on, in the cells that follow pre. -/
theorem build_sound {place : Nat → Option (Nat × Nat)} : ∀ {t : Ty} {n : Nat} {r : List (Nat × Operand)} {av : AV}, buildGo s G t n r = some av → ∀ (pre : List Value) (arr : Array Value),
    (∀ i, place (n + i) = (t.places pre.length)[i]?) → arr.toList = pre ++ t.zero →
    ∃ cs, Instr.fill place arr (r.map fun p => (p.1, a.eval p.2)) = some (pre ++ cs).toArray ∧ av.R w S s.tab pl cs ∧ av.isAgg = true
  | .unit, n, [], av, h, pre, arr, hpl, harr => by
    simp only [buildGo, Option.some.injEq] at h
    subst h
    refine ⟨[], ?_, rfl, rfl⟩
    simp only [List.map_nil, Instr.fill, Option.some.injEq]
    simp only [Ty.zero] at harr
    rw [← harr]
  | .unit, n, _ :: _, av, h, _, _, _, _ => by simp [buildGo] at h
  | .pair p q, n, (i, x) :: r, av, h, pre, arr, hpl, harr => by
    simp only [buildGo] at h
    have hp0 : place n = some (pre.length, p.size) := by have := hpl 0; simpa [Ty.places] using this
    have hps : ∀ i, place (n + 1 + i) = (q.places (pre.length + p.size))[i]? := fun i => by
      have := hpl (i + 1)
      rw [Nat.add_comm i 1, ← Nat.add_assoc] at this
      rw [this, Nat.add_comm 1 i]
      simp [Ty.places]
    split at h
    · rename_i hi
      obtain rfl := Nat.eq_of_beq_eq_true hi
      -- the part that is put
      have put : ∀ (y : AV) (z : AV), s.av G x = some y → y.isAgg = p.isAgg ∧ y.size = p.size → y ≠ .dd → buildGo s G q (i + 1) r = some z → ∃ cs, Instr.fill place arr (((i, x) :: r).map fun p => (p.1, a.eval p.2)) = some (pre ++ cs).toArray ∧ (AV.pr y z).R w S s.tab pl cs ∧ (AV.pr y z).isAgg = true := by
        intro y z hy hsz hdd hz
        obtain ⟨cy, hy1, hy2⟩ := av_sound he hG hy
        have hcell := hy1.cells hdd
        have hlen : cy.length = p.size := by rw [hy1.length, hsz.2]
        have hasz : arr.size = pre.length + (p.size + q.size) := by
          have := congrArg List.length harr
          simpa [Ty.zero, Ty.zero_length] using this
        have hset := foldl_set pre.length cy 0 arr (by omega)
        simp only [Nat.add_zero] at hset
        have harr' : ((cy.zipIdx 0).foldl (fun cs (p : Value × Nat) => cs.setIfInBounds (pre.length + p.2) p.1) arr).toList = (pre ++ cy) ++ q.zero := by
          rw [hset, harr]
          simp only [Ty.zero]
          rw [List.take_left, hlen, ← p.zero_length, List.drop_append, List.drop_eq_nil_of_le (by omega)]
          simp
        obtain ⟨cs, h1, h2, h3⟩ := build_sound hz (pre ++ cy) _ (by rw [List.length_append, hlen]; exact hps) harr'
        refine ⟨cy ++ cs, ?_, ⟨cy, cs, rfl, hy1, h2⟩, rfl⟩
        simp only [List.map_cons, Instr.fill, hp0, hy2, hcell]
        have hne : ¬ (cy.toArray.size ≠ p.size ∨ pre.length + cy.toArray.size > arr.size) := by simp; omega
        rw [if_neg (by simpa using hne)]
        have hz' : cy.toArray.zipIdx.foldl (fun cs (x : Value × Nat) => match x with | (c, j) => cs.setIfInBounds (pre.length + j) c) arr = (cy.zipIdx 0).foldl (fun cs (p : Value × Nat) => cs.setIfInBounds (pre.length + p.2) p.1) arr := by
          rw [← Array.foldl_toList]; simp
        rw [hz', h1]
        simp
      split at h
      · rename_i y hy
        split at h
        · rename_i hf
          split at h
          · rename_i z hz
            obtain rfl := Option.some.inj h
            exact put y z hy (AV.fits_agg hf) (fun e => by rw [e, AV.fits_dd] at hf; cases hf) hz
          · cases h
        · split at h
          · rename_i t z
            split at h
            · rename_i ht; subst ht
              split at h
              · rename_i w' hz
                obtain rfl := Option.some.inj h
                exact put _ w' hy ⟨rfl, rfl⟩ (by simp) hz
              · cases h
            · cases h
          · cases h
      · cases h
    · split at h
      · rename_i z hz
        obtain rfl := Option.some.inj h
        obtain ⟨cs, h1, h2, h3⟩ := build_sound hz (pre ++ p.zero) arr (by rw [List.length_append, p.zero_length]; exact hps) (by rw [harr]; simp [Ty.zero])
        exact ⟨p.zero ++ cs, by rw [h1]; simp, ⟨_, _, rfl, Ty.zeroAV_R p, h2⟩, rfl⟩
      · cases h
  | .pair p q, n, [], av, h, pre, arr, hpl, harr => by
    simp only [buildGo] at h
    have hps : ∀ i, place (n + 1 + i) = (q.places (pre.length + p.size))[i]? := fun i => by
      have := hpl (i + 1)
      rw [Nat.add_comm i 1, ← Nat.add_assoc] at this
      rw [this, Nat.add_comm 1 i]
      simp [Ty.places]
    split at h
    · rename_i z hz
      obtain rfl := Option.some.inj h
      obtain ⟨cs, h1, h2, h3⟩ := build_sound hz (pre ++ p.zero) arr (by rw [List.length_append, p.zero_length]; exact hps) (by rw [harr]; simp [Ty.zero])
      exact ⟨p.zero ++ cs, by rw [h1]; simp, ⟨_, _, rfl, Ty.zeroAV_R p, h2⟩, rfl⟩
    · cases h
  | .int _, _, _, _, h, _, _, _, _ => by simp [buildGo] at h
  | .bool, _, _, _, h, _, _, _, _ => by simp [buildGo] at h
  | .str, _, _, _, h, _, _, _, _ => by simp [buildGo] at h
  | .sl _, _, _, _, h, _, _, _, _ => by simp [buildGo] at h
  | .pt _, _, _, _, h, _, _, _, _ => by simp [buildGo] at h

theorem mapM_sem {α β : Type} (f : α → Sem β) (g : α → β) (h : ∀ (x : α) (w : World), (f x).run P w = .ok (g x) w) : ∀ (l : List α) (w : World), (l.mapM f).run P w = .ok (l.map g) w
  | [], w => by simp
  | x :: l, w => by simp only [List.mapM_cons, Sem.run_bind, h, Result.andThen_ok, mapM_sem f g h l, Sem.run_pure, List.map_cons]

theorem fieldsOk_places {th : List (TypeId × Ty)} : ∀ {t : Ty} {o : Nat} {fs : List Field}, fieldsOk th t o fs = true → ∀ (sz : Field → Nat), (∀ f ft, find f.type th = some ft → sz f = ft.size) →
    fs.map (fun f => (f.offset, sz f)) = t.places o
  | .unit, o, [], _, _, _ => rfl
  | .pair a b, o, f :: r, h, sz, hsz => by
    simp only [fieldsOk, Bool.and_eq_true, decide_eq_true_eq] at h
    obtain ⟨⟨h1, h2⟩, h3⟩ := h
    simp only [List.map_cons, Ty.places]
    rw [fieldsOk_places h3 sz hsz, Nat.eq_of_beq_eq_true h1, hsz f a h2]
  | .int _, _, _, h, _, _ => by simp [fieldsOk] at h
  | .bool, _, _, h, _, _ => by simp [fieldsOk] at h
  | .str, _, _, h, _, _ => by simp [fieldsOk] at h
  | .sl _, _, _, h, _, _ => by simp [fieldsOk] at h
  | .pt _, _, _, h, _, _ => by simp [fieldsOk] at h
  | .unit, _, _ :: _, h, _, _ => by simp [fieldsOk] at h
  | .pair _ _, _, [], h, _, _ => by simp [fieldsOk] at h

theorem fieldsOk_types {th : List (TypeId × Ty)} : ∀ {t : Ty} {o : Nat} {fs : List Field}, fieldsOk th t o fs = true → ∀ f ∈ fs, ∃ ft, find f.type th = some ft
  | .unit, o, [], _, f, hf => by simp at hf
  | .pair a b, o, g :: r, h, f, hf => by
    simp only [fieldsOk, Bool.and_eq_true, decide_eq_true_eq] at h
    obtain ⟨⟨h1, h2⟩, h3⟩ := h
    rcases List.mem_cons.1 hf with rfl | hf
    · exact ⟨a, h2⟩
    · exact fieldsOk_types h3 f hf
  | .int _, _, _, h, _, _ => by simp [fieldsOk] at h
  | .bool, _, _, h, _, _ => by simp [fieldsOk] at h
  | .str, _, _, h, _, _ => by simp [fieldsOk] at h
  | .sl _, _, _, h, _, _ => by simp [fieldsOk] at h
  | .pt _, _, _, h, _, _ => by simp [fieldsOk] at h
  | .unit, _, _ :: _, h, _, _ => by simp [fieldsOk] at h
  | .pair _ _, _, [], h, _, _ => by simp [fieldsOk] at h

/-- The size of a type as the program's table tells it. -/
def szOf (P : Program) (id : TypeId) : Nat := match P.info? id with | some i => i.size | none => 0

theorem mapM_sem_mem {α β : Type} (f : α → Sem β) (g : α → β) : ∀ (l : List α) (w : World), (∀ x ∈ l, (f x).run P w = .ok (g x) w) → (l.mapM f).run P w = .ok (l.map g) w
  | [], w, _ => by simp
  | x :: l, w, h => by
    simp only [List.mapM_cons, Sem.run_bind, h x (by simp), Result.andThen_ok, mapM_sem_mem f g l w (fun y hy => h y (by simp [hy])), Sem.run_pure, List.map_cons]

theorem AV.eids_R {th : List (TypeId × Ty)} {tab : List Ent} {pl : List Value} : ∀ {a : AV}, (a.eids th).isAgg = a.isAgg ∧ ∀ {cs : List Value}, a.R w S tab pl cs → (a.eids th).R w S tab pl cs
  | .nsl eid e => by
    unfold AV.eids
    split <;> exact ⟨rfl, fun h => h⟩
  | .pr a b => ⟨rfl, fun h => by
    simp only [AV.eids, AV.R] at h ⊢
    obtain ⟨c1, c2, rfl, h1, h2⟩ := h
    exact ⟨c1, c2, rfl, AV.eids_R.2 h1, AV.eids_R.2 h2⟩⟩
  | .val _ _ | .npt | .own _ | .bx _ _ _ | .ela _ _ _ | .xr _ _ | .fn _ _ | .un | .dd | .ub _ => ⟨rfl, fun h => h⟩

include hT he hG in
theorem opBuild_sound {t : TypeId} {parts : List (Nat × Operand)} {v : SV} (h : opBuild C s G t parts = some v) :
    ∃ u, (Instr.build t (parts.map fun p => (p.1, a.eval p.2)).toArray).run P w = .ok u w ∧ v.R w S s.tab pl u := by
  unfold opBuild at h
  split at h
  · rename_i e hf
    split at h
    · rename_i av hav
      obtain rfl := Option.some.inj h
      obtain ⟨d, i, hi⟩ := thOk_find hT hf
      have hag : e.isAgg = true := by
        cases e <;> cases parts <;> simp [buildGo] at hav <;> rfl
      have hd := hi.desc
      obtain ⟨fs, rfl, hfs⟩ : ∃ fs, d = .struct fs ∧ fieldsOk C.th e 0 fs.toList = true := by
        cases e <;> simp [Ty.isAgg] at hag <;> cases d <;> simp [descOk, Ty.isAgg] at hd <;> exact ⟨_, rfl, hd⟩
      have hz : ((zeroValue t).run P w) = .ok (.agg e.zero.toArray) w := by
        simp [zeroValue, typeInfo, hi.info, Result.andThen, hi.zero, pack, hag]
      have hm : (fs.mapM (fun f => (do pure (f.offset, ← sizeOf f.type) : Sem (Nat × Nat)))).run P w = .ok (e.places 0).toArray w := by
        rw [Array.mapM_eq_mapM_toList]
        have h1 := mapM_sem_mem (P := P) (fun f : Field => (do pure (f.offset, ← sizeOf f.type) : Sem (Nat × Nat))) (fun f => (f.offset, szOf P f.type)) fs.toList w (fun f hf' => by
          obtain ⟨ft, hft⟩ := fieldsOk_types hfs f hf'
          obtain ⟨d', i', hi'⟩ := thOk_find hT hft
          have : szOf P f.type = ft.size := by simp [szOf, hi'.info, hi'.size]
          simp only [Sem.run_bind, hi'.sizeOf, Result.andThen_ok, Sem.run_pure, this])
        rw [fieldsOk_places hfs (fun f => szOf P f.type) (fun f ft hft => by
          obtain ⟨d', i', hi'⟩ := thOk_find hT hft
          simp [szOf, hi'.info, hi'.size])] at h1
        rw [← bind_pure_comp]
        simp only [Sem.run_bind, h1, Result.andThen_ok, Sem.run_pure, Function.comp]
      obtain ⟨cs, h1, h2, h3⟩ := build_sound (place := fun i => (e.places 0).toArray[i]?) he hG hav [] e.zero.toArray (fun i => by simp) (by simp)
      refine ⟨pack av.isAgg cs, ?_, ⟨cs, AV.eids_R.2 h2, by rw [AV.eids_R (w := w) (S := S) (tab := s.tab) (pl := pl).1]⟩⟩
      rw [h3]
      simp only [List.nil_append] at h1
      simp only [Instr.build, Sem.run_bind, hz, Result.andThen_ok, run_underlying hi.under, hm, Value.cells_toList]
      rw [h1]
      simp [pack]
    · cases h
  · cases h

end ops

end Go.Lg
