/-
  From what a caller may rely on to a given row: arguments that came in are values of the engine's types.
-/
import Derived.Test.YtejfaifipdhecaaEng27
import Derived.ProofKit
import Derived.OpenShut
import Derived.ShutString
import Derived.ChangeOld
import Derived.Below
import Derived.SizedLaws
import Derived.Deep.Slices
import Derived.Carry
import Derived.JoinedOf
set_option linter.unusedVariables false
set_option linter.unusedSimpArgs false
namespace Go.Lg
open Go.RowKit Go.ChangeShapes Go.WideShapes

/-- What is known of a value that came in. -/
def Ty.ok : (t : Ty) → t.T → Prop
  | .int k, n => (Lit.int k n).wf = true
  | .bool, _ => True
  | .str, s => s.size ≤ reachBytes
  | .sl e, xs => xs.length ≤ reachBytes ∧ ∀ x ∈ xs, e.ok x
  | .unit, _ => True
  | .pair a b, x => a.ok x.1 ∧ b.ok x.2
  | .pt _, _ => True

/-- The program's type is this type: as a type, and as a list of fields from an offset on. -/
def lay (P : Program) : Ty → (TypeId → Bool) × (List Field → Nat → Bool)
  | .int k => (fun t => match P.underlying t with | some (.int k') => decide (k = k') | _ => false, fun _ _ => false)
  | .bool => (fun t => match P.underlying t with | some .bool => true | _ => false, fun _ _ => false)
  | .str => (fun t => match P.underlying t with | some .string => true | _ => false, fun _ _ => false)
  | .sl e => (fun t => match P.underlying t with | some (.slice et) => Nat.beq (P.cellsOf et) e.size && (Nat.ble 1 (P.bytesOf et) && (Nat.ble 1 e.size && (lay P e).1 et)) | _ => false, fun _ _ => false)
  | .unit => (fun t => match P.underlying t with | some (.struct fs) => Nat.beq (P.cellsOf t) 0 && Nat.beq fs.size 0 | _ => false, fun fs _ => fs.isEmpty)
  | .pair a b =>
    let r : List Field → Nat → Bool := fun fs o => match fs with
      | f :: fs => Nat.beq f.offset o && (Nat.beq (P.cellsOf f.type) a.size && ((lay P a).1 f.type && (lay P b).2 fs (o + a.size)))
      | [] => false
    (fun t => match P.underlying t with | some (.struct fs) => Nat.beq (P.cellsOf t) (a.size + b.size) && r fs.toList 0 | _ => false, r)
  | .pt _ => (fun _ => false, fun _ _ => false)

section
variable {H : Type} {enc : TypeId × Value → H} {P : Program} {w : World} {base : Nat} {spare : Nat → Bool} {held : Bool}

theorem cells_of {a : Addr} {n : Nat} {cs : List Value} (h : w.cells? base a n = some cs) : cs.length = n ∧ base ≤ a.block ∧ ∀ i v, cs[i]? = some v → w.cell? (a.add i) = some v := by
  unfold World.cells? at h
  split at h
  · rename_i hb
    have hl := mapM_some_length h
    refine ⟨by simpa using hl, hb, fun i v hi => ?_⟩
    have hlt : i < n := by have := (List.getElem?_eq_some_iff.1 hi).1; simp at hl; omega
    have := mapM_some_get h i i (by simp [hlt])
    rw [this, hi]
  · cases h

theorem spot_none {a : Addr} {v : Value} (h : w.cell? a = some v) : a.spot = none ∧ a.block < w.heap.size := by
  have hb := World.block_lt_of_cell? w a h
  unfold World.cell? at h
  split at h
  · split at h
    · cases h
    · rename_i hs
      refine ⟨?_, hb⟩
      cases hsp : a.spot with
      | none => rfl
      | some _ => rw [hsp] at hs; exact absurd rfl hs
  · cases h

theorem add_none (b o i : Nat) : (⟨b, o, none⟩ : Addr).add i = ⟨b, o + i, none⟩ := by
  unfold Addr.add
  split
  · rename_i h; subst h; rfl
  · rfl

theorem weights_fields : ∀ {ts : List TypeId} {ds : List (DataW H)} {i : Nat} {t : TypeId} {d : DataW H}, (DataW.weightsEach P ts ds).all (· ≤ reachBytes) = true → ts[i]? = some t → ds[i]? = some d →
    (d.weights P t).all (· ≤ reachBytes) = true := fun h ht hd => by
  rw [List.all_eq_true] at h ⊢
  exact fun n hn => h n (DataW.weights_mem_each ht hd n hn)

theorem weights_all : ∀ {e : TypeId} {ds : List (DataW H)} {d : DataW H}, (DataW.weightsAll P e ds).all (· ≤ reachBytes) = true → d ∈ ds → (d.weights P e).all (· ≤ reachBytes) = true
  | e, d0 :: r, d, h, hm => by
    simp only [DataW.weightsAll, List.all_append, Bool.and_eq_true] at h
    rcases List.mem_cons.1 hm with rfl | hm
    · exact h.1
    · exact weights_all h.2 hm
  | e, [], d, _, hm => by cases hm

/-- What can be read at one of the engine's types is such a value. -/
theorem open_ty : ∀ (ty : Ty),
    (∀ (t : TypeId) (fuel : Nat) (cs : List Value) (y : DataW H × List MemPlace), (lay P ty).1 t = true → DataW.trod enc P w base spare held fuel t cs = some y → (y.1.weights P t).all (· ≤ reachBytes) = true →
      ∃ x : ty.T, ty.R w (· < w.heap.size) cs x ∧ ty.ok x) ∧
    (∀ (fs : List Field) (o : Nat) (cs : List Value) (n : Nat) (ds : List (DataW H)), (lay P ty).2 fs o = true → cs.length = o + ty.size → ds.length = fs.length →
      (∀ (i : Nat) (f : Field) (d : DataW H), fs[i]? = some f → ds[i]? = some d → (∃ ps, DataW.trod enc P w base spare held n f.type ((cs.drop f.offset).take (P.cellsOf f.type)) = some (d, ps)) ∧ (d.weights P f.type).all (· ≤ reachBytes) = true) →
      ∃ x : ty.T, ty.R w (· < w.heap.size) (cs.drop o) x ∧ ty.ok x)
  | .int k => by
    refine ⟨fun t fuel cs y hl h hw => ?_, fun fs o cs n ds hl => by simp [lay] at hl⟩
    simp only [lay] at hl
    split at hl
    · rename_i k' hu
      have := of_decide_eq_true hl; subst this
      obtain ⟨n', rfl, _, hwf⟩ := DataW.trod_int hu h
      exact ⟨n', by simp [Ty.R], hwf⟩
    · cases hl
  | .bool => by
    refine ⟨fun t fuel cs y hl h hw => ?_, fun fs o cs n ds hl => by simp [lay] at hl⟩
    simp only [lay] at hl
    split at hl
    · rename_i hu
      obtain ⟨b, rfl, _⟩ := DataW.trod_bool hu h
      exact ⟨b, by simp [Ty.R], trivial⟩
    · cases hl
  | .str => by
    refine ⟨fun t fuel cs y hl h hw => ?_, fun fs o cs n ds hl => by simp [lay] at hl⟩
    simp only [lay] at hl
    split at hl
    · rename_i hu
      obtain ⟨s, rfl, hy, hs⟩ := DataW.trod_string hu h
      refine ⟨s, by simp [Ty.R], ?_⟩
      have : y.1 = .lit (.string s.data.toList) := by rw [hy]
      rw [this] at hw
      simpa [DataW.weights, Ty.ok] using hw
    · cases hl
  | .pt _ => ⟨fun t fuel cs y hl => by simp [lay] at hl, fun fs o cs n ds hl => by simp [lay] at hl⟩
  | .unit => by
    refine ⟨fun t fuel cs y hl h hw => ?_, fun fs o cs n ds hl hc hd h => ?_⟩
    · simp only [lay] at hl
      split at hl
      · rename_i fs hu
        simp only [Bool.and_eq_true] at hl
        obtain ⟨xs, n, _, _, hlen, _⟩ := DataW.trod_struct hu h
        have h0 := Nat.eq_of_beq_eq_true hl.1
        rw [h0] at hlen
        exact ⟨(), by simpa [Ty.R] using hlen, trivial⟩
      · cases hl
    · simp only [Ty.size, Nat.add_zero] at hc
      exact ⟨(), by simp [Ty.R, ← hc], trivial⟩
  | .sl e => by
    refine ⟨fun t fuel cs y hl h hw => ?_, fun fs o cs n ds hl => by simp [lay] at hl⟩
    simp only [lay] at hl
    split at hl
    · rename_i et hu
      simp only [Bool.and_eq_true] at hl
      obtain ⟨hsz, hby, hone, hle⟩ := hl
      have hsz := Nat.eq_of_beq_eq_true hsz
      have hby := Nat.le_of_ble_eq_true hby
      have hone := Nat.le_of_ble_eq_true hone
      rcases Deep.open_slice hu h with ⟨rfl, rfl⟩ | ⟨a, len, cap, m, n, D, Pl, rfl, hba, hlc, hcm, hm, rfl, hel⟩
      · exact ⟨[], ⟨none, 0, 0, rfl, rfl, Nat.le_refl _, .inl rfl⟩, by simp [Ty.ok]⟩
      · have hlm : len ≤ m := by rw [hm]; split <;> omega
        have hw' := hw
        simp only [DataW.weights, hu, List.all_cons, Bool.and_eq_true, decide_eq_true_eq, List.length_map, List.length_range, List.all_append] at hw
        have hlen : len ≤ reachBytes := by
          have h1 := hw.1
          have h2 : (len + (m - len)) * 1 ≤ (len + (m - len)) * P.bytesOf et := Nat.mul_le_mul_left _ hby
          omega
        have hall : ∀ i, i < len → ∃ x : e.T, (∃ cs', w.cells? base (a.add (i * P.cellsOf et)) (P.cellsOf et) = some cs' ∧ e.R w (· < w.heap.size) cs' x) ∧ e.ok x := by
          intro i hi
          obtain ⟨cs', h1, h2⟩ := hel i (by omega)
          obtain ⟨x, hx, hok⟩ := (open_ty e).1 et n cs' _ hle h2 (weights_all hw.2.1 (List.mem_map.2 ⟨i, List.mem_range.2 hi, rfl⟩))
          exact ⟨x, ⟨cs', h1, hx⟩, hok⟩
        have hlist : ∀ m, m ≤ len → ∃ xs : List e.T, xs.length = m ∧ ∀ i x, xs[i]? = some x → (∃ cs', w.cells? base (a.add (i * P.cellsOf et)) (P.cellsOf et) = some cs' ∧ e.R w (· < w.heap.size) cs' x) ∧ e.ok x := by
          intro m
          induction m with
          | zero => exact fun _ => ⟨[], rfl, fun i x h => by simp at h⟩
          | succ m ih =>
            intro hm
            obtain ⟨xs, hxl, hx⟩ := ih (by omega)
            obtain ⟨x, hx1⟩ := hall m (by omega)
            refine ⟨xs ++ [x], by simp [hxl], fun i z hi => ?_⟩
            rcases Nat.lt_or_ge i xs.length with hlt | hge
            · rw [List.getElem?_append_left hlt] at hi; exact hx i z hi
            · rw [List.getElem?_append_right hge] at hi
              have : i - xs.length = 0 := by
                rcases Nat.eq_zero_or_pos (i - xs.length) with h0 | h0
                · exact h0
                · rw [List.getElem?_eq_none (by simp; omega)] at hi; cases hi
              rw [this] at hi; simp at hi; subst hi
              have : i = m := by omega
              subst this; exact hx1
        obtain ⟨xs, hxl, hx⟩ := hlist len (Nat.le_refl _)
        refine ⟨xs, ?_, ⟨by rw [hxl]; exact hlen, fun x hx' => ?_⟩⟩
        · refine ⟨some a, len, cap, rfl, hxl.symm, hlc, ?_⟩
          cases hxs : xs with
          | nil => exact .inl rfl
          | cons x0 r =>
            refine .inr ?_
            have h0 := (hx 0 x0 (by rw [hxs]; rfl)).1
            obtain ⟨cs0, hc0, _⟩ := h0
            obtain ⟨hl0, _, hc0'⟩ := cells_of hc0
            have hlt0 : 0 < cs0.length := by rw [hl0, hsz]; exact hone
            have hcell := hc0' 0 cs0[0] (List.getElem?_eq_getElem hlt0)
            obtain ⟨hsp, hblk⟩ := spot_none hcell
            have hsp' : a.spot = none := by simpa [Addr.add] using hsp
            have hblk' : a.block < w.heap.size := by simpa [Addr.add] using hblk
            obtain ⟨ab, ao, asp⟩ := a
            simp only at hsp' hblk'
            subst hsp'
            refine ⟨ab, ao, rfl, hblk', fun i x hi => ?_⟩
            obtain ⟨cs', hc', hr'⟩ := (hx i x (by rw [hxs]; exact hi)).1
            refine ⟨cs', fun j v hj => ?_, hr'⟩
            have := (cells_of hc').2.2 j v hj
            rw [← this, hsz]
            simp only [add_none, Nat.add_assoc]
        · obtain ⟨i, hi⟩ := List.getElem?_of_mem hx'
          exact (hx i x hi).2
    · cases hl
  | .pair a b => by
    have key : ∀ (fs : List Field) (o : Nat) (cs : List Value) (n : Nat) (ds : List (DataW H)), (lay P (.pair a b)).2 fs o = true → cs.length = o + (Ty.pair a b).size → ds.length = fs.length →
      (∀ (i : Nat) (f : Field) (d : DataW H), fs[i]? = some f → ds[i]? = some d → (∃ ps, DataW.trod enc P w base spare held n f.type ((cs.drop f.offset).take (P.cellsOf f.type)) = some (d, ps)) ∧ (d.weights P f.type).all (· ≤ reachBytes) = true) →
      ∃ x : (Ty.pair a b).T, (Ty.pair a b).R w (· < w.heap.size) (cs.drop o) x ∧ (Ty.pair a b).ok x := by
      intro fs o cs n ds hl hc hd h
      simp only [lay] at hl
      cases fs with
      | nil => cases hl
      | cons f fs =>
        simp only [Bool.and_eq_true] at hl
        obtain ⟨h1, h2, h3, h4⟩ := hl
        have h1 := Nat.eq_of_beq_eq_true h1
        have h2 := Nat.eq_of_beq_eq_true h2
        cases ds with
        | nil => simp at hd
        | cons d ds =>
          obtain ⟨⟨ps, hp⟩, hwt⟩ := h 0 f d rfl rfl
          obtain ⟨x, hx, hxo⟩ := (open_ty a).1 f.type n _ _ h3 hp hwt
          obtain ⟨z, hz, hzo⟩ := (open_ty b).2 fs (o + a.size) cs n ds h4 (by rw [hc]; simp [Ty.size]; omega) (by simpa using hd) (fun i f' d' hf hd' => h (i + 1) f' d' (by simpa using hf) (by simpa using hd'))
          refine ⟨(x, z), ?_, hxo, hzo⟩
          simp only [Ty.R]
          refine ⟨_, _, ?_, hx, hz⟩
          rw [h1, h2, ← List.drop_drop, List.take_append_drop]
    refine ⟨fun t fuel cs y hl h hw => ?_, key⟩
    have hl' := hl
    simp only [lay] at hl
    split at hl
    · rename_i fs hu
      simp only [Bool.and_eq_true] at hl
      obtain ⟨h0, h1⟩ := hl
      have h0 := Nat.eq_of_beq_eq_true h0
      obtain ⟨xs, n, _, rfl, hlen, hxl, hf⟩ := DataW.trod_struct hu h
      have := key fs.toList 0 cs n (xs.map (·.1)) (by simp only [lay]; exact h1) (by rw [hlen, h0]; simp [Ty.size]) (by simpa using hxl) (fun i f d hfi hdi => by
        have hfi' : fs[i]? = some f := by simpa using hfi
        simp only [List.getElem?_map, Option.map_eq_some_iff] at hdi
        obtain ⟨yi, hyi, rfl⟩ := hdi
        refine ⟨⟨yi.2, by rw [hf i f hfi', hyi]⟩, ?_⟩
        refine weights_fields (P := P) (ts := fs.toList.map (·.type)) (ds := xs.map (·.1)) (i := i) (by simpa [DataW.weights, hu] using hw) (by simp [hfi']) (by simp [hyi]))
      simpa using this
    · cases hl

/-- A value of a type by itself: its cells, in the engine's packing. -/
theorem open_val {r : Go.Reach} {b0 : Nat} {ty : Ty} {t : TypeId} {v : Value} {d : DataW H} {ps : List MemPlace} (hl : (lay P ty).1 t = true) (hv : Value.okWide P w r b0 t v) (h : DataW.Trod enc P w base spare held t v d ps)
    (hw : (d.weights P t).all (· ≤ reachBytes) = true) : ∃ (cs : List Value) (x : ty.T), v = pack ty.isAgg cs ∧ ty.R w (· < w.heap.size) cs x ∧ ty.ok x := by
  obtain ⟨fuel, hf⟩ := h
  obtain ⟨x, hx, hok⟩ := (open_ty ty).1 t fuel _ _ hl hf hw
  refine ⟨_, x, ?_, hx, hok⟩
  have hne : ty.isAgg = false → (∀ cs, v ≠ .agg cs) → v = pack ty.isAgg v.cells.toList := fun ha hcs => by
    rw [ha]
    cases v <;> first | rfl | exact absurd rfl (hcs _)
  cases ty with
  | int k =>
    simp only [lay] at hl
    split at hl
    · rename_i hu; obtain ⟨n, rfl⟩ := okWide_int hu hv; rfl
    · cases hl
  | bool =>
    simp only [lay] at hl
    split at hl
    · rename_i hu; obtain ⟨n, rfl⟩ := okWide_bool hu hv; rfl
    · cases hl
  | str =>
    simp only [lay] at hl
    split at hl
    · rename_i hu; obtain ⟨n, rfl⟩ := okWide_string hu hv; rfl
    · cases hl
  | sl e =>
    simp only [lay] at hl
    split at hl
    · rename_i hu; obtain ⟨a, l, c, rfl⟩ := okWide_slice hu hv; rfl
    · cases hl
  | unit =>
    simp only [lay] at hl
    split at hl
    · rename_i fs hu; obtain ⟨cs, rfl, _⟩ := okWide_struct hu hv; simp [pack, Ty.isAgg, Value.cells]
    · cases hl
  | pair a b =>
    simp only [lay] at hl
    split at hl
    · rename_i fs hu; obtain ⟨cs, rfl, _⟩ := okWide_struct hu hv; simp [pack, Ty.isAgg, Value.cells]
    · cases hl
  | pt e => simp [lay] at hl

end

/-- The shape of a law's arguments. -/
@[reducible] def insOf : List Ty → Sh
  | [] => .un
  | t :: ts => .pr (.val t) (insOf ts)

def insOk : (ts : List Ty) → (insOf ts).T → Prop
  | [], _ => True
  | t :: ts, x => t.ok x.1 ∧ insOk ts x.2

theorem insOf_pure : ∀ (ts : List Ty) (x : (insOf ts).T) (n : Nat), ((insOf ts).enc x n).2 = []
  | [], _, _ => rfl
  | t :: ts, x, n => by simp only [insOf, Sh.enc, List.nil_append]; exact insOf_pure ts x.2 _

section
variable {H : Type} {enc : TypeId × Value → H} {P : Program} {w : World} {base : Nat} {spare : Nat → Bool} {held : Bool}

def layAll (P : Program) : List Ty → List TypeId → Bool
  | [], [] => true
  | ty :: tys, t :: ts => (lay P ty).1 t && ((P.readableRec t && Nat.blt t P.types.size) && layAll P tys ts)
  | _, _ => false

theorem argsR_cons {S : Nat → Prop} {ty : Ty} {tys : List Ty} {x : ty.T} {z : (insOf tys).T} {v : Value} {vs : List Value} {cs : List Value} (hv : v = pack ty.isAgg cs) (hx : ty.R w S cs x) {n m : Nat}
    (h : ArgsR w S [] [] ((insOf tys).enc z n).1.list vs) : ArgsR w S [] [] ((insOf (ty :: tys)).enc (x, z) m).1.list (v :: vs) := by
  have e : ∀ (tys : List Ty) (z : (insOf tys).T) (n m : Nat), ((insOf tys).enc z n).1 = ((insOf tys).enc z m).1 := by
    intro tys
    induction tys with
    | nil => intros; rfl
    | cons t ts ih => intro z n m; simp only [insOf, Sh.enc]; rw [ih]
  simp only [insOf, Sh.enc, AV.list]
  rw [e tys z _ n]
  refine ⟨by simp [h.1], fun i a u hi hu => ?_⟩
  cases i with
  | zero =>
    simp at hi hu; subst hi; subst hu
    exact ⟨cs, by simp [AV.R]; exact hx, hv⟩
  | succ i => exact h.2 i a u (by simpa using hi) (by simpa using hu)

theorem open_args {r : Go.Reach} {b0 : Nat} : ∀ {tys : List Ty} {ts : List TypeId} {vs : List Value} {ds : List (DataW H)} {ps : List MemPlace}, layAll P tys ts = true →
    DataW.TrodAll enc P w base spare held ts vs ds ps → (∀ (j : Nat) t v, ts[j]? = some t → vs[j]? = some v → Value.okWide P w r b0 t v) → (DataW.weightsEach P ts ds).all (· ≤ reachBytes) = true →
    ∃ x : (insOf tys).T, ArgsR w (· < w.heap.size) [] [] ((insOf tys).enc x 0).1.list vs ∧ insOk tys x
  | [], [], vs, ds, ps, _, h, _, _ => by
    obtain ⟨rfl, rfl, rfl⟩ := trodAll_nil h
    exact ⟨(), ⟨rfl, fun i a v hi => by simp [Sh.enc, AV.list] at hi⟩, trivial⟩
  | ty :: tys, t :: ts, vs, ds, ps, hl, h, hv, hw => by
    simp only [layAll, Bool.and_eq_true] at hl
    obtain ⟨v, vs', d, ds', p, q, rfl, rfl, rfl, h1, h2⟩ := trodAll_cons h
    simp only [DataW.weightsEach, List.all_append, Bool.and_eq_true] at hw
    obtain ⟨cs, x, hvx, hx, hok⟩ := open_val hl.1 (hv 0 t v rfl rfl) h1 hw.1
    obtain ⟨z, hz, hzo⟩ := open_args hl.2.2 h2 (fun j t' v' ht hv' => hv (j + 1) t' v' (by simpa using ht) (by simpa using hv')) hw.2
    exact ⟨(x, z), argsR_cons hvx hx hz, hok, hzo⟩
  | [], _ :: _, _, _, _, hl, _, _, _ => by simp [layAll] at hl
  | _ :: _, [], _, _, _, hl, _, _, _ => by simp [layAll] at hl

/-- Behind the call the arguments read as before. -/
theorem shut_args {W W' : World} (hlo : laidOutB P = true) (hb : Below W.heap.size W W') : ∀ {tys : List Ty} {ts : List TypeId} {vs : List Value} {ds : List (DataW H)} {ps : List MemPlace}, layAll P tys ts = true →
    DataW.TrodAll enc P W 0 (fun _ => true) true ts vs ds ps → DataW.TrodAll enc P W' 0 (fun b => decide (b < W.heap.size)) true ts vs ds ps
  | [], [], vs, ds, ps, _, h => by
    obtain ⟨rfl, rfl, rfl⟩ := trodAll_nil h
    exact trodAll_mk0
  | ty :: tys, t :: ts, vs, ds, ps, hl, h => by
    simp only [layAll, Bool.and_eq_true] at hl
    obtain ⟨v, vs', d, ds', p, q, rfl, rfl, rfl, h1, h2⟩ := trodAll_cons h
    refine trodAll_cons_mk (Below.trod hlo hl.2.1.1 (by have := hl.2.1.2; simpa [Nat.blt_eq] using this) h1 hb (by obtain ⟨m, hm⟩ := h1; exact DataW.trod_lt m _ _ _ hm)) (shut_args hlo hb hl.2.2 h2)
  | [], _ :: _, _, _, _, hl, _ => by simp [layAll] at hl
  | _ :: _, [], _, _, _, hl, _ => by simp [layAll] at hl

end

/-- THE ROW's CONTRACT, out of what a caller may rely on and the plain law. -/
theorem contract {C : Checked} {os : Os} {H : Type} {enc : TypeId × Value → H} {f : FuncId} {fn : Func} {s : ChangeSpec} {conds : List PathCond} {tys : List Ty} {g : Nat → (insOf tys).T → Option Bool}
    (own : ownKnob C.prog.godebug = none) (started : os.Started) (noInit : C.prog.inits.idxOf? f = none) (hfn : C.prog.funcs[f]? = some fn)
    (witness : ∃ (w : World) (tape : Tape) (i : Input), w.os = os ∧ (w.forCall tape i).Shaped C.prog ∧ i.vars = [] ∧ Input.okWide C.prog (w.forCall tape i) .any w.heap.size f i ∧
      s.pre6 enc C.prog fn conds false (w.forCall tape i).memory i.args ∧ Assume.holds {} C.prog (lone (Frame.enter C.prog f i.args .normal) [] (w.forCall tape i)))
    (hlo : laidOutB C.prog = true) (hlay : layAll C.prog tys fn.params.toList = true) (hvars : s.vars = [])
    (hfnS : ∀ ds : List (DataW H), ds.length = tys.length → s.fn H ds = { results := [.lit (.bool true)], args := ds })
    {tb : TypeId} (hres : fn.resultTypes.toList = [tb]) (hbool : C.prog.underlying tb = some .bool)
    (hM : ∀ k, Meets C.prog f ⟨insOf tys, .val .bool, false, .inl (g k)⟩) (law : ∀ x, insOk tys x → ∃ k, g k x = some true) :
    ReturnsInHanded {} C os f .any (s.pre6 enc C.prog fn conds false) (s.post enc C.prog fn false true false false) := by
  refine returnsInHanded_of_change_sized own started noInit hfn witness ?_
  intro W b0 args ds gs before hval hW hcnd hsz _
  have hW' := hW
  obtain ⟨p, q, hA, hV, rfl, hfz, hnd⟩ := hW
  rw [hvars] at hV
  obtain ⟨rfl, rfl⟩ := trodVars_none hV
  have hp0 : s.plain.varTypes C.prog = [] := by simp [DataSpec.varTypes, ChangeSpec.plain, hvars]
  rw [hp0, List.append_nil, List.append_nil] at hsz
  obtain ⟨x, hx, hok⟩ := open_args hlay hA (fun j t v ht hv => hval j t v (by simpa using ht) (by simpa using hv)) hsz
  obtain ⟨k, hk⟩ := law x hok
  have hd := (hM k).does x true hk W (· < W.heap.size) [] args.toList (by
    show Hp W _ ((insOf tys).enc x 0).2 []
    rw [insOf_pure]
    exact ⟨rfl, fun i e hv hi => by simp at hi, fun i j b ⟨e, hv, hi, _⟩ => by simp at hi, fun b hb => hb, fun i b ⟨e, hv, hi, _⟩ => by simp at hi⟩) (by
    show ArgsR W _ ((insOf tys).enc x 0).2 [] ((insOf tys).enc x 0).1.list args.toList
    rw [insOf_pure]
    exact hx)
  have hargs : args.toList.toArray = args := by simp
  rw [hargs] at hd
  have hlen : ds.length = tys.length := by
    have : ∀ {tys : List Ty} {ts : List TypeId} {vs : List Value} {ds : List (DataW H)} {ps : List MemPlace}, layAll C.prog tys ts = true → DataW.TrodAll enc C.prog W 0 (fun _ => true) true ts vs ds ps → ds.length = tys.length := by
      intro tys
      induction tys with
      | nil =>
        intro ts vs ds ps hl h
        cases ts with
        | nil => obtain ⟨rfl, rfl, rfl⟩ := trodAll_nil h; rfl
        | cons _ _ => simp [layAll] at hl
      | cons ty tys ih =>
        intro ts vs ds ps hl h
        cases ts with
        | nil => simp [layAll] at hl
        | cons t ts =>
          simp only [layAll, Bool.and_eq_true] at hl
          obtain ⟨v, vs', d, ds', p, q, rfl, rfl, rfl, h1, h2⟩ := trodAll_cons h
          simp [ih hl.2.2 h2]
    exact this hlay hA
  refine hd.mono fun e W' ⟨v, he, hb⟩ => ⟨v, he, ?_⟩
  obtain ⟨S', pl', hp', hr, hfr, _⟩ := hb
  have hfr' : Fr W (fun _ => False) W' := by
    refine ⟨hfr.os, hfr.tape, hfr.output, hfr.size, fun b hb hn => hfr.block b hb ?_⟩
    rintro ⟨i, e, hv, hi, _⟩
    simp only [insOf_pure] at hi
    simp at hi
  have bel := hfr'.below
  have hv : v = .bool true := by
    simp only [Sh.enc, resSV] at hr
    obtain ⟨cs, hcs, rfl⟩ := hr
    simp only [AV.R, Ty.R] at hcs
    subst hcs
    rfl
  subst hv
  refine ⟨ds, [], _, [], p, [], hW', ?_, ?_, ?_, bel.frame _, fun h => by cases h⟩
  · rw [List.append_nil, hfnS ds hlen]
    have hsz1 : fn.resultTypes.size = 1 := by rw [← Array.length_toList, hres]; rfl
    rw [hres, hsz1]
    exact trodAll_mk1 (shut_bool hbool _)
  · rw [List.append_nil, hfnS ds hlen]
    exact shut_args hlo bel hlay hA
  · rw [List.append_nil, hfnS ds hlen, hvars]
    rfl

end Go.Lg
