/-
  The operations that leave the table alone do what the interpreter says.
-/
import Derived.Test.YtejfaifipdhecaaEng4b
set_option linter.unusedVariables false
set_option linter.unusedSimpArgs false
namespace Go.Lg
open Go.RowKit

/-! ### the table of types, checked -/

def valB : Value → Value → Bool
  | .int k n, .int k' m => decide (k = k') && decide (n = m)
  | .bool a, .bool b => a == b
  | .string a, .string b => decide (a = b)
  | .slice none a b, .slice none c d => Nat.beq a c && Nat.beq b d
  | .pointer none, .pointer none => true
  | _, _ => false

theorem valB_eq {a b : Value} (h : valB a b = true) : a = b := by
  unfold valB at h
  split at h
  · simp at h; obtain ⟨rfl, rfl⟩ := h; rfl
  · simp at h; subst h; rfl
  · simp at h; subst h; rfl
  · simp only [Bool.and_eq_true] at h; rw [Nat.eq_of_beq_eq_true h.1, Nat.eq_of_beq_eq_true h.2]
  · rfl
  · cases h

def cellsB : List Value → List Value → Bool
  | [], [] => true
  | a :: r, b :: s => valB a b && cellsB r s
  | _, _ => false

theorem cellsB_eq : ∀ {l m : List Value}, cellsB l m = true → l = m
  | [], [], _ => rfl
  | a :: r, b :: s, h => by
    simp only [cellsB, Bool.and_eq_true] at h
    rw [valB_eq h.1, cellsB_eq h.2]
  | [], _ :: _, h => by simp [cellsB] at h
  | _ :: _, [], h => by simp [cellsB] at h

def zeroIs (t : Ty) (v : Value) : Bool :=
  match t.isAgg, v with
  | true, .agg cs => cellsB cs.toList t.zero
  | false, v => match t.zero with
    | [z] => valB v z
    | _ => false
  | _, _ => false

theorem zeroIs_eq {t : Ty} {v : Value} (h : zeroIs t v = true) : v = pack t.isAgg t.zero := by
  unfold zeroIs at h
  split at h
  · rename_i ha
    rw [ha]
    simp only [pack, if_true]
    rw [← cellsB_eq h]
  · rename_i ha
    rw [ha]
    split at h
    · rename_i z hz
      simp [pack, hz, valB_eq h]
    · cases h
  · cases h

def fieldsOk (th : List (TypeId × Ty)) : Ty → Nat → List Field → Bool
  | .unit, _, [] => true
  | .pair a b, o, f :: r => Nat.beq f.offset o && decide (find f.type th = some a) && fieldsOk th b (o + a.size) r
  | _, _, _ => false

def descOk (th : List (TypeId × Ty)) (se : List (TypeId × TypeId)) (t : Ty) (id : TypeId) (d : TypeDesc) : Bool :=
  match t, d with
  | .int k, .int k' => decide (k = k')
  | .bool, .bool => true
  | .str, .string => true
  | .sl e, .slice eid => decide (find id se = some eid) && decide (find eid th = some e) && Nat.blt 0 e.size
  | .pt _, .pointer _ => true
  | t, .struct fs => t.isAgg && fieldsOk th t 0 fs.toList
  | _, _ => false

/-- Two values of this struct's type are compared field by field. -/
def eqOk (P : Program) (id : TypeId) : Ty → TypeDesc → Bool
  | .pair (.int _) (.pair (.int _) .unit), .struct fs => !P.stoodInHeld id && !P.eqGuardType P.depth id && fs.toList.all fun f => f.name != "_"
  | _, _ => true

def tyOk (P : Program) (th : List (TypeId × Ty)) (se : List (TypeId × TypeId)) (p : TypeId × Ty) : Bool :=
  match P.underlying p.1, P.info? p.1 with
  | some d, some i => Nat.beq i.size p.2.size && (match i.zero with | some v => zeroIs p.2 v | none => false) && Nat.ble i.bytes 128 && descOk th se p.2 p.1 d && eqOk P p.1 p.2 d
  | _, _ => false

def thOk (P : Program) (C : Ctx) : Bool := C.th.all (tyOk P C.th C.se)

structure TyOk (P : Program) (C : Ctx) (id : TypeId) (t : Ty) (d : TypeDesc) (i : TypeInfo) : Prop where
  under : P.underlying id = some d
  info : P.info? id = some i
  size : i.size = t.size
  zero : i.zero = some (pack t.isAgg t.zero)
  bytes : i.bytes ≤ 128
  desc : descOk C.th C.se t id d = true
  eq : eqOk P id t d = true

theorem find_mem {α : Type _} {t : Nat} {x : α} : ∀ {l : List (Nat × α)}, find t l = some x → (t, x) ∈ l
  | [], h => by simp [find] at h
  | (u, y) :: r, h => by
    simp only [find] at h
    split at h
    · rename_i hb
      obtain rfl := Option.some.inj h
      rw [Nat.eq_of_beq_eq_true hb]
      simp
    · exact List.mem_cons_of_mem _ (find_mem h)

theorem thOk_find {P : Program} {C : Ctx} (h : thOk P C = true) {id : TypeId} {t : Ty} (hf : find id C.th = some t) : ∃ d i, TyOk P C id t d i := by
  have := List.all_eq_true.1 h (id, t) (find_mem hf)
  unfold tyOk at this
  split at this
  · rename_i d i hd hi
    simp only [Bool.and_eq_true] at this
    obtain ⟨⟨⟨⟨h1, h2⟩, h3⟩, h4⟩, h5⟩ := this
    split at h2
    · rename_i v hv
      exact ⟨d, i, hd, hi, Nat.eq_of_beq_eq_true h1, by rw [hv, zeroIs_eq h2], Nat.le_of_ble_eq_true h3, h4, h5⟩
    · cases h2
  · cases this

section desc
variable {P : Program} {C : Ctx} {id : TypeId} {d : TypeDesc} {i : TypeInfo}

theorem TyOk.slice' {e : Ty} (h : TyOk P C id (.sl e) d i) : ∃ eid, d = .slice eid ∧ find id C.se = some eid ∧ find eid C.th = some e ∧ 0 < e.size := by
  have hd := h.desc
  cases d <;> simp only [descOk, Ty.isAgg, Bool.false_and, Bool.false_eq_true, Bool.and_eq_true, decide_eq_true_eq] at hd
  rename_i eid
  exact ⟨eid, rfl, hd.1.1, hd.1.2, by rw [← Nat.blt_eq]; exact hd.2⟩

theorem TyOk.slice {e : Ty} (h : TyOk P C id (.sl e) d i) : ∃ eid, d = .slice eid ∧ find id C.se = some eid ∧ find eid C.th = some e := by
  obtain ⟨eid, h1, h2, h3, _⟩ := h.slice'
  exact ⟨eid, h1, h2, h3⟩

theorem TyOk.isAgg {t : Ty} (h : TyOk P C id t d i) (w : World) : (isAgg id).run P w = .ok t.isAgg w := by
  have hu := h.under
  have hd := h.desc
  unfold descOk at hd
  split at hd
  · simp [Go.isAgg, run_underlying hu, Ty.isAgg, Result.andThen]
  · simp [Go.isAgg, run_underlying hu, Ty.isAgg, Result.andThen]
  · simp [Go.isAgg, run_underlying hu, Ty.isAgg, Result.andThen]
  · simp [Go.isAgg, run_underlying hu, Ty.isAgg, Result.andThen]
  · simp [Go.isAgg, run_underlying hu, Ty.isAgg, Result.andThen]
  · simp only [Bool.and_eq_true] at hd
    simp [Go.isAgg, run_underlying hu, hd.1, Result.andThen]
  · cases hd

theorem TyOk.sizeOf {t : Ty} (h : TyOk P C id t d i) (w : World) : (sizeOf id).run P w = .ok t.size w := by
  simp [Go.sizeOf, typeInfo, h.info, Result.andThen, h.size]

theorem fieldsOk_fld {th : List (TypeId × Ty)} : ∀ {t : Ty} {o : Nat} {fs : List Field}, fieldsOk th t o fs = true → ∀ {n k : Nat} {ft : Ty}, t.fld n = some (k, ft) →
    ∃ fd, fs[n]? = some fd ∧ fd.offset = o + k ∧ find fd.type th = some ft
  | .pair a b, o, f :: r, h, n, k, ft, hf => by
    simp only [fieldsOk, Bool.and_eq_true, decide_eq_true_eq] at h
    obtain ⟨⟨h1, h2⟩, h3⟩ := h
    cases n with
    | zero =>
      simp only [Ty.fld, Option.some.injEq, Prod.mk.injEq] at hf
      obtain ⟨rfl, rfl⟩ := hf
      exact ⟨f, rfl, by rw [Nat.eq_of_beq_eq_true h1]; rfl, h2⟩
    | succ n =>
      simp only [Ty.fld] at hf
      split at hf
      · rename_i k' ft' hb
        simp only [Option.some.injEq, Prod.mk.injEq] at hf
        obtain ⟨rfl, rfl⟩ := hf
        obtain ⟨fd, g1, g2, g3⟩ := fieldsOk_fld h3 hb
        exact ⟨fd, by simpa using g1, by rw [g2]; omega, g3⟩
      · cases hf
  | .unit, _, [], _, n, _, _, hf => by cases n <;> simp [Ty.fld] at hf
  | .int _, _, _, h, _, _, _, _ => by simp [fieldsOk] at h
  | .bool, _, _, h, _, _, _, _ => by simp [fieldsOk] at h
  | .str, _, _, h, _, _, _, _ => by simp [fieldsOk] at h
  | .sl _, _, _, h, _, _, _, _ => by simp [fieldsOk] at h
  | .pt _, _, _, h, _, _, _, _ => by simp [fieldsOk] at h
  | .unit, _, _ :: _, h, _, _, _, _ => by simp [fieldsOk] at h
  | .pair _ _, _, [], h, _, _, _, _ => by simp [fieldsOk] at h

theorem TyOk.field {t : Ty} (h : TyOk P C id t d i) {n k : Nat} {ft : Ty} (hf : t.fld n = some (k, ft)) : ∃ fs fd, d = .struct fs ∧ fs[n]? = some fd ∧ fd.offset = k ∧ find fd.type C.th = some ft := by
  have hd := h.desc
  cases t with
  | pair a b =>
    cases d <;> simp [descOk, Ty.isAgg] at hd
    rename_i fs
    obtain ⟨fd, h1, h2, h3⟩ := fieldsOk_fld hd hf
    exact ⟨fs, fd, rfl, by simpa using h1, by omega, h3⟩
  | _ => cases n <;> simp [Ty.fld] at hf

end desc

/-- The n-th field of what can be read. -/
theorem prj_spec {w : World} {S : Nat → Prop} : ∀ {t : Ty} {n : Nat} {x : t.T} {o : Nat} {r : AV}, t.prj n x = some (o, r) → ∃ (ft : Ty) (z : ft.T), r = .val ft z ∧ t.fld n = some (o, ft) ∧
    ∀ {cs : List Value}, t.R w S cs x → ∃ c1 c2 c3, cs = c1 ++ c2 ++ c3 ∧ c1.length = o ∧ ft.R w S c2 z
  | .pair a b, 0, x, o, r, h => by
    simp only [Ty.prj, Option.some.injEq, Prod.mk.injEq] at h
    obtain ⟨rfl, rfl⟩ := h
    refine ⟨a, x.1, rfl, rfl, fun {cs} hc => ?_⟩
    simp only [Ty.R] at hc
    obtain ⟨c1, c2, rfl, h1, h2⟩ := hc
    exact ⟨[], c1, c2, by simp, rfl, h1⟩
  | .pair a b, n + 1, x, o, r, h => by
    simp only [Ty.prj] at h
    split at h
    · rename_i o' y hb
      simp only [Option.some.injEq, Prod.mk.injEq] at h
      obtain ⟨rfl, rfl⟩ := h
      obtain ⟨ft, z, rfl, h2, h3⟩ := prj_spec (w := w) (S := S) hb
      refine ⟨ft, z, rfl, by simp [Ty.fld, h2], fun {cs} hc => ?_⟩
      simp only [Ty.R] at hc
      obtain ⟨c1, c2, rfl, g1, g2⟩ := hc
      obtain ⟨d1, d2, d3, rfl, g3, g4⟩ := h3 g2
      exact ⟨c1 ++ d1, d2, d3, by simp, by simp [g1.length, g3], g4⟩
    · cases h
  | .int _, n, _, _, _, h => by simp [Ty.prj] at h
  | .bool, n, _, _, _, h => by simp [Ty.prj] at h
  | .str, n, _, _, _, h => by simp [Ty.prj] at h
  | .sl _, n, _, _, _, h => by simp [Ty.prj] at h
  | .unit, n, _, _, _, h => by simp [Ty.prj] at h
  | .pt _, n, _, _, _, h => by simp [Ty.prj] at h

theorem castT_some {t t' : Ty} {x : t.T} {y : t'.T} (h : castT t t' x = some y) : ∃ e : t = t', e ▸ x = y := by
  unfold castT at h
  split at h
  · rename_i e; exact ⟨e, Option.some.inj h⟩
  · cases h

section ops
variable {P : Program} {C : Ctx} (hT : thOk P C = true) {w : World} {S : Nat → Prop} {s : St} {pl : List Value} {a : Act}
  (he : EnvR w S s.tab pl s.env a.tmps) {G : PC} (hG : Holds a.tmps G)

theorem ofConst_R {v : Value} {b : AV} (h : ofConst v = some b) {tab : List Ent} : ∃ cs, b.R w S tab pl cs ∧ v = pack b.isAgg cs := by
  unfold ofConst at h
  split at h <;> first | cases h | skip
  · exact ⟨_, rfl, rfl⟩
  · exact ⟨_, rfl, rfl⟩
  · exact ⟨_, rfl, rfl⟩
  · exact ⟨_, rfl, rfl⟩

include he hG in
theorem get_sound {x : Operand} {v : SV} (h : s.get G x = some v) : v.R w S s.tab pl (a.eval x) := by
  unfold St.get at h
  split at h
  · rename_i t
    split at h
    · rename_i v' T hl
      split at h
      · rename_i hr
        obtain rfl := Option.some.inj h
        obtain ⟨u, h1, h2⟩ := he t _ T hl (reads_holds hr hG)
        simp only [Act.eval]
        rw [Array.getD_eq_getD_getElem?, h1]
        exact h2
      · cases h
    · cases h
  · rename_i c
    simp only [Option.map_eq_some_iff] at h
    obtain ⟨b, hb, rfl⟩ := h
    exact ofConst_R hb
  · obtain rfl := Option.some.inj h
    exact ⟨_, ⟨[], rfl, rfl, by simp⟩, rfl⟩
  · cases h

include he hG in
theorem av_sound {x : Operand} {b : AV} (h : s.av G x = some b) : ∃ cs, b.R w S s.tab pl cs ∧ a.eval x = pack b.isAgg cs := by
  unfold St.av at h
  split at h
  · rename_i b' hb
    obtain rfl := Option.some.inj h
    obtain ⟨cs, h1, h2⟩ := get_sound he hG hb
    exact ⟨cs, h1, h2⟩
  · cases h

include he hG in
theorem av_int {x : Operand} {k : IntKind} {n : Int} (h : s.av G x = some (.val (.int k) n)) : a.eval x = .int k n := by
  obtain ⟨cs, h1, h2⟩ := av_sound he hG h
  simp only [AV.R, Ty.R] at h1
  subst h1
  simpa [pack, AV.isAgg, Ty.isAgg] using h2

include he hG in
theorem av_bool {x : Operand} {b : Bool} (h : s.av G x = some (.val .bool b)) : a.eval x = .bool b := by
  obtain ⟨cs, h1, h2⟩ := av_sound he hG h
  simp only [AV.R, Ty.R] at h1
  subst h1
  simpa [pack, AV.isAgg, Ty.isAgg] using h2

include he hG in
theorem av_str {x : Operand} {b : ByteArray} (h : s.av G x = some (.val .str b)) : a.eval x = .string b := by
  obtain ⟨cs, h1, h2⟩ := av_sound he hG h
  simp only [AV.R, Ty.R] at h1
  subst h1
  simpa [pack, AV.isAgg, Ty.isAgg] using h2

include he hG in
theorem opMove_sound {ty : TypeId} {x : Operand} {v : SV} (h : opMove C s G ty x = some v) : v.R w S s.tab pl (a.eval x) := by
  unfold opMove at h
  split at h
  · rename_i hn
    have hx : x = .const (.slice none 0 0) := by
      unfold isNil at hn
      split at hn
      · rfl
      · cases hn
    subst hx
    split at h
    · obtain rfl := Option.some.inj h
      exact ⟨[.slice none 0 0], rfl, rfl⟩
    · cases h
  · exact get_sound he hG h

theorem sv_int {tab : List Ent} {k : IntKind} {n : Int} : (SV.one (.val (.int k) n)).R w S tab pl (.int k n) := ⟨_, rfl, rfl⟩
theorem sv_bool {tab : List Ent} {b : Bool} : (SV.one (.val .bool b)).R w S tab pl (.bool b) := ⟨_, rfl, rfl⟩
theorem sv_str {tab : List Ent} {b : ByteArray} : (SV.one (.val .str b)).R w S tab pl (.string b) := ⟨_, rfl, rfl⟩

theorem shift_sound {op : BinOp} {k yk : IntKind} {x y : Int} (hy : 0 ≤ y) (t : TypeId) (xo yo : Operand) (hns : op = .shl ∨ op = .shr) :
    ∃ n, (do eqGuard op t xo yo (.int k x) (.int yk y); binOp op t (.int k x) (.int yk y) : Sem Value).run P w = .ok (.int k n) w ∧
      n = match op with | .shl => k.wrap (x * 2 ^ (min y.toNat k.bits)) | _ => x.fdiv (2 ^ (min y.toNat k.bits)) := by
  have hy' : ¬ y < 0 := by omega
  rcases hns with rfl | rfl
  · exact ⟨_, by simp [go_sem, Op.shift, hy'], rfl⟩
  · exact ⟨_, by simp [go_sem, Op.shift, hy'], rfl⟩

theorem arith_sound {op : BinOp} {k : IntKind} {x y : Int} {g : Option Bool} {r : AV} (h : arith op k x y = some (g, r)) (hg : g ≠ some false) (t : TypeId) (xo yo : Operand)
    (hns : op ≠ .shl ∧ op ≠ .shr) :
    ∃ u, (do eqGuard op t xo yo (.int k x) (.int k y); binOp op t (.int k x) (.int k y) : Sem Value).run P w = .ok u w ∧ (SV.one r).R w S s.tab pl u := by
  cases op <;> simp only [arith, Option.some.injEq, Prod.mk.injEq] at h <;> obtain ⟨rfl, rfl⟩ := h
  case quo =>
    have hy : y ≠ 0 := by
      intro e; apply hg; simp [e]
    exact ⟨.int k _, by simp [go_sem, Op.intDiv, hy], sv_int⟩
  case rem =>
    have hy : y ≠ 0 := by
      intro e; apply hg; simp [e]
    exact ⟨.int k _, by simp [go_sem, Op.intDiv, hy], sv_int⟩
  case shl => exact absurd rfl hns.1
  case shr => exact absurd rfl hns.2
  case eql => exact ⟨.bool _, by simp [go_sem]; rfl, sv_bool⟩
  case neq => exact ⟨.bool _, by simp [go_sem]; rfl, sv_bool⟩
  case lss => exact ⟨.bool _, by simp [go_sem], sv_bool⟩
  case leq => exact ⟨.bool _, by simp [go_sem], sv_bool⟩
  case gtr => exact ⟨.bool _, by simp [go_sem], sv_bool⟩
  case geq => exact ⟨.bool _, by simp [go_sem], sv_bool⟩
  all_goals exact ⟨.int k _, by simp [go_sem, Op.intArith, Op.intBits], sv_int⟩

end ops

end Go.Lg
