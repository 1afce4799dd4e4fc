/-
  The abstract interpreter: Go code over typed values and a table of what the call owns.
-/
import Derived.Test.YtejfaifipdhecaaEng1
import Derived.StillTail
set_option linter.unusedVariables false
set_option linter.unusedSimpArgs false
namespace Go.Lg
open Go.RowKit

/-! ### shapes: how a function's arguments and results stand in the table -/

inductive Sh where
  | val (t : Ty)
  /-- a pointer that is not nil, to memory that only stays -/
  | ref (t : Ty)
  /-- a function of this number; what it holds: boxes -/
  | clo (f : FuncId) (s : Sh)
  | own (eid : TypeId) (e : Ty)
  | box (s : Sh)
  | pr (a b : Sh)
  | un

@[reducible] def Sh.T : Sh → Type
  | .val t => t.T
  | .ref t => t.T
  | .clo _ s => s.T
  | .own _ e => List e.T
  | .box s => s.T
  | .pr a b => a.T × b.T
  | .un => Unit

def Sh.df : (s : Sh) → s.T
  | .val t => t.df
  | .ref t => t.df
  | .clo _ s => s.df
  | .own _ _ => []
  | .box s => s.df
  | .pr a b => (a.df, b.df)
  | .un => ()

/-- No entries. -/
def Sh.pure : Sh → Bool
  | .val _ | .ref _ | .un => true
  | .pr a b => a.pure && b.pure
  | _ => false

/-- Leans on no memory but its own entries. -/
def Sh.flat : Sh → Bool
  | .val t => t.flat
  | .ref _ => false
  | .clo _ s => s.flat
  | .own _ e => e.flat
  | .box s => s.flat
  | .pr a b => a.flat && b.flat
  | .un => true

/-- The owned parts lean on no memory but their own entries. -/
def Sh.flatO : Sh → Bool
  | .val _ | .ref _ => true
  | .clo _ s => s.flat
  | .own _ e => e.flat
  | .box s => s.flat
  | .pr a b => a.flatO && b.flatO
  | .un => true

/-- How many entries. -/
def Sh.n : Sh → Nat
  | .val _ | .ref _ | .un => 0
  | .clo _ s => s.n
  | .own _ _ => 1
  | .box s => s.n + 1
  | .pr a b => a.n + b.n

/-- The entries, numbered from n on, that a call leaves where they are. -/
def Sh.fx : Sh → Nat → List Nat
  | .val _, _ | .ref _, _ | .un, _ => []
  | .clo _ s, n => s.fx n
  | .own _ _, n => [n]
  | .box _, n => [n]
  | .pr a b, n => a.fx n ++ b.fx (n + a.n)

/-- What a function holds: boxes. -/
def capList : AV → List (Nat × Ty)
  | .pr (.bx i _ t) b => (i, t) :: capList b
  | _ => []

def capAVs : List (Nat × Ty) → List AV
  | [] => []
  | (i, t) :: r => .bx i 0 t :: capAVs r

def prs : List AV → AV
  | [] => .un
  | a :: r => .pr a (prs r)

/-- Nothing but boxes. -/
def Sh.isCaps : Sh → Bool
  | .un => true
  | .pr (.box _) b => b.isCaps
  | _ => false

/-- The abstract value and the entries, numbered from n on. -/
def Sh.enc : (s : Sh) → s.T → Nat → AV × List Ent
  | .val t, x, _ => (.val t x, [])
  | .ref t, x, _ => (.val (.pt t) (some x), [])
  | .clo f s, x, n => (.fn f (capList (s.enc x n).1), (s.enc x n).2)
  | .own eid e, xs, n => (.own n, [.arr eid e xs])
  | .box s, x, n => ((AV.bx n 0 .unit), .box (s.enc x (n + 1)).1 :: (s.enc x (n + 1)).2)
  | .pr a b, x, n => (.pr (a.enc x.1 n).1 (b.enc x.2 (n + (a.enc x.1 n).2.length)).1, (a.enc x.1 n).2 ++ (b.enc x.2 (n + (a.enc x.1 n).2.length)).2)
  | .un, _, _ => (.un, [])

/-- The value of a shape whose owned parts became stable memory. -/
def Sh.encV : (s : Sh) → s.T → AV
  | .val t, x => .val t x
  | .ref t, x => .val (.pt t) (some x)
  | .clo _ _, _ => .dd
  | .own _ e, xs => .val (.sl e) xs
  | .box _, _ => .dd
  | .pr a b, x => .pr (a.encV x.1) (b.encV x.2)
  | .un, _ => .un

def Sh.vable : Sh → Bool
  | .box _ => false
  | .clo _ _ => false
  | .pr a b => a.vable && b.vable
  | _ => true

def castT (t t' : Ty) (x : t.T) : Option t'.T := if h : t = t' then some (h ▸ x) else none

/-- An abstract value as a plain one, and the entries that are lent for it. -/
def AV.toVal (tab : List Ent) : (t : Ty) → AV → Option (t.T × List Nat)
  | .pair a b, .pr x y =>
    match x.toVal tab a, y.toVal tab b with
    | some (p, l), some (q, m) => some ((p, q), l ++ m)
    | _, _ => none
  | .unit, .un => some ((), [])
  | .sl e, .nsl _ e' => if e = e' then some ([], []) else none
  | .pt _, .npt => some (none, [])
  | .pt e, .bx i o _ =>
    match o, tab[i]? with
    | 0, some (.box c) => (c.toVal tab e).map fun p => (some p.1, i :: p.2)
    | _, _ => none
  | .sl e, .own i =>
    match tab[i]? with
    | some (.arr _ e' xs) => (castT (.sl e') (.sl e) xs).map fun x => (x, [i])
    | _ => none
  | .sl e, .xr i .top =>
    match tab[i]? with
    | some (.rows _ _ e' xss) => (castT (.sl (.sl e')) (.sl e) xss).map fun x => (x, [i])
    | _ => none
  | .sl e, .xr i (.row j) =>
    match tab[i]? with
    | some (.rows _ _ e' xss) => (castT (.sl e') (.sl e) (xss.getD j.toNat [])).map fun x => (x, [i])
    | _ => none
  | t, .val t' x => (castT t' t x).map fun y => (y, [])
  | _, _ => none

/-- An abstract value as one of a shape: the value, the entries in the order of enc, the entries that are lent. -/
def Sh.dec (tab : List Ent) : (s : Sh) → AV → Option (s.T × List Nat × List Nat)
  | .val t, a => (a.toVal tab t).map fun p => (p.1, [], p.2)
  | .ref t, a => match a.toVal tab (.pt t) with
    | some (some x, l) => some (x, [], l)
    | _ => none
  | .clo f s, .fn g caps => match Nat.beq g f, s.isCaps with
    | true, true => s.dec tab (prs (capAVs caps))
    | _, _ => none
  | .own eid e, .own i =>
    match tab[i]? with
    | some (.arr eid' e' xs) => if eid' = eid then (castT (.sl e') (.sl e) xs).map fun x => (x, [i], []) else none
    | _ => none
  | .box s, .bx i 0 _ =>
    match tab[i]? with
    | some (.box c) => (s.dec tab c).map fun p => (p.1, i :: p.2.1, p.2.2)
    | _ => none
  | .pr a b, .pr x y =>
    match a.dec tab x, b.dec tab y with
    | some p, some q => some ((p.1, q.1), p.2.1 ++ q.2.1, p.2.2 ++ q.2.2)
    | _, _ => none
  | .un, .un => some ((), [], [])
  | _, _ => none

def castD (t t' : Ty) (x : t.T) : t'.T := if h : t = t' then h ▸ x else t'.df

/-! ### the state -/

/-- What a slot holds: one value, or the results of a call. -/
inductive SV where
  | one (a : AV)
  | tup (l : List AV)
  | dd

/-- What was made and is not in the table yet: a new row, or a row that was made longer and is not yet put where it belongs. It lies in slot d. -/
inductive Pend where
  | make (d : Nat) (e : Ent)
  | app (d : Nat) (i : Nat) (j : Option Int) (eid : TypeId) (e : Ty) (xs : List e.T)
  /-- what lay in slot d0 went on as this, in slot d -/
  | upd (d0 d : Nat) (e : Ent)

def Pend.d : Pend → Nat
  | .make d _ => d
  | .app d _ _ _ _ _ => d
  | .upd _ d _ => d

def Pend.old : Pend → Option Nat
  | .upd d0 _ _ => some d0
  | _ => none

structure St where
  env : List (Nat × SV × List (Nat × Bool))
  tab : List Ent
  pd : List Pend := []

def look (t : Nat) : List (Nat × SV × List (Nat × Bool)) → Option (SV × List (Nat × Bool))
  | [] => none
  | (u, x) :: r => match Nat.beq u t with
    | true => some x
    | false => look t r

/-- What a path condition allows to be read. -/
def reads (G T : List (Nat × Bool)) : Bool := T.all fun p => G.any fun q => Nat.beq p.1 q.1 && (p.2 == q.2)

def ofConst : Value → Option AV
  | .int k n => some (.val (.int k) n)
  | .bool b => some (.val .bool b)
  | .string s => some (.val .str s)
  | .pointer none => some .npt
  | _ => none

def St.get (s : St) (G : List (Nat × Bool)) : Operand → Option SV
  | .tmp t => match look t s.env with
    | some (v, T) => match reads G T with
      | true => some v
      | false => none
    | none => none
  | .const v => (ofConst v).map .one
  | .func f => some (.one (.fn f []))
  | .global _ => none

def St.av (s : St) (G : List (Nat × Bool)) (x : Operand) : Option AV :=
  match s.get G x with
  | some (.one a) => some a
  | _ => none

def St.put (s : St) (d : Option Tmp) (v : SV) (G : List (Nat × Bool)) : St :=
  match d with
  | some t => { s with env := (t, v, G) :: s.env }
  | none => s

/-- A function by its shapes. 'many': its results are not just one. -/
structure Spec where
  ins : Sh
  res : Sh
  many : Bool
  fn : (ins.T → Option res.T) ⊕ (ins.T → Option (res.T × ins.T))

/-- th: the types; se: the element types of slices; sg: the functions that may be called; mu: the slots whose boxes and literals are owned;
an: where the state is put in order, and of which slots it then consists; dr: how many operations of a region that draws its order come in any order; pre: those of them that look at slots only and may be thought of as the first ones; m: how many entries came in; fx: those of them that must stay where they are; n: how many slots there are; k: the bound on rounds. -/
structure Ctx where
  th : List (TypeId × Ty)
  se : List (TypeId × TypeId)
  sg : List (FuncId × Spec)
  mu : List Nat
  an : List (Nat × List (Nat × Bool))
  dr : List (Nat × Nat)
  pre : List (Nat × List Nat)
  d2 : List Nat := []
  m : Nat
  fx : List Nat
  n : Nat
  k : Nat

def find {α : Type _} (t : Nat) : List (Nat × α) → Option α
  | [] => none
  | (u, x) :: r => match Nat.beq u t with
    | true => some x
    | false => find t r

def has (t : Nat) : List Nat → Bool
  | [] => false
  | u :: r => match Nat.beq u t with
    | true => true
    | false => has t r

def LIM : Nat := 1099511627776

/-! ### operations that leave the table alone -/

def arith (op : BinOp) (k : IntKind) (x y : Int) : Option (Option Bool × AV) :=
  match op with
  | .add => some (none, .val (.int k) (k.wrap (x + y)))
  | .sub => some (none, .val (.int k) (k.wrap (x - y)))
  | .mul => some (none, .val (.int k) (k.wrap (x * y)))
  | .quo => some (some (decide (y ≠ 0)), .val (.int k) (k.wrap (x.tdiv y)))
  | .rem => some (some (decide (y ≠ 0)), .val (.int k) (x.tmod y))
  | .and => some (none, .val (.int k) (k.wrap (BitVec.ofInt k.bits x &&& BitVec.ofInt k.bits y).toNat))
  | .or => some (none, .val (.int k) (k.wrap (BitVec.ofInt k.bits x ||| BitVec.ofInt k.bits y).toNat))
  | .xor => some (none, .val (.int k) (k.wrap (BitVec.ofInt k.bits x ^^^ BitVec.ofInt k.bits y).toNat))
  | .andNot => some (none, .val (.int k) (k.wrap (BitVec.ofInt k.bits x &&& ~~~BitVec.ofInt k.bits y).toNat))
  | .shl => some (some (decide (0 ≤ y)), .val (.int k) (k.wrap (x * 2 ^ (min y.toNat k.bits))))
  | .shr => some (some (decide (0 ≤ y)), .val (.int k) (x.fdiv (2 ^ (min y.toNat k.bits))))
  | .eql => some (none, .val .bool (decide (x = y)))
  | .neq => some (none, .val .bool (!decide (x = y)))
  | .lss => some (none, .val .bool (decide (x < y)))
  | .leq => some (none, .val .bool (decide (x ≤ y)))
  | .gtr => some (none, .val .bool (decide (y < x)))
  | .geq => some (none, .val .bool (decide (y ≤ x)))

def binary (bt : Bool) (op : BinOp) : AV → AV → Option (Option Bool × AV)
  | .val (.int k) x, .val (.int k') y =>
    match op with
    | .shl => some (some (decide (0 ≤ y)), .val (.int k) (k.wrap (x * 2 ^ (min y.toNat k.bits))))
    | .shr => some (some (decide (0 ≤ y)), .val (.int k) (x.fdiv (2 ^ (min y.toNat k.bits))))
    | op => if k = k' then arith op k x y else none
  | .val .bool x, .val .bool y =>
    match bt, op with
    | true, .eql => some (none, .val .bool (x == y))
    | true, .neq => some (none, .val .bool (x != y))
    | _, _ => none
  | .val .str x, .val .str y =>
    match op with
    | .eql => some (none, .val .bool (decide (x = y)))
    | .neq => some (none, .val .bool (!decide (x = y)))
    | .add => some (some (decide (x.size + y.size ≤ LIM)), .val .str (x ++ y))
    | _ => none
  | _, _ => none

def unary (op : UnOp) : AV → Option AV
  | .val .bool x => match op with | .not => some (.val .bool (!x)) | _ => none
  | .val (.int k) x => match op with | .neg => some (.val (.int k) (k.wrap (0 - x))) | _ => none
  | _ => none

/-- The n-th field: its type, its value, its place. -/
def Ty.prj : (t : Ty) → Nat → t.T → Option (Nat × AV)
  | .pair a _, 0, x => some (0, .val a x.1)
  | .pair a b, n + 1, x => match b.prj n x.2 with
    | some (o, y) => some (a.size + o, y)
    | none => none
  | _, _, _ => none

def Ty.fld : Ty → Nat → Option (Nat × Ty)
  | .pair a _, 0 => some (0, a)
  | .pair a b, n + 1 => match b.fld n with
    | some (o, y) => some (a.size + o, y)
    | none => none
  | _, _ => none

def AV.nth : AV → Nat → Option AV
  | .pr a _, 0 => some a
  | .pr _ b, n + 1 => b.nth n
  | .val t x, n => (t.prj n x).map (·.2)
  | _, _ => none

/-- Has the abstract value this form? -/
def AV.fits : AV → Ty → Bool
  | .pr a b, .pair s t => a.fits s && b.fits t
  | .un, .unit => true
  | .val t _, t' => decide (t = t') && !t.isAgg
  | .nsl _ _, .sl _ | .own _, .sl _ => true
  | .xr _ .top, .sl _ | .xr _ (.row _), .sl _ => true
  | .npt, .pt _ | .bx _ _ _, .pt _ | .ela _ _ _, .pt _ => true
  | .xr _ (.cell _), .pt _ => true
  | _, _ => false

/-- What lies in a box from a cell on. -/
def AV.at : AV → Nat → Ty → Option AV
  | .pr a b, o, t =>
    if (Nat.beq o 0 && AV.fits (.pr a b) t) = true then some (.pr a b)
    else if Nat.blt o a.size = true then a.at o t else b.at (o - a.size) t
  | a, o, t => if (Nat.beq o 0 && a.fits t) = true then some a else none

def AV.putAt : AV → Nat → Ty → AV → Option AV
  | .pr a b, o, t, n =>
    if (Nat.beq o 0 && AV.fits (.pr a b) t) = true then some n
    else if Nat.blt o a.size = true then match a.putAt o t n with
      | some a' => some (.pr a' b)
      | none => none
    else match b.putAt (o - a.size) t n with
      | some b' => some (.pr a b')
      | none => none
  | a, o, t, n => if (Nat.beq o 0 && (a.fits t || Nat.beq a.size 1 && !t.isAgg)) = true then some n else none

/-- A plain struct taken apart. -/
def Ty.explode : (t : Ty) → t.T → AV
  | .pair a b, x => .pr (a.explode x.1) (b.explode x.2)
  | .unit, _ => .un
  | .int k, x => .val (.int k) x
  | .bool, x => .val .bool x
  | .str, x => .val .str x
  | .sl e, x => .val (.sl e) x
  | .pt e, x => .val (.pt e) x

def AV.explode : AV → AV
  | .val t x => t.explode x
  | .pr a b => .pr a.explode b.explode
  | a => a

def Ty.zeroAV : Ty → AV
  | .pair a b => .pr a.zeroAV b.zeroAV
  | .unit => .un
  | .sl e => .nsl 0 e
  | .pt _ => .npt
  | t => .val t t.df

/-- Cells of which nothing is known. -/
def Ty.dds : Ty → AV
  | .pair a b => .pr a.dds b.dds
  | .unit => .un
  | _ => .dd

def isDds : Ty → AV → Bool
  | .pair a b, .pr x y => isDds a x && isDds b y
  | .unit, .un => true
  | .int _, .dd => true
  | .bool, .dd => true
  | .str, .dd => true
  | .sl _, .dd => true
  | .pt _, .dd => true
  | _, _ => false

/-- The first type of the table that is this type. -/
def eidOf (e : Ty) : List (TypeId × Ty) → TypeId
  | [] => 0
  | (i, t) :: r => if t = e then i else eidOf e r

/-- Nil slices that came of a zero value get their elements' type. -/
def AV.eids (th : List (TypeId × Ty)) : AV → AV
  | .nsl eid e => match eid with
    | 0 => .nsl (eidOf e th) e
    | n => .nsl n e
  | .pr a b => .pr (a.eids th) (b.eids th)
  | a => a

def bound (s : St) (G : List (Nat × Bool)) : Option Operand → Int → Option Int
  | none, d => some d
  | some x, _ => match s.av G x with
    | some (.val (.int _) n) => some n
    | _ => none

def inb (i : Int) (n : Nat) : Bool := decide (0 ≤ i ∧ i < (n : Int))

/-! one function for each kind of operation -/

abbrev PC := List (Nat × Bool)

def isNil : Operand → Bool
  | .const (.slice none 0 0) => true
  | _ => false

def opMove (C : Ctx) (s : St) (G : PC) (ty : TypeId) (x : Operand) : Option SV :=
  match isNil x with
  | true => match find ty C.th, find ty C.se with
    | some (.sl e), some eid => some (.one (.nsl eid e))
    | _, _ => none
  | false => s.get G x

def isBool (C : Ctx) (t : TypeId) : Bool :=
  match find t C.th with
  | some .bool => true
  | _ => false

/-- A slice's type. -/
def isSl (C : Ctx) (t : TypeId) : Bool :=
  match find t C.th with
  | some (.sl _) => true
  | _ => false

/-- Structs of two whole numbers are compared. -/
def eqPair (C : Ctx) (t : TypeId) (op : BinOp) : AV → AV → Option AV
  | .val (.pair (.int k) (.pair (.int k') .unit)) x, .val (.pair (.int l) (.pair (.int l') .unit)) y =>
    if find t C.th = some (.pair (.int k) (.pair (.int k') .unit)) ∧ k = l ∧ k' = l' then
      match op with
      | .eql => some (.val .bool (decide (x.1 = y.1) && decide (x.2.1 = y.2.1)))
      | .neq => some (.val .bool (!(decide (x.1 = y.1) && decide (x.2.1 = y.2.1))))
      | _ => none
    else none
  | _, _ => none

def opBin (C : Ctx) (s : St) (G : PC) (op : BinOp) (t : TypeId) (x y : Operand) : Option (Option Bool × SV) :=
  match s.av G x, s.av G y with
  | some a, some b => match binary (isBool C t) op a b with
    | some (g, r) => some (g, .one r)
    | none => match eqPair C t op a b with
      | some r => some (none, .one r)
      | none => none
  | some (.val (.sl e) xs), none => match op, y, isSl C t with
    | .eql, .const (.slice none 0 0), true => some (none, .one (.ub xs.isEmpty))
    | _, _, _ => none
  | _, _ => none

def opUn (s : St) (G : PC) (op : UnOp) (x : Operand) : Option SV :=
  match s.av G x with
  | some a => match unary op a with
    | some r => some (.one r)
    | none => none
  | none => none

inductive PickArm where
  | tt | ff | other

def armOf : Operand → PickArm
  | .const (.bool true) => .tt
  | .const (.bool false) => .ff
  | _ => .other

def boolOf (s : St) (G : PC) (x : Operand) : Option Bool :=
  match s.av G x with
  | some (.val .bool b) => some b
  | _ => none

def ubOf (s : St) (x : Operand) : Option Bool :=
  match s.av [] x with
  | some (.ub c) => some c
  | _ => none

def opPick (s : St) (G : PC) (c : Tmp) (a b : Operand) : Option SV :=
  match boolOf s G (.tmp c) with
  | some x =>
    match armOf a with
    | .tt => match boolOf s ((c, false) :: G) b with
      | some z => some (.one (.val .bool (x || z)))
      | none => none
    | _ => match armOf b with
      | .ff => match boolOf s ((c, true) :: G) a with
        | some y => some (.one (.val .bool (x && y)))
        | none => none
      | _ => none
  | none => none

def opLoad (C : Ctx) (s : St) (G : PC) (t : TypeId) (a : Operand) : Option SV :=
  match s.av G a, find t C.th with
  | some (.val (.pt e) (some x)), some e' => if e = e' then some (.one (.val e x)) else none
  | some (.bx i off _), some e => match s.tab[i]? with
    | some (.box c) => match c.at off e with
      | some a => some (.one a)
      | none => none
    | _ => none
  | some (.ela i j e), some e' => match s.tab[i]? with
    | some (.arr _ e'' xs) => if e' = e'' ∧ e = e'' then some (.one (.val e'' (xs.getD j.toNat e''.df))) else none
    | _ => none
  | some (.xr i (.cell j)), some e' => match s.tab[i]? with
    | some (.rows _ _ e _) => if e' = .sl e then some (.one (.xr i (.row j))) else none
    | _ => none
  | _, _ => none

def opNil (s : St) (G : PC) (x : Operand) : Option (Option Bool × SV) :=
  match s.av G x with
  | some (.val (.pt e) o) => some (some o.isSome, .one (.val (.pt e) (some (o.getD e.df))))
  | some (.bx i off t) => some (none, .one (.bx i off t))
  | _ => none

def opFieldAddr (C : Ctx) (s : St) (G : PC) (t : TypeId) (x : Operand) (f : Nat) : Option SV :=
  match s.av G x, find t C.th with
  | some (.val (.pt e) (some y)), some e' =>
    if e = e' then match e.prj f y with
      | some (_, .val ft z) => match Nat.blt 0 ft.size with
        | true => some (.one (.val (.pt ft) (some z)))
        | false => none
      | _ => none
    else none
  | some (.bx i off _), some e => match e.fld f with
    | some (o, ft) => match Nat.blt 0 ft.size with
      | true => some (.one (.bx i (off + o) ft))
      | false => none
    | none => none
  | _, _ => none

def opField (C : Ctx) (s : St) (G : PC) (t : TypeId) (x : Operand) (f : Nat) : Option SV :=
  match s.av G x, find t C.th with
  | some a, some e => if a.fits e = true then match a.nth f with
      | some r => some (.one r)
      | none => none
    else match a with
      | .val t' y => if t' = e then match e.prj f (castD t' e y) with
          | some (_, r) => some (.one r)
          | none => none
        else none
      | _ => none
  | _, _ => none

def opIndexAddr (C : Ctx) (s : St) (G : PC) (t : TypeId) (x i : Operand) : Option (Option Bool × SV) :=
  match s.av G x, s.av G i, find t C.th with
  | some (.val (.sl e) xs), some (.val (.int _) n), some e' =>
    if e' = .sl e then some (some (inb n xs.length), .one (.val (.pt e) (some (xs.getD n.toNat e.df)))) else none
  | some (.own j), some (.val (.int _) n), some e' => match s.tab[j]? with
    | some (.arr _ e xs) => if e' = .sl e then some (some (inb n xs.length), .one (.ela j n e)) else none
    | _ => none
  | some (.xr j .top), some (.val (.int _) n), some e' => match s.tab[j]? with
    | some (.rows _ _ e xss) => if e' = .sl (.sl e) then some (some (inb n xss.length), .one (.xr j (.cell n))) else none
    | _ => none
  | _, _, _ => none

def opIndex (C : Ctx) (s : St) (G : PC) (t : TypeId) (x i : Operand) : Option (Option Bool × SV) :=
  match s.av G x, s.av G i, find t C.th with
  | some (.val .str b), some (.val (.int _) n), some .str => some (some (inb n b.size), .one (.val (.int .u8) (b[n.toNat]?.getD 0).toNat))
  | _, _, _ => none

def opExtract (s : St) (G : PC) (x : Operand) (ix : Nat) : Option SV :=
  match s.get G x with
  | some (.tup l) => match l[ix]? with
    | some a => some (.one a)
    | none => none
  | _ => none

def opSlice (C : Ctx) (s : St) (G : PC) (t : TypeId) (x : Operand) (lo hi : Option Operand) : Option (Option Bool × SV) :=
  match s.av G x, find t C.th with
  | some (.val (.sl e) xs), some e' =>
    if e' = .sl e then
      match bound s G lo 0, bound s G hi xs.length with
      | some l, some h => some (some (decide (0 ≤ l ∧ l ≤ h ∧ h ≤ (xs.length : Int))), .one (.val (.sl e) ((xs.take h.toNat).drop l.toNat)))
      | _, _ => none
    else none
  | some (.val .str b), some .str =>
    match bound s G lo 0, bound s G hi b.size with
    | some l, some h => some (some (decide (0 ≤ l ∧ l ≤ h ∧ h ≤ (b.size : Int))), .one (.val .str (b.extract l.toNat h.toNat)))
    | _, _ => none
  | _, _ => none

def opLen (C : Ctx) (s : St) (G : PC) (t : TypeId) (x : Operand) : Option SV :=
  match s.av G x, find t C.th with
  | some (.val (.sl e) xs), some (.sl _) => some (.one (.val (.int .i64) xs.length))
  | some (.val .str b), some .str => some (.one (.val (.int .i64) b.size))
  | some (.nsl _ _), some (.sl _) => some (.one (.val (.int .i64) (0 : Int)))
  | some (.own j), some (.sl _) => match s.tab[j]? with
    | some (.arr _ e xs) => some (.one (.val (.int .i64) xs.length))
    | _ => none
  | some (.xr j .top), some (.sl _) => match s.tab[j]? with
    | some (.rows _ _ e xss) => some (.one (.val (.int .i64) xss.length))
    | _ => none
  | _, _ => none

def opMinMax (s : St) (G : PC) (mx : Bool) (x y : Operand) : Option SV :=
  match s.av G x, s.av G y with
  | some (.val (.int k) a), some (.val (.int k') b) =>
    if k = k' then some (.one (.val (.int k) (match mx with | true => max a b | false => min a b))) else none
  | _, _ => none

def opConvert (C : Ctx) (s : St) (G : PC) (src dst : TypeId) (x : Operand) : Option SV :=
  match s.av G x, find src C.th, find dst C.th with
  | some (.val (.int k) a), some (.int k1), some (.int k2) => if k = k1 then some (.one (.val (.int k2) (k2.wrap a))) else none
  | _, _, _ => none

/-- The fields from number n on; the parts in order. -/
def buildGo (s : St) (G : PC) : Ty → Nat → List (Nat × Operand) → Option AV
  | .unit, _, [] => some .un
  | .unit, _, _ :: _ => none
  | .pair a b, n, (i, x) :: r =>
    match Nat.beq i n with
    | true => match s.av G x with
      | some y => if y.fits a = true then match buildGo s G b (n + 1) r with
          | some z => some (.pr y z)
          | none => none
        else match y with
          | .val t z => if t = a then match buildGo s G b (n + 1) r with
              | some w => some (.pr (.val t z) w)
              | none => none
            else none
          | _ => none
      | none => none
    | false => match buildGo s G b (n + 1) ((i, x) :: r) with
      | some z => some (.pr a.zeroAV z)
      | none => none
  | .pair a b, n, [] => match buildGo s G b (n + 1) [] with
    | some z => some (.pr a.zeroAV z)
    | none => none
  | _, _, _ => none

def opBuild (C : Ctx) (s : St) (G : PC) (t : TypeId) (parts : List (Nat × Operand)) : Option SV :=
  match find t C.th with
  | some e => match buildGo s G e 0 parts with
    | some a => some (.one (a.eids C.th))
    | none => none
  | none => none

def capsOf (s : St) (G : PC) : List Operand → Option (List (Nat × Ty))
  | [] => some []
  | x :: r => match s.av G x, capsOf s G r with
    | some (.bx i 0 t), some l => some ((i, t) :: l)
    | _, _ => none

def sure (v : Option SV) : Option (Option Bool × SV) :=
  match v with
  | some v => some (none, v)
  | none => none

def pureOp (C : Ctx) (s : St) (G : PC) (o : Oper) : Option (Option Bool × SV) :=
  match o.op with
  | .move x => sure (opMove C s G o.type x)
  | .assign x => sure (opMove C s G o.type x)
  | .binOp op t x y _ => opBin C s G op t x y
  | .unOp op _ x => sure (opUn s G op x)
  | .pick (.tmp c) a b => sure (opPick s G c a b)
  | .load t a => sure (opLoad C s G t a)
  | .nilCheck x => opNil s G x
  | .fieldAddr t x f => sure (opFieldAddr C s G t x f)
  | .field t x f => sure (opField C s G t x f)
  | .indexAddr t x i => opIndexAddr C s G t x i
  | .index t x i => opIndex C s G t x i
  | .extract x ix => sure (opExtract s G x ix)
  | .makeFunc (.func f) first caps => match first.toList with
    | [] => match capsOf s G caps.toList with
      | some l => some (none, .one (.fn f l))
      | none => none
    | _ => none
  | .slice t x lo hi none => opSlice C s G t x lo hi
  | .call ⟨.builtin .len, args, tys⟩ => match args.toList, tys.toList with
    | [x], [t] => sure (opLen C s G t x)
    | _, _ => none
  | .call ⟨.builtin .max, args, _⟩ => match args.toList with
    | [x, y] => sure (opMinMax s G true x y)
    | _ => none
  | .call ⟨.builtin .min, args, _⟩ => match args.toList with
    | [x, y] => sure (opMinMax s G false x y)
    | _ => none
  | .convert src dst x => sure (opConvert C s G src dst x)
  | .build t parts => sure (opBuild C s G t parts.toList)
  | _ => none

/-! ### operations that change the table -/

/-- 'own i' turned into r, wherever it stands. -/
def AV.sub (i : Nat) (r : AV) : AV → AV
  | .own j => match Nat.beq j i with | true => r | false => .own j
  | .ela j n e => match Nat.beq j i with | true => .dd | false => .ela j n e
  | .xr j t => match Nat.beq j i with
    | true => match t with | .top => r | _ => .dd
    | false => .xr j t
  | .pr a b => .pr (AV.sub i r a) (AV.sub i r b)
  | a => a

def SV.sub (i : Nat) (r : AV) : SV → SV
  | .one a => .one (AV.sub i r a)
  | .tup l => .tup (l.map (AV.sub i r))
  | .dd => .dd

def Ent.sub (i : Nat) (r : AV) : Ent → Ent
  | .box a => .box (AV.sub i r a)
  | e => e

def setAt : Nat → Ent → List Ent → List Ent
  | _, _, [] => []
  | 0, e, _ :: r => e :: r
  | n + 1, e, x :: r => x :: setAt n e r

def St.sub (s : St) (i : Nat) (r : AV) : St :=
  { env := s.env.map fun p => (p.1, p.2.1.sub i r, p.2.2), tab := s.tab.map (Ent.sub i r), pd := s.pd }

/-- What speaks of box i speaks of it no longer. -/
def AV.kill (i : Nat) : AV → AV
  | .bx j o t => match Nat.beq j i with | true => .dd | false => .bx j o t
  | .fn f caps => match has i (caps.map (·.1)) with | true => .dd | false => .fn f caps
  | .pr a b => .pr (a.kill i) (b.kill i)
  | a => a

def SV.kill (i : Nat) : SV → SV
  | .one a => .one (a.kill i)
  | .tup l => .tup (l.map (AV.kill i))
  | .dd => .dd

def Ent.kill (i : Nat) : Ent → Ent
  | .box a => .box (a.kill i)
  | e => e

def St.kill (s : St) (i : Nat) : St := { env := s.env.map fun p => (p.1, p.2.1.kill i, p.2.2), tab := s.tab.map (Ent.kill i), pd := s.pd }

/-- An owned row or box becomes memory that nobody changes any more. The first m entries came in: these stay. -/
def St.freeze (s : St) (m i : Nat) : Option St :=
  match Nat.ble m i, s.tab[i]? with
  | true, some (.arr _ e xs) => some { s.sub i (.val (.sl e) xs) with tab := setAt i .dead (s.sub i (.val (.sl e) xs)).tab }
  | true, some (.rows _ _ e xss) => some { s.sub i (.val (.sl (.sl e)) xss) with tab := setAt i .dead (s.sub i (.val (.sl (.sl e)) xss)).tab }
  | true, some (.box _) => some { s.kill i with tab := setAt i .dead (s.kill i).tab }
  | _, _ => none

def St.freezes (s : St) (m : Nat) : List Nat → Option St
  | [] => some s
  | i :: r => match has i r with
    | true => s.freezes m r
    | false => match s.freeze m i with
      | some s' => s'.freezes m r
      | none => none

def St.vals (s : St) (G : PC) (t : Ty) : List (Nat × Operand) → Nat → Option (List t.T × List Nat)
  | [], _ => some ([], [])
  | (i, x) :: r, n => match Nat.beq i n with
    | true => match s.av G x with
      | some a => match a.toVal s.tab t, s.vals G t r (n + 1) with
        | some (y, l), some (ys, m) => some (y :: ys, l ++ m)
        | _, _ => none
      | none => none
    | false => none

def AV.list : AV → List AV
  | .pr a b => a :: b.list
  | _ => []

def nodup : List Nat → Bool
  | [] => true
  | i :: r => !has i r && nodup r

def apart (l m : List Nat) : Bool := l.all fun i => !has i m

def gcond (s : St) : PC → Option Bool
  | [] => some true
  | [(d, w)] => match look d s.env with
    | some (.one (.val .bool b), _) => some (match w with | true => b | false => !b)
    | _ => none
  | (d, w) :: r => match look d s.env, gcond s r with
    | some (.one (.val .bool b), _), some g => some ((match w with | true => b | false => !b) && g)
    | _, _ => none

def setMany (tab : List Ent) : List Nat → List Ent → List Ent
  | i :: is, e :: es => setMany (setAt i e tab) is es
  | _, _ => tab

/-- The results of a call in the slot: one value, or several. -/
def resSV (many : Bool) (a : AV) : SV := match many with | true => .tup a.list | false => .one a

section
variable {A : Type}

/-- An operand of a known type: nil too. -/
def avT (C : Ctx) (s : St) (G : PC) (t : TypeId) (x : Operand) : Option AV :=
  match opMove C s G t x with
  | some (.one a) => some a
  | _ => none

def avs (C : Ctx) (s : St) (G : PC) : List Operand → List TypeId → Option (List AV)
  | [], _ => some []
  | x :: r, t :: ts => match avT C s G t x, avs C s G r ts with
    | some a, some l => some (a :: l)
    | _, _ => none
  | _ :: _, [] => none

/-- Do the owned parts of what a call hands back stay owned? -/
def keeps (mu : List Nat) (dst : Option Tmp) (res : Sh) : Bool :=
  res.pure || !res.vable || match dst with | some d => has d mu | none => true

/-- A call of a function without owned arguments. -/
def callPure (m : Nat) (mu : List Nat) (s : St) (G : PC) (dst : Option Tmp) (many : Bool) (ins res : Sh) (f : ins.T → Option res.T) (args : List AV) (K : St → Option A) : Option A :=
  match ins.dec s.tab (prs args) with
  | some (x, [], lents) =>
    match (match res.flat with | true => some s | false => s.freezes m lents) with
    | none => none
    | some s' =>
    match G with
    | [] => match keeps mu dst res with
      | true => (f x).bind fun r => K ({ s' with tab := s'.tab ++ (res.enc r s'.tab.length).2 }.put dst (resSV many (res.enc r s'.tab.length).1) [])
      | false => (f x).bind fun r => K (s'.put dst (resSV many (res.encV r)) [])
    | _ => match gcond s G, res.pure, res.flat || lents.isEmpty with
      | some g, true, true => (if g = true then f x else some res.df).bind fun r => K (s.put dst (resSV many (res.enc r s.tab.length).1) G)
      | _, _, _ => none
  | _ => none

/-- The references of an entry under other numbers. -/
def AV.mapI (f : Nat → Nat) : AV → AV
  | .own i => .own (f i)
  | .bx i o t => .bx (f i) o t
  | .ela i j e => .ela (f i) j e
  | .xr i t => .xr (f i) t
  | .fn g caps => .fn g (caps.map fun p => (f p.1, p.2))
  | .pr a b => .pr (a.mapI f) (b.mapI f)
  | a => a

def Ent.mapI (f : Nat → Nat) : Ent → Ent
  | .box a => .box (a.mapI f)
  | e => e

/-- What speaks of the rows of L speaks of them no longer. -/
def AV.subL (L : List Nat) : AV → AV
  | .own j => match has j L with | true => .dd | false => .own j
  | .ela j n e => match has j L with | true => .dd | false => .ela j n e
  | .pr a b => .pr (a.subL L) (b.subL L)
  | a => a

def SV.subL (L : List Nat) : SV → SV
  | .one a => .one (a.subL L)
  | .tup l => .tup (l.map (AV.subL L))
  | .dd => .dd

def Ent.subL (L : List Nat) : Ent → Ent
  | .box a => .box (a.subL L)
  | e => e

def St.subL (s : St) (L : List Nat) : St := { env := s.env.map fun p => (p.1, p.2.1.subL L, p.2.2), tab := s.tab.map (Ent.subL L), pd := s.pd }

/-- The entries that may have moved. -/
def moved (fx : List Nat) : List Nat → Nat → List Nat
  | [], _ => []
  | i :: r, k => match has k fx with
    | true => moved fx r (k + 1)
    | false => i :: moved fx r (k + 1)

def isArr : Option Ent → Bool
  | some (.arr _ _ _) => true
  | _ => false

/-- No entry that may move is one that must stay. -/
def movesOk (cfx fx : List Nat) : List Nat → Nat → Bool
  | [], _ => true
  | i :: r, k => (has k fx || !has i cfx) && movesOk cfx fx r (k + 1)

def nth (l : List Nat) (i : Nat) : Nat := l.getD i 0

/-- The nil slices of a box's content as owned rows without elements. -/
def AV.mats : AV → Nat → AV × List Ent
  | .nsl eid e, n => (.own n, [.arr eid e []])
  | .pr a b, n => (.pr (a.mats n).1 (b.mats (n + (a.mats n).2.length)).1, (a.mats n).2 ++ (b.mats (n + (a.mats n).2.length)).2)
  | a, _ => (a, [])

def matsAt : List Nat → List Ent → List Ent
  | [], tab => tab
  | i :: r, tab => match tab[i]? with
    | some (.box c) => matsAt r (setAt i (.box (c.mats tab.length).1) (tab ++ (c.mats tab.length).2))
    | _ => matsAt r tab

def boxesOf : List AV → List Nat
  | [] => []
  | .bx i _ _ :: r => i :: boxesOf r
  | _ :: r => boxesOf r

def callEff (C : Ctx) (s : St) (dst : Option Tmp) (many : Bool) (ins res : Sh) (f : ins.T → Option (res.T × ins.T)) (args : List AV) (K : St → Option A) : Option A :=
  match ins.dec s.tab (prs args) with
  | some (x, idx, lents) =>
    match nodup idx && apart lents idx && ((idx.all fun i => Nat.ble C.m i) || idx.all fun i => Nat.blt i C.m) && movesOk C.fx (ins.fx 0) idx 0 && (moved (ins.fx 0) idx 0).all fun i => isArr s.tab[i]? with
    | false => none
    | true =>
    match (match res.flat && ins.flatO with | true => some s | false => s.freezes C.m lents) with
    | none => none
    | some s' =>
    (f x).bind fun p => K ({ (s'.subL (moved (ins.fx 0) idx 0)) with tab := setMany (s'.subL (moved (ins.fx 0) idx 0)).tab idx ((ins.enc p.2 0).2.map (Ent.mapI (nth idx))) ++ (res.enc p.1 s'.tab.length).2 }.put dst
      (resSV many (res.enc p.1 s'.tab.length).1) [])
  | _ => none

/-- A call that changes one row of a slice of slices where it lies. -/
def callRow (s : St) (dst : Option Tmp) (many : Bool) : (ins res : Sh) → (ins.T → Option (res.T × ins.T)) → List AV → (St → Option A) → Option A
  | .pr (.own eid e) .un, .un, f, [.xr i (.row j)], K => match s.tab[i]? with
    | some (.rows eid0 eid' e' xss) => if eid' = eid ∧ e' = e ∧ e.flat = true ∧ many = true then
        (f (castD (.sl e') (.sl e) (xss.getD j.toNat []), ())).bind fun p => K ({ s with tab := setAt i (.rows eid0 eid e ((castD (.sl (.sl e')) (.sl (.sl e)) xss).set j.toNat p.2.1)) s.tab }.put dst (.tup []) [])
      else none
    | _ => none
  | _, _, _, _, _ => none

def isRow : List AV → Bool
  | [.xr _ (.row _)] => true
  | _ => false

end

section
variable {A : Type}

/-! ### the steps -/

/-- Not a slice whose rows are owned with it. -/
def AV.notTop : AV → Bool
  | .xr _ .top => false
  | _ => true

def opAppend (C : Ctx) (s : St) (dst : Option Tmp) (t : TypeId) (a x : Operand) : Option (Option Bool × St) :=
  match find t C.th, find t C.se, s.av [] a, s.av [] x with
  | some (.sl e), some eid, some p, some q =>
    match q.notTop, q.toVal s.tab (.sl e) with
    | true, some (ys, _) =>
      match p with
      | .own i => match s.tab[i]? with
        | some (.arr eid' e' xs) => if eid' = eid ∧ e' = e ∧ has i C.fx = false then
            some (some (decide ((castD (.sl e') (.sl e) xs).length + ys.length ≤ LIM)),
              { s.sub i .dd with tab := setAt i (.arr eid e (castD (.sl e') (.sl e) xs ++ ys)) (s.sub i .dd).tab }.put dst (.one (.own i)) [])
          else none
        | _ => none
      | .nsl _ e' => if e' = e then some (some (decide (ys.length ≤ LIM)), { s with tab := s.tab ++ [Ent.arr eid e ys] }.put dst (.one (.own s.tab.length)) []) else none
      | _ => none
    | _, _ => none
  | _, _, _, _ => none

def sameOp : Operand → Operand → Bool
  | .tmp a, .tmp b => Nat.beq a b
  | .const (.int k a), .const (.int k' b) => decide (k = k') && decide (a = b)
  | _, _ => false

def isZero : Operand → Bool
  | .const (.int _ 0) => true
  | _ => false

/-- What a new slice is, and whether its length is one. A slice of slices in a slot of mu is owned with its rows. -/
def makeEnt (C : Ctx) (s : St) (dst : Option Tmp) (t : TypeId) (l c : Operand) : Option (Bool × Ent) :=
  match find t C.th, find t C.se, s.av [] c with
  | some (.sl e), some eid, some (.val (.int _) n) =>
    match (match sameOp l c with
      | true => some n.toNat
      | false => match isZero l with
        | true => some 0
        | false => none) with
    | some m => match (match dst with | some d => has d C.mu | none => false), e, find eid C.se with
      | true, .sl e1, some eid1 => some (decide (0 ≤ n ∧ n ≤ (LIM : Int)), .rows eid eid1 e1 (List.replicate m []))
      | _, _, _ => some (decide (0 ≤ n ∧ n ≤ (LIM : Int)), .arr eid e (List.replicate m e.df))
    | none => none
  | _, _, _ => none

/-- How a slot speaks of the entry with number n. -/
def entAV (n : Nat) : Ent → AV
  | .rows _ _ _ _ => .xr n .top
  | .box _ => .bx n 0 .unit
  | _ => .own n

def opMake (C : Ctx) (s : St) (dst : Option Tmp) (t : TypeId) (l c : Operand) : Option (Option Bool × St) :=
  match makeEnt C s dst t l c with
  | some (g, e) => some (some g, { s with tab := s.tab ++ [e] }.put dst (.one (entAV s.tab.length e)) [])
  | none => none

/-- A row that is made longer while somebody still looks at the old one: it is not yet put where it belongs. -/
def pendApp (C : Ctx) (s : St) (dst : Option Tmp) (t : TypeId) (a x : Operand) : Option (Bool × Pend) :=
  match find t C.th, find t C.se, dst, s.av [] a, s.av [] x with
  | some (.sl e), some eid, some d, some p, some q =>
    match q.notTop, q.toVal s.tab (.sl e) with
    | true, some (ys, _) =>
      match p with
      | .xr i (.row j) => match s.tab[i]? with
        | some (.rows _ eid' e' xss) => if eid' = eid ∧ e' = e then
            some (decide ((castD (.sl e') (.sl e) (xss.getD j.toNat [])).length + ys.length ≤ LIM), .app d i (some j) eid e (castD (.sl e') (.sl e) (xss.getD j.toNat []) ++ ys))
          else none
        | _ => none
      | .own i => match s.tab[i]? with
        | some (.arr eid' e' xs) => if eid' = eid ∧ e' = e then
            some (decide ((castD (.sl e') (.sl e) xs).length + ys.length ≤ LIM), .app d i none eid e (castD (.sl e') (.sl e) xs ++ ys))
          else none
        | _ => none
      | _ => none
    | _, _ => none
  | _, _, _, _, _ => none

def pendOp (C : Ctx) (s : St) (o : Oper) : Option (Bool × Pend) :=
  match o.op with
  | .call ⟨.builtin .append, args, tys⟩ => match args.toList, tys.toList with
    | [a, x], [t, t'] => match Nat.beq t t' with
      | true => pendApp C s o.dst t a x
      | false => none
    | _, _ => none
  | _ => none

/-- In a region that draws its order: a new slice, or a longer row. -/
def storedIn (d : Nat) : List (Option Oper) → Bool
  | [] => false
  | some o :: r => (match o.op with | .store _ (.tmp d') _ => Nat.beq d' d | _ => false) || storedIn d r
  | none :: r => storedIn d r

def allocAV (C : Ctx) (e : Ty) : Bool → AV
  | true => e.dds
  | false => e.zeroAV.eids C.th

def pendHead (C : Ctx) (s : St) (o : Oper) (rest : List (Option Oper)) : Option (Bool × Pend) :=
  match o.op, o.dst with
  | .makeSlice t l c, some d => (makeEnt C s (some d) t l c).map fun p => (p.1, .make d p.2)
  | .alloc t, some d => match find t C.th with
    | some e => some (true, .make d (.box (allocAV C e (storedIn d rest))))
    | none => none
  | _, _ => pendOp C s o

def findPend (d : Nat) : List Pend → Option Ent
  | [] => none
  | .make d' e :: r => match Nat.beq d' d with
    | true => some e
    | false => findPend d r
  | _ :: r => findPend d r

def inPend (d : Nat) (p : Pend) : Bool := Nat.beq p.d d || (match p.old with | some d0 => Nat.beq d0 d | none => false)

/-- How many lie, or lay, in this slot. -/
def countPend (d : Nat) : List Pend → Nat
  | [] => 0
  | p :: r => (match inPend d p with | true => 1 | false => 0) + countPend d r

/-- In a region that draws its order: a new row is made longer, a new variable is written. -/
def pendUpd (C : Ctx) (s : St) (ps : List Pend) (o : Oper) : Option (Bool × Nat × Pend) :=
  match o.op, o.dst with
  | .call ⟨.builtin .append, args, tys⟩, some d => match args.toList, tys.toList with
    | [.tmp d0, x], [t, t'] => match Nat.beq t t', find t C.th, find t C.se, s.av [] x, (match Nat.beq d0 d with | true => none | false => findPend d0 ps) with
      | true, some (.sl e), some eid, some q, some (.arr eid' e' xs) => match q.notTop, q.toVal s.tab (.sl e), e.flat, Nat.beq (countPend d0 ps) 1 with
        | true, some (ys, _), true, true => if eid' = eid ∧ e' = e then
            some (decide ((castD (.sl e') (.sl e) xs).length + ys.length ≤ LIM), d0, .upd d0 d (.arr eid e (castD (.sl e') (.sl e) xs ++ ys)))
          else none
        | _, _, _, _ => none
      | _, _, _, _, _ => none
    | _, _ => none
  | .store t (.tmp d0) x, none => match find t C.th, avT C s [] t x, findPend d0 ps with
    | some e, some (.val e' y), some (.box c) => match e.flat, Nat.beq (countPend d0 ps) 1 with
      | true, true => if e' = e ∧ isDds e c = true then some (true, d0, .upd d0 d0 (.box (Ty.explode e (castD e' e y)))) else none
      | _, _ => none
    | _, _, _ => none
  | _, _ => none

/-- In a region that draws its order: a call that hands back a new row. -/
def pendCall (C : Ctx) (s : St) (o : Oper) (K : Pend → Option A) : Option A :=
  match o.op, o.dst with
  | .call ⟨.value f, args, tys⟩, some d => match s.av [] f, avs C s [] args.toList tys.toList with
    | some (.fn fid caps), some l => match find fid C.sg with
      | some ⟨ins, .own eid e, false, .inl f⟩ => match ins.dec s.tab (prs (l ++ capAVs caps)), e.flat with
        | some (x, [], _), true => (f x).bind fun r => K (.make d (.arr eid e r))
        | _, _ => none
      | _ => none
    | _, _ => none
  | _, _ => none

/-- A row that was made longer is put where it belongs. -/
def storePend (C : Ctx) (s : St) (p : Pend) (o : Oper) : Option (Option Bool × St) :=
  match o.op, p with
  | .store t x (.tmp d'), .app d i (some j) eid e xs => match find t C.th, s.av [] x, s.tab[i]? with
    | some t', some (.xr i' (.cell j')), some (.rows eid0 eid' e' xss) =>
      if t' = .sl e ∧ eid' = eid ∧ e' = e ∧ d' = d ∧ i' = i ∧ has i C.fx = false then
        some (some (decide (j = j')), { s.sub i (.xr i .top) with tab := setAt i (.rows eid0 eid e ((castD (.sl (.sl e')) (.sl (.sl e)) xss).set j.toNat xs)) (s.sub i (.xr i .top)).tab, pd := [] }.put o.dst .dd [])
      else none
    | _, _, _ => none
  | _, _ => none

/-- The new slices come into the table. -/
def settle : List Pend → St → Option St
  | [], s => some s
  | .make d e :: r, s => settle r ({ s with tab := s.tab ++ [e] }.put (some d) (.one (entAV s.tab.length e)) [])
  | .app _ _ _ _ _ _ :: _, _ => none
  | .upd _ _ _ :: _, _ => none

def olds (d : Nat) : List Pend → Bool
  | [] => false
  | p :: r => (match p.old with | some d0 => Nat.beq d0 d | none => false) || olds d r

/-- What was changed is forgotten, what it has become is new. -/
def fixUpd (all : List Pend) : List Pend → List Pend
  | [] => []
  | .make d e :: r => match olds d all with
    | true => fixUpd all r
    | false => .make d e :: fixUpd all r
  | .upd _ d e :: r => .make d e :: fixUpd all r
  | p :: r => p :: fixUpd all r

def updOk (all : List Pend) : List Pend → Bool
  | [] => true
  | .upd d0 d _ :: r => (all.all fun q => match q with | .upd _ d' _ => !Nat.beq d' d0 || Nat.beq d' d | _ => true) && updOk all r
  | _ :: r => updOk all r

/-- A part of an owned row: the row goes on as this part. -/
def opReslice (C : Ctx) (s : St) (dst : Option Tmp) (t : TypeId) (x : Operand) (lo hi : Option Operand) : Option (Option Bool × St) :=
  match s.av [] x, find t C.th with
  | some (.own i), some (.sl e') => match s.tab[i]? with
    | some (.arr eid e xs) => if e' = e ∧ has i C.fx = false then
        match bound s [] lo 0, bound s [] hi xs.length with
        | some l, some h => some (some (decide (0 ≤ l ∧ l ≤ h ∧ h ≤ (xs.length : Int))), { s.sub i .dd with tab := setAt i (.arr eid e ((xs.take h.toNat).drop l.toNat)) (s.sub i .dd).tab }.put dst (.one (.own i)) [])
        | _, _ => none
      else none
    | _ => none
  | _, _ => none

def opBuildSlice (C : Ctx) (s : St) (dst : Option Tmp) (t : TypeId) (n : Nat) (parts : List (Nat × Operand)) : Option (Option Bool × St) :=
  match find t C.th, find t C.se, dst with
  | some (.sl e), some eid, some d =>
    match s.vals [] e parts 0 with
    | some (ys, l) => match Nat.beq parts.length n && Nat.blt (n * e.size) 1000, s.freezes C.m l with
      | true, some s' => match has d C.mu with
        | true => some (none, { s' with tab := s'.tab ++ [Ent.arr eid e ys] }.put dst (.one (.own s'.tab.length)) [])
        | false => some (none, s'.put dst (.one (.val (.sl e) ys)) [])
      | _, _ => none
    | none => none
  | _, _, _ => none

def opBox (C : Ctx) (s : St) (dst : Option Tmp) (t : TypeId) (x : Operand) : Option (Option Bool × St) :=
  match find t C.th, avT C s [] t x, dst with
  | some e, some a, some d =>
    match has d C.mu with
    | true => match a.explode.fits e with
      | true => some (none, { s with tab := s.tab ++ [Ent.box a.explode] }.put dst (.one (.bx s.tab.length 0 e)) [])
      | false => none
    | false => match a.toVal s.tab e with
      | some (y, l) => match s.freezes C.m l with
        | some s' => some (none, s'.put dst (.one (.val (.pt e) (some y))) [])
        | none => none
      | none => none
  | _, _, _ => none

def opAlloc (C : Ctx) (s : St) (dst : Option Tmp) (t : TypeId) : Option (Option Bool × St) :=
  match find t C.th with
  | some e => some (none, { s with tab := s.tab ++ [Ent.box (e.zeroAV.eids C.th)] }.put dst (.one (.bx s.tab.length 0 e)) [])
  | none => none

def opStore (C : Ctx) (s : St) (t : TypeId) (a x : Operand) : Option (Option Bool × St) :=
  match find t C.th, s.av [] a, avT C s [] t x with
  | some e, some (.bx i off _), some v => match s.tab[i]? with
    | some (.box c) => match v.explode.fits e with
      | true => match c.putAt off e v.explode with
        | some c' => some (none, { s with tab := setAt i (.box c') s.tab })
        | none => none
      | false => none
    | _ => none
  | some e, some (.ela i j e'), some v => match v.toVal s.tab e with
    | some (y, l) => match has i l, s.freezes C.m l with
      | false, some s' => match s'.tab[i]? with
        | some (.arr eid e'' xs) => if e'' = e ∧ e' = e then
            some (none, { s' with tab := setAt i (.arr eid e ((castD (.sl e'') (.sl e) xs).set j.toNat y)) s'.tab })
          else none
        | _ => none
      | _, _ => none
    | none => none
  | _, _, _ => none

def effOp (C : Ctx) (s : St) (o : Oper) : Option (Option Bool × St) :=
  match o.op with
  | .call ⟨.builtin .append, args, tys⟩ => match args.toList, tys.toList with
    | [a, x], [t, t'] => match Nat.beq t t' with
      | true => opAppend C s o.dst t a x
      | false => none
    | _, _ => none
  | .makeSlice t l c => opMake C s o.dst t l c
  | .slice t x lo hi mx => match mx with
    | none => opReslice C s o.dst t x lo hi
    | some _ => none
  | .buildSlice t n parts => opBuildSlice C s o.dst t n parts.toList
  | .box t x => opBox C s o.dst t x
  | .alloc t => opAlloc C s o.dst t
  | .store t a x => match opStore C s t a x with
    | some (g, s') => some (g, s'.put o.dst .dd [])
    | none => none
  | _ => none

def ifg (g : Option Bool) (x : Option A) : Option A :=
  match g with
  | none => x
  | some g => if g = true then x else none

def step (C : Ctx) (s : St) (G : PC) (o : Oper) (K : St → Option A) : Option A :=
  match o.op with
  | .call ⟨.value f, args, tys⟩ => match s.av G f, avs C s G args.toList tys.toList, s.pd with
    | some (.fn fid caps), some l, [] => match find fid C.sg with
      | some sp => match sp.fn with
        | .inl f => callPure C.m C.mu s G o.dst sp.many sp.ins sp.res f (l ++ capAVs caps) K
        | .inr f => match G with
          | [] => match isRow (l ++ capAVs caps) with
            | true => callRow s o.dst sp.many sp.ins sp.res f (l ++ capAVs caps) K
            | false => match avs C ⟨s.env, matsAt (boxesOf (l ++ capAVs caps)) s.tab, []⟩ G args.toList tys.toList with
              | some l' => callEff C ⟨s.env, matsAt (boxesOf (l ++ capAVs caps)) s.tab, []⟩ o.dst sp.many sp.ins sp.res f (l' ++ capAVs caps) K
              | none => none
          | _ => none
      | none => none
    | _, _, _ => none
  | _ => match pureOp C s G o with
    | some (none, v) => K (s.put o.dst v G)
    | some (some g, v) => match G with
      | [] => if g = true then K (s.put o.dst v G) else none
      | _ => match gcond s G with
        | some c => if (!c || g) = true then K (s.put o.dst v G) else none
        | none => none
    | none => match G, s.pd with
      | [], [] => match effOp C s o with
        | some (g, s') => ifg g (K s')
        | none => match pendOp C s o with
          | some (g, p) => if g = true then K ({ s with pd := [p] }.put o.dst .dd []) else none
          | none => none
      | [], [p] => match storePend C s p o with
        | some (g, s') => ifg g (K s')
        | none => none
      | _, _ => none

/-- The path condition of an operation. -/
def pathOf (s : St) (ops : Array Oper) (g : Option (Nat × Bool)) : Option PC :=
  match g with
  | none => some []
  | some (j, w) => match ops[j]? with
    | some o => match o.dst with
      | some d => match look d s.env with
        | some (.one (.val .bool _), T) => some ((d, w) :: T)
        | _ => none
      | none => none
    | none => none

/-- The slot that is written is one, and no path condition reads it. -/
def dstOk (C : Ctx) (s : St) (G : PC) (d : Option Tmp) : Bool :=
  match d with
  | none => true
  | some t => Nat.blt t C.n && (G.all fun q => !Nat.beq q.1 t) && (s.env.all fun p => p.2.2.all fun q => !Nat.beq q.1 t) && s.pd.all fun p => !Nat.beq p.d t

def runOps (C : Ctx) (ops : Array Oper) : List Oper → St → (St → Option A) → Option A
  | [], s, K => K s
  | o :: r, s, K => match pathOf s ops o.guard with
    | some G => match dstOk C s G o.dst with
      | true => step C s G o fun s' => runOps C ops r s' K
      | false => none
    | none => none

/-! regions that draw their order: first come n operations that leave the table alone, in any order -/

/-- The slots that decide whether an operation is carried out. -/
def guardSlots (ops : Array Oper) : Nat → Option (Nat × Bool) → List Nat
  | 0, _ => []
  | _ + 1, none => []
  | k + 1, some (j, _) => match ops[j]? with
    | some o => match o.dst with
      | some d => d :: guardSlots ops k o.guard
      | none => []
    | none => []

def operandSlots : List Operand → List Nat
  | [] => []
  | .tmp t :: r => t :: operandSlots r
  | _ :: r => operandSlots r

/-- The slots that an operation reads. -/
def slotsOf (ops : Array Oper) (o : Oper) : List Nat := operandSlots o.op.operands.toList ++ guardSlots ops 6 o.guard

def limit (l : List Nat) (env : List (Nat × SV × PC)) : List (Nat × SV × PC) := env.filter fun p => has p.1 l

/-- A literal slice that nobody changes, of plain parts. -/
def freeBuild (C : Ctx) (s : St) (G : PC) (o : Oper) : Bool :=
  match G, o.op, o.dst with
  | [], .buildSlice t n parts, some d => match find t C.th with
    | some (.sl e) => match s.vals [] e parts.toList 0 with
      | some (_, []) => !has d C.mu
      | _ => false
    | _ => false
  | _, _, _ => false

def freeOp (C : Ctx) (s : St) (G : PC) (o : Oper) : Bool :=
  match o.op with
  | .call ⟨.value f, args, tys⟩ => match s.av G f, avs C s G args.toList tys.toList with
    | some (.fn fid caps), some l => match find fid C.sg with
      | some sp => (sp.res.pure || (match G with | [] => !keeps C.mu o.dst sp.res | _ => false)) && (match sp.fn with | .inl _ => true | .inr _ => false) && (sp.res.flat || match sp.ins.dec s.tab (prs (l ++ capAVs caps)) with | some (_, _, []) => true | _ => false)
      | none => false
    | _, _ => false
  | _ => match pureOp C s G o with
    | some _ => true
    | none => freeBuild C s G o

/-- The operations of the head; none in place of one that has been carried out. -/
def headL (X : List Nat) : List Oper → Nat → List (Option Oper)
  | [], _ => []
  | o :: r, j => (match has j X with | true => none | false => some o) :: headL X r (j + 1)

def runFree (C : Ctx) (ops : Array Oper) : List (Option Oper) → St → List Pend → (St → List Pend → Option A) → Option A
  | [], s, ps, K => K s ps
  | none :: r, s, ps, K => runFree C ops r s ps K
  | some o :: r, s, ps, K => match pathOf ⟨limit (slotsOf ops o) s.env, s.tab, []⟩ ops o.guard with
    | some G => match dstOk C { s with pd := ps } G o.dst && G.all fun q => has q.1 (slotsOf ops o) with
      | true => match freeOp C ⟨limit (slotsOf ops o) s.env, s.tab, []⟩ G o with
        | true => step C ⟨limit (slotsOf ops o) s.env, s.tab, []⟩ G o fun s1 => runFree C ops r { s with env := match o.dst, s1.env with | some _, e :: _ => e :: s.env | _, _ => s.env } ps K
        | false => match G, pendHead C ⟨limit (slotsOf ops o) s.env, s.tab, []⟩ o r with
          | [], some (g, p) => if g = true then runFree C ops r { s with env := (p.d, .dd, []) :: s.env } (ps ++ [p]) K else none
          | [], none => match pendUpd C ⟨limit (slotsOf ops o) s.env, s.tab, []⟩ ps o with
            | some (g, d0, p) => match has d0 (slotsOf ops o) with
              | true => if g = true then runFree C ops r { s with env := (match o.dst with | some d => (d, .dd, []) :: s.env | none => s.env) } (ps ++ [p]) K else none
              | false => none
            | none => pendCall C ⟨limit (slotsOf ops o) s.env, s.tab, []⟩ o fun p => runFree C ops r { s with env := (p.d, .dd, []) :: s.env } (ps ++ [p]) K
          | _, _ => none
      | false => none
    | none => none

/-- Behind the head of a region that draws its order. -/
def behind (ps : List Pend) (s : St) : Option St :=
  match ps with
  | [.app d i j eid e xs] => some { s with pd := [.app d i j eid e xs] }
  | ps => match nodup ((fixUpd ps ps).map Pend.d) && updOk ps ps with
    | true => settle (fixUpd ps ps) s
    | false => none

/-- An operation that looks at nothing but slots: it says the same in whatever world. -/
def regOp (C : Ctx) (s : St) (o : Oper) : Option SV :=
  match o.op with
  | .move x => opMove C s [] o.type x
  | .assign x => opMove C s [] o.type x
  | .binOp op t x y _ => match s.av [] x, s.av [] y with
    | some (.val (.int k) m), some (.val (.int k') m') => match binary false op (.val (.int k) m) (.val (.int k') m') with
      | some (none, .val (.int k2) r) => some (.one (.val (.int k2) r))
      | _ => none
    | _, _ => none
  | _ => none

def runPre (C : Ctx) (ops : Array Oper) : List Nat → St → (St → Option A) → Option A
  | [], s, K => K s
  | i :: r, s, K => match ops[i]? with
    | some o => match o.guard, regOp C s o with
      | none, some v => match dstOk C s [] o.dst with
        | true => runPre C ops r (s.put o.dst v []) K
        | false => none
      | _, _ => none
    | none => none

def addEdge (acc : List Nat) (b : Nat) (e : Edge) : Nat :=
  match Region.binds .any e with
  | true => b ||| (1 <<< e.on) ||| acc.getD e.on 0
  | false => b

/-- For each operation, as bits, those that it waits for. -/
def depsGo : List Oper → List Nat → List Nat
  | [], acc => acc
  | o :: r, acc => depsGo r (acc ++ [o.after.toList.foldl (addEdge acc) 0])

/-- Is there no slot that both touch, one of them in writing? -/
def alien (x y : Option Nat × List Nat) : Bool :=
  (match x.1 with | some d => !has d y.2 && (match y.1 with | some d' => !Nat.beq d d' | none => true) | none => true) && (match y.1 with | some d => !has d x.2 | none => true)

def waits1 (y : Option Nat × List Nat) (bits : Nat) : List (Option Nat × List Nat) → Nat → Bool
  | [], _ => true
  | x :: r, i => (alien x y || Nat.testBit bits i) && waits1 y bits r (i + 1)

def waitsGo (ops : Array Oper) : List Oper → List Nat → List (Option Nat × List Nat) → Bool
  | o :: r, b :: bs, acc => waits1 (o.dst, slotsOf ops o) b acc 0 && waitsGo ops r bs (acc ++ [(o.dst, slotsOf ops o)])
  | _, _, _ => true

def backGo : List Oper → Nat → Bool
  | [], _ => true
  | o :: r, j => (o.after.toList.all fun e => !Region.binds .any e || Nat.blt e.on j) && backGo r (j + 1)

def waitsOn (y : Oper) (i : Nat) : Bool := y.after.toList.any fun e => Region.binds .any e && Nat.beq e.on i

/-- Operation i may come first, behind those of L. -/
def preOne (ops : Array Oper) (L : List Nat) (i : Nat) : Bool :=
  match ops[i]? with
  | some x => !has i L && (x.after.toList.all fun e => !Region.binds .any e || has e.on L) &&
    (List.range ops.size).all fun j => Nat.beq j i || has j L || (match ops[j]? with | some y => Oper.apart ops x y || waitsOn y i | none => true)
  | none => false

def preOk (ops : Array Oper) : List Nat → List Nat → Bool
  | _, [] => true
  | L, i :: r => preOne ops L i && preOk ops (i :: L) r

/-- Every operation of the head that is not in X is waited for, in the end by operation n. -/
def sinkX (ops : Array Oper) (n : Nat) (X : List Nat) : Bool :=
  (List.range n).all fun i => has i X || (List.range (n + 1)).any fun j => Nat.blt i j && Region.waitsFor .any ops j i

/-- What comes behind operation n waits for it, in the end. -/
def upB (ops : Array Oper) (n : Nat) : Bool :=
  (List.range ops.size).all fun t => Nat.ble t n || match ops[t]? with
    | some o => o.after.toList.any fun e => Region.binds .any e && Nat.ble n e.on
    | none => false

/-- The first n operations may come in any order; those of X have been carried out. -/
def headOk (ops : Array Oper) (n : Nat) (X : List Nat) : Bool :=
  backGo ops.toList 0 && waitsGo ops (ops.toList.take n) (depsGo ops.toList []) [] && (Nat.ble ops.size n || (sinkX ops n X && upB ops n))

def drawOk (ops : Array Oper) (n : Nat) (X : List Nat) : Bool :=
  headOk ops n X && (match X with | [] => true | _ => Region.noSelect ops && preOk ops [] X && X.all fun i => Nat.blt i n)

/-- The same for all regions of a code. -/
def drawsOk (C : Ctx) : Code → Bool
  | .region id ops true => match find id C.dr with
    | some n => drawOk ops n ((find id C.pre).getD []) && match has id C.d2 with
      | false => Nat.ble ops.size n || Region.chainB .any ops n
      | true => headOk ops ops.size (List.range (n + 1))
    | none => true
  | .seq a b => drawsOk C a && drawsOk C b
  | .cond _ a b => drawsOk C a && drawsOk C b
  | .block _ b => drawsOk C b
  | .loop b => drawsOk C b
  | _ => true

/-- What was found under a path condition is known no longer. -/
def tidy (p : Nat × SV × List (Nat × Bool)) : Nat × SV × List (Nat × Bool) :=
  match p.2.2 with
  | [] => p
  | _ :: _ => (p.1, .dd, [])

def clean (s : St) : St := { s with env := s.env.map tidy }

/-! the state put in order -/

def AV.refs : AV → List Nat
  | .own i => [i]
  | .bx i _ _ => [i]
  | .ela i _ _ => [i]
  | .xr i _ => [i]
  | .fn _ caps => caps.map (·.1)
  | .pr a b => a.refs ++ b.refs
  | _ => []

def SV.refs : SV → List Nat
  | .one a => a.refs
  | _ => []

def pos (i : Nat) : List Nat → Option Nat
  | [] => none
  | j :: r => match Nat.beq j i with
    | true => some 0
    | false => match pos i r with
      | some n => some (n + 1)
      | none => none

def renCaps (l : List Nat) : List (Nat × Ty) → Option (List (Nat × Ty))
  | [] => some []
  | (i, t) :: r => match pos i l, renCaps l r with
    | some j, some r' => some ((j, t) :: r')
    | _, _ => none

def AV.ren (l : List Nat) : AV → Option AV
  | .own i => match pos i l with
    | some j => some (.own j)
    | none => none
  | .bx i o t => match pos i l with
    | some j => some (.bx j o t)
    | none => none
  | .ela i n e => match pos i l with
    | some j => some (.ela j n e)
    | none => none
  | .xr i t => match pos i l with
    | some j => some (.xr j t)
    | none => none
  | .fn f caps => match renCaps l caps with
    | some c => some (.fn f c)
    | none => none
  | .pr a b => match a.ren l, b.ren l with
    | some x, some y => some (.pr x y)
    | _, _ => none
  | a => some a

def ded : List Nat → List Nat → List Nat
  | [], acc => acc
  | i :: r, acc => match has i acc with
    | true => ded r acc
    | false => ded r (acc ++ [i])

def inner (tab : List Ent) : List Nat → List Nat
  | [] => []
  | i :: r => (match tab[i]? with | some (.box a) => a.refs | _ => []) ++ inner tab r

def pick (s : St) : List (Nat × Bool) → St → Option St
  | [], acc => some acc
  | (t, fl) :: r, acc => match look t s.env with
    | some (.one a, []) => match fl, a with
      | true, .nsl eid e => pick s r { env := acc.env ++ [(t, .one (.own acc.tab.length), [])], tab := acc.tab ++ [Ent.arr eid e []] }
      | true, .bx i o t' => match acc.tab[i]? with
        | some (.box c) => pick s r { env := acc.env ++ [(t, .one (.bx i o t'), [])], tab := setAt i (.box (c.mats acc.tab.length).1) (acc.tab ++ (c.mats acc.tab.length).2) }
        | _ => none
      | _, a => pick s r { acc with env := acc.env ++ [(t, .one a, [])] }
    | _ => none

def renEnv (l : List Nat) : List (Nat × SV × PC) → Option (List (Nat × SV × PC))
  | [] => some []
  | (t, .one a, g) :: r => match a.ren l, renEnv l r with
    | some b, some r' => some ((t, .one b, g) :: r')
    | _, _ => none
  | _ => none

def renTab (tab : List Ent) (l : List Nat) : List Nat → Option (List Ent)
  | [] => some []
  | i :: r => match tab[i]?, renTab tab l r with
    | some (.arr a b c), some es => some (.arr a b c :: es)
    | some (.rows a0 a b c), some es => some (.rows a0 a b c :: es)
    | some (.box a), some es => match a.ren l with
      | some b => some (.box b :: es)
      | none => none
    | _, _ => none

def envRefs : List (Nat × SV × PC) → List Nat
  | [] => []
  | (_, v, _) :: r => v.refs ++ envRefs r

def norm (m : Nat) (L : List (Nat × Bool)) (s : St) : Option St :=
  match s.pd, pick s L ⟨[], s.tab, []⟩ with
  | _ :: _, _ => none
  | [], none => none
  | [], some s1 =>
    let l1 := ded (List.range m ++ envRefs s1.env) []
    let l2 := ded (inner s1.tab l1) l1
    let l3 := ded (inner s1.tab l2) l2
    match nodup l3, renEnv l3 s1.env, renTab s1.tab l3 l3 with
    | true, some env, some tab => some ⟨env, tab, []⟩
    | _, _, _ => none

inductive Ex where
  | normal | exit (id : Nat) | ret

def iter {α : Type} : Nat → ((α → Option A) → α → Option A) → α → Option A
  | 0, _ => fun _ => none
  | n + 1, F => F (iter n F)

/-- The number of the first region: a loop's name. -/
def firstR : Code → Nat
  | .region id _ _ => id
  | .seq a _ => firstR a
  | .block _ b => firstR b
  | .loop b => firstR b
  | .cond _ a _ => firstR a
  | _ => 0

def kSeq (y : St → (Ex → St → Option A) → Option A) (K : Ex → St → Option A) (e : Ex) (s : St) : Option A :=
  match e with
  | .normal => y s K
  | e => K e s

def kBlock (id : Nat) (K : Ex → St → Option A) (e : Ex) (s : St) : Option A :=
  match e with
  | .exit i => match Nat.beq i id with
    | true => K .normal s
    | false => K (.exit i) s
  | e => K e s

def kLoop (m : Nat) (L : List (Nat × Bool)) (rec : St → Option A) (K : Ex → St → Option A) (e : Ex) (s : St) : Option A :=
  match e with
  | .normal => match norm m L s with
    | some s' => rec s'
    | none => none
  | e => K e s

def loopF (y : St → (Ex → St → Option A) → Option A) (m : Nat) (L : List (Nat × Bool)) (K : Ex → St → Option A) (rec : St → Option A) (s : St) : Option A :=
  y s (kLoop m L rec K)

/-- Both ways lead to the same. -/
noncomputable def both {A : Type} (r1 r2 : Option A) : Option A := @ite _ (r1 = r2) (Classical.propDecidable _) r1 none

noncomputable section
def run (C : Ctx) : Code → St → (Ex → St → Option A) → Option A
  | .skip, s, K => K .normal s
  | .seq a b, s, K => run C a s (kSeq (run C b) K)
  | .cond c x y, s, K => match boolOf s [] c with
    | some b => if b = true then run C x s K else run C y s K
    | none => match ubOf s c with
      | some e => if e = true then both (run C x s K) (run C y s K) else run C y s K
      | none => none
  | .block id b, s, K => run C b s (kBlock id K)
  | .loop b, s, K => match find (firstR b) C.an with
    | some L => match norm C.m L s with
      | some s' => iter C.k (loopF (run C b) C.m L K) s'
      | none => none
    | none => none
  | .exit id, s, K => K (.exit id) s
  | .ret, s, K => K .ret s
  | .region id ops draw, s, K => match draw with
    | false => runOps C ops ops.toList s fun s' => K .normal (clean s')
    | true => match find id C.dr with
      | some n => match s.pd with
        | _ :: _ => none
        | [] => runPre C ops ((find id C.pre).getD []) s fun s0 => runFree C ops (headL ((find id C.pre).getD []) (ops.toList.take n) 0) s0 [] fun s' ps => match behind ps s' with
          | some s1 => match has id C.d2 with
            | false => runOps C ops (ops.toList.drop n) s1 fun s'' => K .normal (clean s'')
            | true => runOps C ops ((ops.toList.drop n).take 1) s1 fun s2 => match s2.pd with
              | [] => runFree C ops (headL (List.range (n + 1)) ops.toList 0) s2 [] fun s3 ps3 => match ps3 with
                | [] => K .normal (clean s3)
                | _ :: _ => none
              | _ :: _ => none
          | none => none
      | none => none
  | _, _, _ => none

/-! a place in the code: 0 the first, 1 the second part -/

def sub : Code → List Nat → Code
  | .seq a b, i :: p => match i with
    | 0 => sub a p
    | _ => sub b p
  | .cond _ a b, i :: p => match i with
    | 0 => sub a p
    | _ => sub b p
  | .block _ b, _ :: p => sub b p
  | .loop b, _ :: p => sub b p
  | c, _ => c

/-- The continuation at a place, under the rounds of the loops around it, the outermost first. -/
def kAt (C : Ctx) : Code → List Nat → List (St → Option A) → (Ex → St → Option A) → Ex → St → Option A
  | .seq a b, i :: p, R, K => match i with
    | 0 => kAt C a p R (kSeq (run C b) K)
    | _ => kAt C b p R K
  | .cond _ a b, i :: p, R, K => match i with
    | 0 => kAt C a p R K
    | _ => kAt C b p R K
  | .block id b, _ :: p, R, K => kAt C b p R (kBlock id K)
  | .loop b, _ :: p, rec :: R, K => kAt C b p R (kLoop C.m ((find (firstR b) C.an).getD []) rec K)
  | _, _, _, K => K

/-- One loop of a function: the loop at the place p, its rounds as a function of the state. -/
def loopAt (C : Ctx) (c : Code) (p : List Nat) (R : List (St → Option A)) (K : Ex → St → Option A) : (St → Option A) → St → Option A :=
  loopF (run C (sub c (p ++ [0]))) C.m ((find (firstR (sub c (p ++ [0]))) C.an).getD []) (kAt C c p R K)

theorem iter_tie {α β : Type} {F : (α → Option A) → α → Option A} {G : (β → Option A) → β → Option A} (E : β → α)
    (h : ∀ (rec : α → Option A) (x : β), F rec (E x) = G (fun y => rec (E y)) x) : ∀ n x, iter n F (E x) = iter n G x
  | 0, _ => rfl
  | n + 1, x => by
    show F (iter n F) (E x) = G (iter n G) x
    rw [h]
    congr 1
    funext y
    exact iter_tie E h n y

/-! ### the end of a function -/

def resAVs (C : Ctx) (s : St) : List ResultVar → Option (List AV)
  | [] => some []
  | .tmp t :: r => match s.av [] (.tmp t), resAVs C s r with
    | some a, some l => some (a :: l)
    | _, _ => none
  | .cell t ty :: r => match s.av [] (.tmp t), find ty C.th, resAVs C s r with
    | some (.bx i 0 _), some e, some l => match s.tab[i]? with
      | some (.box a) => match a.fits e with
        | true => some (a :: l)
        | false => none
      | _ => none
    | _, _, _ => none

def resAV (many : Bool) (l : List AV) : Option AV :=
  match many, l with
  | false, [a] => some a
  | true, [_] => none
  | true, l => some (prs l)
  | _, _ => none

def ends : Ex → Bool
  | .normal | .ret => true
  | _ => false

/-- Nil where an owned row is handed back: a row without elements. The new entries come behind the table. -/
def mat (tab : List Ent) : Sh → AV → AV × List Ent
  | .own _ _, .nsl eid e => (.own tab.length, [.arr eid e []])
  | .pr a b, .pr x y => (.pr (mat tab a x).1 (mat (tab ++ (mat tab a x).2) b y).1, (mat tab a x).2 ++ (mat (tab ++ (mat tab a x).2) b y).2)
  | _, a => (a, [])

def matL (tab : List Ent) : Sh → List AV → List AV × List Ent
  | .pr a b, x :: r => ((mat tab a x).1 :: (matL (tab ++ (mat tab a x).2) b r).1, (mat tab a x).2 ++ (matL (tab ++ (mat tab a x).2) b r).2)
  | _, l => (l, [])

def matR (many : Bool) (tab : List Ent) (res : Sh) (l : List AV) : List AV × List Ent :=
  match many, l with
  | false, [a] => ([(mat tab res a).1], (mat tab res a).2)
  | true, l => matL tab res l
  | false, l => (l, [])

def finPure (C : Ctx) (rs : List ResultVar) (many : Bool) (res : Sh) (e : Ex) (s : St) : Option res.T :=
  match ends e, resAVs C s rs with
  | true, some l => match resAV many (matR many s.tab res l).1 with
    | some a => match res.dec (s.tab ++ (matR many s.tab res l).2) a with
      | some (r, idx, lents) => match nodup idx && apart lents idx with
        | true => some r
        | false => none
      | none => none
    | none => none
  | _, _ => none

def finEff (C : Ctx) (rs : List ResultVar) (many : Bool) (ins res : Sh) (x : ins.T) (e : Ex) (s : St) : Option (res.T × ins.T) :=
  match ends e, resAVs C ⟨s.env, matsAt (List.range C.m) s.tab, []⟩ rs with
  | true, some l => match resAV many (matR many (matsAt (List.range C.m) s.tab) res l).1 with
    | some a => match (Sh.pr ins res).dec ((matsAt (List.range C.m) s.tab) ++ (matR many (matsAt (List.range C.m) s.tab) res l).2) (.pr (ins.enc x 0).1 a) with
      | some (p, idx, lents) => match nodup idx && apart lents idx && (lents.all fun i => Nat.ble C.m i) && ((idx.drop ins.n).all fun i => Nat.ble C.m i) && (ins.fx 0).all fun k => Nat.beq (nth idx k) k with
        | true => some (p.2, p.1)
        | false => none
      | none => none
    | none => none
  | _, _ => none

def envOf : Nat → List AV → List (Nat × SV × PC)
  | _, [] => []
  | n, a :: r => (n, .one a, []) :: envOf (n + 1) r

def runPure (C : Ctx) (body : Code) (rs : List ResultVar) (many : Bool) (ins res : Sh) (x : ins.T) : Option res.T :=
  run C body ⟨envOf 0 (ins.enc x 0).1.list, (ins.enc x 0).2, []⟩ (finPure C rs many res)

def runEff (C : Ctx) (body : Code) (rs : List ResultVar) (many : Bool) (ins res : Sh) (x : ins.T) : Option (res.T × ins.T) :=
  run C body ⟨envOf 0 (ins.enc x 0).1.list, (ins.enc x 0).2, []⟩ (finEff C rs many ins res x)

end

end

end Go.Lg
