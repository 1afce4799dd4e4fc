/-
  The typed values of the engine and what it means that memory holds one. No program in sight.
-/
import Derived.WalkKit
import Derived.Maps.AppendAt
import Derived.OwnWalk
import Derived.KernelRfl
set_option linter.unusedVariables false
set_option linter.unusedSimpArgs false
namespace Go.Lg
open Go.RowKit

/-- The types that are followed. A struct is a list of pairs ended by the unit. -/
inductive Ty where
  | int (k : IntKind) | bool | str | sl (e : Ty) | unit | pair (a b : Ty) | pt (e : Ty)
  deriving DecidableEq, Inhabited

@[reducible] def Ty.T : Ty → Type
  | .int _ => Int
  | .bool => Bool
  | .str => ByteArray
  | .sl e => List e.T
  | .unit => Unit
  | .pair a b => a.T × b.T
  | .pt e => Option e.T

def Ty.size : Ty → Nat
  | .unit => 0
  | .pair a b => a.size + b.size
  | _ => 1

def Ty.isAgg : Ty → Bool
  | .unit | .pair _ _ => true
  | _ => false

def Ty.df : (t : Ty) → t.T
  | .int _ => (0 : Int)
  | .bool => false
  | .str => ByteArray.empty
  | .sl _ => []
  | .unit => ()
  | .pair a b => (a.df, b.df)
  | .pt _ => none

/-- The cells of the zero value. -/
def Ty.zero : Ty → List Value
  | .int k => [.int k 0]
  | .bool => [.bool false]
  | .str => [.string ByteArray.empty]
  | .sl _ => [.slice none 0 0]
  | .unit => []
  | .pair a b => a.zero ++ b.zero
  | .pt _ => [.pointer none]

/-- The cells from o on of block b hold these values. -/
def Cells (w : World) (b o : Nat) (cs : List Value) : Prop := ∀ j v, cs[j]? = some v → w.cell? ⟨b, o + j, none⟩ = some v

/-- The cells cs are a value of type t that reads as x; all memory behind it lies in blocks of S. -/
def Ty.R (w : World) (S : Nat → Prop) : (t : Ty) → List Value → t.T → Prop
  | .int k, cs, n => cs = [.int k n]
  | .bool, cs, b => cs = [.bool b]
  | .str, cs, s => cs = [.string s]
  | .sl e, cs, xs => ∃ ad n c, cs = [.slice ad n c] ∧ n = xs.length ∧ n ≤ c ∧ (xs = [] ∨ ∃ b o, ad = some ⟨b, o, none⟩ ∧ S b ∧
      ∀ i x, xs[i]? = some x → ∃ ces : List Value, Cells w b (o + i * e.size) ces ∧ e.R w S ces x)
  | .unit, cs, _ => cs = []
  | .pair a b, cs, x => ∃ c1 c2, cs = c1 ++ c2 ∧ a.R w S c1 x.1 ∧ b.R w S c2 x.2
  | .pt e, cs, x => match x with
    | none => cs = [.pointer none]
    | some y => ∃ b o, cs = [.pointer (some ⟨b, o, none⟩)] ∧ S b ∧ ∃ ces : List Value, Cells w b o ces ∧ e.R w S ces y

theorem Ty.R.length {w : World} {S : Nat → Prop} : {t : Ty} → {cs : List Value} → {x : t.T} → t.R w S cs x → cs.length = t.size
  | .int _, _, _, h => by simp only [Ty.R] at h; subst h; rfl
  | .bool, _, _, h => by simp only [Ty.R] at h; subst h; rfl
  | .str, _, _, h => by simp only [Ty.R] at h; subst h; rfl
  | .sl _, _, _, h => by simp only [Ty.R] at h; obtain ⟨_, _, _, rfl, _⟩ := h; rfl
  | .unit, _, _, h => by simp only [Ty.R] at h; subst h; rfl
  | .pair a b, _, _, h => by
    simp only [Ty.R] at h
    obtain ⟨c1, c2, rfl, h1, h2⟩ := h
    simp [Ty.size, Ty.R.length h1, Ty.R.length h2]
  | .pt _, _, none, h => by simp only [Ty.R] at h; subst h; rfl
  | .pt _, _, some _, h => by simp only [Ty.R] at h; obtain ⟨_, _, rfl, _⟩ := h; rfl

theorem Cells.lt {w : World} {b o : Nat} {cs : List Value} (h : Cells w b o cs) (hne : cs ≠ []) : b < w.heap.size := by
  cases cs with
  | nil => exact absurd rfl hne
  | cons v r => exact World.block_lt_of_cell? w ⟨b, o + 0, none⟩ (h 0 v rfl)

theorem Cells.step {w w' : World} {b o : Nat} {cs : List Value} (h : Cells w b o cs) (hb : w'.heap[b]? = w.heap[b]?) : Cells w' b o cs := fun j v hj => by
  have := h j v hj
  rw [← this]
  exact World.cell?_of_block (w := w) (a := ⟨b, o + j, none⟩) hb

theorem Cells.nil {w : World} {b o : Nat} : Cells w b o [] := fun j v h => by simp at h

theorem Cells.append {w : World} {b o : Nat} {c1 c2 : List Value} : Cells w b o (c1 ++ c2) ↔ Cells w b o c1 ∧ Cells w b (o + c1.length) c2 := by
  constructor
  · intro h
    refine ⟨fun j v hj => h j v (by rw [List.getElem?_append_left (by have := (List.getElem?_eq_some_iff.1 hj).1; omega)]; exact hj), fun j v hj => ?_⟩
    have := h (c1.length + j) v (by rw [List.getElem?_append_right (by omega)]; simpa using hj)
    rwa [← Nat.add_assoc] at this
  · rintro ⟨h1, h2⟩ j v hj
    by_cases hlt : j < c1.length
    · rw [List.getElem?_append_left hlt] at hj; exact h1 j v hj
    · rw [List.getElem?_append_right (by omega)] at hj
      have := h2 _ v hj
      rwa [Nat.add_assoc, Nat.add_sub_cancel' (by omega)] at this

/-- Memory that is stable stays; the set may turn into another that holds the blocks in use. -/
theorem Ty.R.step {w w' : World} {S S' : Nat → Prop} (hS : ∀ b, S b → b < w.heap.size → S' b ∧ w'.heap[b]? = w.heap[b]?) (h0 : ∀ b, S b → b < w.heap.size) :
    {t : Ty} → {cs : List Value} → {x : t.T} → t.R w S cs x → t.R w' S' cs x
  | .int _, _, _, h => h
  | .bool, _, _, h => h
  | .str, _, _, h => h
  | .sl e, _, xs, h => by
    simp only [Ty.R] at h ⊢
    obtain ⟨ad, n, c, rfl, hn, hc, h⟩ := h
    refine ⟨ad, n, c, rfl, hn, hc, ?_⟩
    rcases h with h | ⟨b, o, rfl, hb, h⟩
    · exact .inl h
    · refine .inr ⟨b, o, rfl, (hS b hb (h0 b hb)).1, fun i x hi => ?_⟩
      obtain ⟨ces, hce, hr⟩ := h i x hi
      exact ⟨ces, hce.step (hS b hb (h0 b hb)).2, Ty.R.step hS h0 hr⟩
  | .unit, _, _, h => h
  | .pair a b, _, _, h => by
    simp only [Ty.R] at h ⊢
    obtain ⟨c1, c2, rfl, h1, h2⟩ := h
    exact ⟨c1, c2, rfl, Ty.R.step hS h0 h1, Ty.R.step hS h0 h2⟩
  | .pt e, _, none, h => h
  | .pt e, _, some y, h => by
    simp only [Ty.R] at h ⊢
    obtain ⟨b, o, rfl, hb, ces, hce, hr⟩ := h
    exact ⟨b, o, rfl, (hS b hb (h0 b hb)).1, ces, hce.step (hS b hb (h0 b hb)).2, Ty.R.step hS h0 hr⟩

/-- A value of a flat type leans on no memory. -/
def Ty.flat : Ty → Bool
  | .int _ | .bool | .str | .unit => true
  | .pair a b => a.flat && b.flat
  | _ => false

theorem Ty.R.flat {w w' : World} {S S' : Nat → Prop} : {t : Ty} → t.flat = true → {cs : List Value} → {x : t.T} → t.R w S cs x → t.R w' S' cs x
  | .int _, _, _, _, h => h
  | .bool, _, _, _, h => h
  | .str, _, _, _, h => h
  | .unit, _, _, _, h => h
  | .pair a b, hf, _, _, h => by
    simp only [Ty.flat, Bool.and_eq_true] at hf
    simp only [Ty.R] at h ⊢
    obtain ⟨c1, c2, rfl, h1, h2⟩ := h
    exact ⟨c1, c2, rfl, Ty.R.flat hf.1 h1, Ty.R.flat hf.2 h2⟩
  | .sl _, hf, _, _, _ => by simp [Ty.flat] at hf
  | .pt _, hf, _, _, _ => by simp [Ty.flat] at hf

theorem Ty.R_zero (w : World) (S : Nat → Prop) : (t : Ty) → t.R w S t.zero t.df
  | .int _ => rfl
  | .bool => rfl
  | .str => rfl
  | .sl _ => ⟨none, 0, 0, rfl, rfl, Nat.le_refl _, .inl rfl⟩
  | .unit => rfl
  | .pair a b => ⟨_, _, rfl, Ty.R_zero w S a, Ty.R_zero w S b⟩
  | .pt _ => rfl

theorem Ty.zero_length (t : Ty) : t.zero.length = t.size := by
  induction t <;> simp_all [Ty.zero, Ty.size]

/-- What a slot holds of a value with these cells. -/
def pack (agg : Bool) (cs : List Value) : Value := if agg then .agg cs.toArray else cs.headD undef

/-- What is spoken of in a slice of slices that is owned with its rows: the whole, a cell of its own, a row. -/
inductive XT where
  | top
  | cell (j : Int)
  | row (j : Int)

/-- The value that it is: o is the slice itself, hs are its rows as they stand in its cells. -/
def XT.at (t : XT) (o : Value) (hs : List Value) : Option Value :=
  match t with
  | .top => match o with
    | .slice a n c => some (.slice a n c)
    | _ => none
  | .cell j => match o with
    | .slice (some ⟨g, off, none⟩) n _ => if 0 ≤ j ∧ j < (n : Int) then some (.pointer (some ⟨g, off + j.toNat, none⟩)) else none
    | _ => none
  | .row j => if 0 ≤ j then match hs[j.toNat]? with
      | some (.slice a n c) => some (.slice a n c)
      | _ => none
    else none

/-- The abstract values. -/
inductive AV where
  | val (t : Ty) (x : t.T)
  | nsl (eid : TypeId) (e : Ty)
  | npt
  | own (i : Nat)
  | bx (i off : Nat) (t : Ty)
  | ela (i : Nat) (j : Int) (e : Ty)
  | xr (i : Nat) (t : XT)
  | fn (f : FuncId) (caps : List (Nat × Ty))
  | pr (a b : AV)
  | un
  | dd
  /-- a bool that is not known; where it is true, c is -/
  | ub (c : Bool)

/-- What the call owns: the rows of its slices, and boxes (variables in memory). -/
inductive Ent where
  | arr (eid : TypeId) (e : Ty) (xs : List e.T)
  | box (a : AV)
  | rows (eid0 eid : TypeId) (e : Ty) (xss : List (List e.T))
  | dead

/-- The block of a place. -/
def blk : Value → Option Nat
  | .slice (some a) _ _ => some a.block
  | .pointer (some a) => some a.block
  | _ => none

/-- The blocks of an entry's place: the place of a slice with its rows is a tuple, itself ahead. -/
def blks (hv : Value) (b : Nat) : Prop :=
  match hv with
  | .tuple hs => ∃ h ∈ hs.toList, blk h = some b
  | hv => blk hv = some b

theorem blks_of_blk {hv : Value} {b : Nat} (h : blk hv = some b) : blks hv b := by
  cases hv <;> first | exact h | (simp [blk] at h)

def AV.isAgg : AV → Bool
  | .val t _ => t.isAgg
  | .pr _ _ | .un => true
  | _ => false

def AV.size : AV → Nat
  | .val t _ => t.size
  | .pr a b => a.size + b.size
  | .un => 0
  | _ => 1

/-- The cells cs read as the abstract value. -/
def AV.R (w : World) (S : Nat → Prop) (tab : List Ent) (pl : List Value) : AV → List Value → Prop
  | .val t x, cs => t.R w S cs x
  | .nsl _ _, cs => cs = [.slice none 0 0]
  | .npt, cs => cs = [.pointer none]
  | .own i, cs => ∃ eid e xs hv, tab[i]? = some (.arr eid e xs) ∧ pl[i]? = some hv ∧ (∃ ad n c, hv = .slice ad n c) ∧ cs = [hv]
  | .bx i off _, cs => ∃ a b, tab[i]? = some (.box a) ∧ pl[i]? = some (.pointer (some ⟨b, 0, none⟩)) ∧ cs = [.pointer (some ⟨b, off, none⟩)]
  | .ela i j e, cs => ∃ eid xs g o n c, tab[i]? = some (.arr eid e xs) ∧ pl[i]? = some (.slice (some ⟨g, o, none⟩) n c) ∧ 0 ≤ j ∧ j < xs.length ∧
      cs = [.pointer (some ⟨g, o + j.toNat * e.size, none⟩)]
  | .xr i t, cs => ∃ eid0 eid e xss outer hs c, tab[i]? = some (.rows eid0 eid e xss) ∧ pl[i]? = some (.tuple (outer :: hs).toArray) ∧ t.at outer hs = some c ∧ cs = [c]
  | .fn f caps, cs => ∃ vs : List Value, cs = [.func (.func f) #[] vs.toArray] ∧ vs.length = caps.length ∧
      ∀ (k i : Nat) (t : Ty), caps[k]? = some (i, t) → ∃ (a : AV) (b : Nat), tab[i]? = some (Ent.box a) ∧ pl[i]? = some (Value.pointer (some ⟨b, 0, none⟩)) ∧ vs[k]? = some (Value.pointer (some ⟨b, 0, none⟩))
  | .pr a b, cs => ∃ c1 c2, cs = c1 ++ c2 ∧ a.R w S tab pl c1 ∧ b.R w S tab pl c2
  | .un, cs => cs = []
  | .dd, cs => cs.length = 1
  | .ub c, cs => ∃ b : Bool, cs = [.bool b] ∧ (b = true → c = true)

end Go.Lg
