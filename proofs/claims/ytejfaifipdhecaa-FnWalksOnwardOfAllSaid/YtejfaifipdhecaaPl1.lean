/-
  Plain law, the first part: loops, numbers, lists.
-/
import Derived.Test.YtejfaifipdhecaaEng27
import Derived.IntWalk
set_option linter.unusedVariables false
set_option linter.unusedSimpArgs false
namespace Go.Lg
open Go.RowKit Go.IntWalk

/-! ### loops -/

theorem iter_path {A α : Type} {F : (α → Option A) → α → Option A} {x : α} (f : Nat → α) (n : Nat) {out : Option A} {m : Nat} (hx : x = f 0) (hm : n < m) (step : ∀ i, i < n → ∀ rec, F rec (f i) = rec (f (i + 1)))
    (exit : ∀ rec, F rec (f n) = out) : iter m F x = out := by
  subst hx
  have : ∀ j, j ≤ n → ∀ m, n - j < m → iter m F (f j) = out := by
    intro j
    induction h : n - j generalizing j with
    | zero =>
      intro hj m hm
      have : j = n := by omega
      subst this
      cases m with
      | zero => omega
      | succ m => exact exit _
    | succ d ih =>
      intro hj m hm
      cases m with
      | zero => omega
      | succ m =>
        show F (iter m F) (f j) = out
        rw [step j (by omega)]
        exact ih (j + 1) (by omega) (by omega) m (by omega)
  exact this 0 (Nat.zero_le _) m (by omega)

/-- A loop over a list from 0 on, with a state. -/
theorem iter_list {A σ α : Type} {F : (α → Option A) → α → Option A} {x0 : α} (mk : Nat → σ → α) (g : σ → Nat → σ) (n : Nat) {out : σ → Option A} {m : Nat} (s0 : σ) (hx : x0 = mk 0 s0) (hm : n < m) (P : Nat → σ → Prop) (h0 : P 0 s0)
    (step : ∀ i s, i < n → P i s → (∀ rec, F rec (mk i s) = rec (mk (i + 1) (g s i))) ∧ P (i + 1) (g s i))
    (exit : ∀ s, P n s → ∀ rec, F rec (mk n s) = out s) : iter m F x0 = out ((List.range n).foldl g s0) := by
  subst hx
  have hP : ∀ i, i ≤ n → P i ((List.range i).foldl g s0) := by
    intro i
    induction i with
    | zero => intro _; exact h0
    | succ i ih =>
      intro hi
      rw [List.range_succ, List.foldl_append]
      exact (step i _ (by omega) (ih (by omega))).2
  refine iter_path (fun i => mk i ((List.range i).foldl g s0)) n rfl hm (fun i hi rec => ?_) (exit _ (hP n (Nat.le_refl _)))
  rw [List.range_succ, List.foldl_append]
  exact (step i _ hi (hP i (by omega))).1 rec

/-- The same, over the elements of a list. -/
theorem iter_elems {A σ α β : Type} {F : (α → Option A) → α → Option A} {x0 : α} (mk : Nat → σ → α) (l : List β) (g : σ → β → σ) {out : σ → Option A} {m : Nat} (s0 : σ) (hx : x0 = mk 0 s0) (hm : l.length < m) (P : σ → Prop) (h0 : P s0)
    (step : ∀ i s x, l[i]? = some x → P s → (∀ rec, F rec (mk i s) = rec (mk (i + 1) (g s x))) ∧ P (g s x))
    (exit : ∀ s, P s → ∀ rec, F rec (mk l.length s) = out s) : iter m F x0 = out (l.foldl g s0) := by
  subst hx
  have hP : ∀ i, i ≤ l.length → P ((l.take i).foldl g s0) := by
    intro i
    induction i with
    | zero => intro _; exact h0
    | succ i ih =>
      intro hi
      have hlt : i < l.length := by omega
      rw [List.take_succ_eq_append_getElem hlt, List.foldl_append]
      exact (step i _ l[i] (List.getElem?_eq_getElem hlt) (ih (by omega))).2
  have := iter_path (F := F) (out := out (l.foldl g s0)) (fun i => mk i ((l.take i).foldl g s0)) l.length rfl hm (fun i hi rec => by
    show F rec (mk i _) = rec (mk (i + 1) _)
    rw [List.take_succ_eq_append_getElem hi, List.foldl_append]
    exact (step i _ l[i] (List.getElem?_eq_getElem hi) (hP i (by omega))).1 rec) (fun rec => by
    show F rec (mk l.length ((l.take l.length).foldl g s0)) = _
    rw [exit _ (hP _ (Nat.le_refl _)), List.take_length])
  simpa using this

/-- A loop that ends at the first element that a test finds. -/
theorem iter_find {A α β : Type} {F : (α → Option A) → α → Option A} {x0 : α} (mk : Nat → α) (l : List β) (p : β → Bool) {yes : Nat → β → Option A} {no : Option A} {m : Nat} (hx : x0 = mk 0) (hm : l.length < m)
    (step : ∀ i x, l[i]? = some x → ∀ rec, F rec (mk i) = if p x = true then yes i x else rec (mk (i + 1)))
    (exit : ∀ rec, F rec (mk l.length) = no) : iter m F x0 = match l.findIdx? p with | some i => (match l[i]? with | some x => yes i x | none => none) | none => no := by
  subst hx
  cases hf : l.findIdx? p with
  | none =>
    rw [List.findIdx?_eq_none_iff] at hf
    refine iter_path mk l.length rfl hm (fun i hi rec => ?_) exit
    rw [step i l[i] (List.getElem?_eq_getElem hi), if_neg (by rw [hf _ (List.getElem_mem hi)]; decide)]
  | some i =>
    rw [List.findIdx?_eq_some_iff_getElem] at hf
    obtain ⟨hi, hp, hq⟩ := hf
    refine iter_path mk i rfl (by omega) (fun j hj rec => ?_) (fun rec => ?_)
    · rw [step j l[j] (List.getElem?_eq_getElem (by omega)), if_neg (hq j hj)]
    · rw [step i l[i] (List.getElem?_eq_getElem hi), if_pos hp]; simp [List.getElem?_eq_getElem hi]

theorem iter_find1 {A α β : Type} {F : (α → Option A) → α → Option A} {x0 : α} (mk : Nat → α) (l : List β) (p : β → Bool) {yes : β → Option A} {no : Option A} {m : Nat} (hx : x0 = mk 0) (hm : l.length < m)
    (step : ∀ i x, l[i]? = some x → ∀ rec, F rec (mk i) = if p x = true then yes x else rec (mk (i + 1)))
    (exit : ∀ rec, F rec (mk l.length) = no) : iter m F x0 = match l.find? p with | some x => yes x | none => no := by
  rw [iter_find mk l p (yes := fun _ x => yes x) hx hm step exit]
  cases hf : l.findIdx? p with
  | none =>
    rw [List.findIdx?_eq_none_iff] at hf
    rw [List.find?_eq_none.2 (fun x hx => by rw [hf x hx]; decide)]
  | some i =>
    rw [List.findIdx?_eq_some_iff_getElem] at hf
    obtain ⟨hi, hp, hq⟩ := hf
    have : l.find? p = some l[i] := by
      rw [List.find?_eq_some_iff_getElem]
      exact ⟨hp, i, hi, rfl, fun j hj => by have := hq j hj; simpa using this⟩
    rw [this]
    simp [List.getElem?_eq_getElem hi]

/-! ### numbers -/

theorem w64 {n : Int} (h1 : -9223372036854775808 ≤ n) (h2 : n ≤ 9223372036854775807) : IntKind.i64.wrap n = n := i64_in n ⟨h1, h2⟩

theorem wsucc {i : Nat} (h : i < 9223372036854775807) : IntKind.i64.wrap ((i : Int) + 1) = ((i + 1 : Nat) : Int) := by
  rw [w64 (by omega) (by omega)]; rfl

theorem wpred {i : Nat} (h : i < 9223372036854775807) (h0 : 0 < i) : IntKind.i64.wrap ((i : Int) - 1) = ((i - 1 : Nat) : Int) := by
  rw [w64 (by omega) (by omega)]; omega

theorem inb_nat {i n : Nat} : inb (i : Int) n = decide (i < n) := by simp [inb]

theorem inb_lt {i n : Nat} (h : i < n) : inb (i : Int) n = true := by simp [inb, h]

theorem wmul {a b : Nat} (ha : a ≤ 100) (hb : b ≤ 100) : IntKind.i64.wrap ((a : Int) * (b : Int)) = ((a * b : Nat) : Int) := by
  have : a * b ≤ 100 * 100 := Nat.mul_le_mul ha hb
  rw [← Int.natCast_mul, w64 (by omega) (by omega)]

theorem tmod_nat (a b : Nat) : Int.tmod (a : Int) (b : Int) = ((a % b : Nat) : Int) := by rw [Int.ofNat_tmod]
theorem tdiv_nat (a b : Nat) : Int.tdiv (a : Int) (b : Int) = ((a / b : Nat) : Int) := by rw [Int.ofNat_tdiv]

theorem wnat {a : Nat} (h : a < 9223372036854775808) : IntKind.i64.wrap (a : Int) = (a : Int) := w64 (by omega) (by omega)

theorem mul_le_64 {a b : Nat} (ha : a ≤ 8) (hb : b ≤ 8) : a * b ≤ 64 := by
  have : a * b ≤ 8 * 8 := Nat.mul_le_mul ha hb
  omega

/-! ### lists of whole numbers that are natural -/

def zs (l : List Nat) : List Int := l.map Int.ofNat

@[simp] theorem zs_length (l : List Nat) : (zs l).length = l.length := by simp [zs]
@[simp] theorem zs_nil : zs [] = [] := rfl
@[simp] theorem zs_cons (a : Nat) (l : List Nat) : zs (a :: l) = (a : Int) :: zs l := rfl
theorem zs_append (l m : List Nat) : zs (l ++ m) = zs l ++ zs m := by simp [zs]
theorem zs_get {l : List Nat} {i x : Nat} (h : l[i]? = some x) : (zs l).getD i 0 = (x : Int) := by
  simp [zs, h]
theorem zs_get? {l : List Nat} {i : Nat} : (zs l)[i]? = (l[i]?).map Int.ofNat := by simp [zs]
theorem zs_getD (l : List Nat) (i : Nat) : (zs l).getD i 0 = ((l.getD i 0 : Nat) : Int) := by
  simp only [List.getD_eq_getElem?_getD, zs_get?]
  cases l[i]? <;> rfl
theorem zs_mem {l : List Nat} {x : Nat} : (x : Int) ∈ zs l ↔ x ∈ l := by
  simp only [zs, List.mem_map]
  constructor
  · rintro ⟨a, ha, h⟩
    have : a = x := Int.ofNat.inj h
    exact this ▸ ha
  · exact fun h => ⟨x, h, rfl⟩
theorem zs_inj {l m : List Nat} (h : zs l = zs m) : l = m := by
  induction l generalizing m with
  | nil => cases m with
    | nil => rfl
    | cons _ _ => simp [zs] at h
  | cons a l ih => cases m with
    | nil => simp [zs] at h
    | cons b m =>
      simp only [zs_cons, List.cons.injEq] at h
      rw [ih h.2]
      have : a = b := by have := h.1; omega
      rw [this]
theorem zs_set (l : List Nat) (i x : Nat) : (zs l).set i (x : Int) = zs (l.set i x) := by simp [zs, List.map_set]
theorem zs_of_nonneg {l : List Int} (h : ∀ x ∈ l, 0 ≤ x) : ∃ m : List Nat, l = zs m := by
  induction l with
  | nil => exact ⟨[], rfl⟩
  | cons a l ih =>
    obtain ⟨m, hm⟩ := ih fun x hx => h x (List.mem_cons_of_mem _ hx)
    obtain ⟨n, hn⟩ := Int.eq_ofNat_of_zero_le (h a (List.mem_cons_self ..))
    exact ⟨n :: m, by rw [hm, hn]; rfl⟩

theorem lim_le {n : Nat} (h : n ≤ 1099511627776) : decide (n ≤ LIM) = true := by simp [LIM, h]

theorem length_lt {α : Type} {l : List α} {i : Nat} {x : α} (h : l[i]? = some x) : i < l.length := (List.getElem?_eq_some_iff.1 h).1

end Go.Lg
