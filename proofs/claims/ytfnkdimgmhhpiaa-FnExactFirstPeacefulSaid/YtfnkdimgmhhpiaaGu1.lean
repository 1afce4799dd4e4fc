/-
  Plain law: sets of cells as numbers. No program in sight.
-/
import Derived.Test.YtfnkdimgmhhpiaaBits
set_option linter.unusedVariables false
set_option linter.unusedSimpArgs false
namespace Go.Lg
open Go.RowKit Go.IntWalk

/-! ### bits, as the program reads them -/

theorem bit0 {m i : Nat} (h : i < 64) : decide (Int.tmod (Int.fdiv (m : Int) (2 ^ (min i (IntKind.i64.bits)))) (2 : Int) = (0 : Int)) = !m.testBit i := by
  rw [fdiv_pow h, show (2 : Int) = ((2 : Nat) : Int) from rfl, tmod_nat, bit_mod]
  cases m.testBit i <;> rfl

theorem bit1 {m i : Nat} (h : i < 64) : decide (Int.tmod (Int.fdiv (m : Int) (2 ^ (min i (IntKind.i64.bits)))) (2 : Int) = (1 : Int)) = m.testBit i := by
  rw [fdiv_pow h, show (2 : Int) = ((2 : Nat) : Int) from rfl, tmod_nat, bit_mod]
  cases m.testBit i <;> rfl

theorem bitA {m i : Nat} (hm : m < 4611686018427387904) (h : i < 64) : IntKind.i64.wrap (((BitVec.ofInt (IntKind.i64.bits) (Int.fdiv (m : Int) (2 ^ (min i (IntKind.i64.bits)))) &&& BitVec.ofInt (IntKind.i64.bits) (1 : Int)).toNat : Int)) = if m.testBit i = true then 1 else 0 := by
  have hs : m >>> i ≤ m := by rw [Nat.shiftRight_eq_div_pow]; exact Nat.div_le_self _ _
  rw [fdiv_pow h, show (1 : Int) = ((1 : Nat) : Int) from rfl, wand (by omega) (by omega), bit_and]
  cases m.testBit i <;> rfl

theorem bitA1 {m i : Nat} (hm : m < 4611686018427387904) (h : i < 64) : decide (IntKind.i64.wrap (((BitVec.ofInt (IntKind.i64.bits) (Int.fdiv (m : Int) (2 ^ (min i (IntKind.i64.bits)))) &&& BitVec.ofInt (IntKind.i64.bits) (1 : Int)).toNat : Int)) = (1 : Int)) = m.testBit i := by
  rw [bitA hm h]
  cases m.testBit i <;> rfl

theorem bitA0 {m i : Nat} (hm : m < 4611686018427387904) (h : i < 64) : decide (IntKind.i64.wrap (((BitVec.ofInt (IntKind.i64.bits) (Int.fdiv (m : Int) (2 ^ (min i (IntKind.i64.bits)))) &&& BitVec.ofInt (IntKind.i64.bits) (1 : Int)).toNat : Int)) = (0 : Int)) = !m.testBit i := by
  rw [bitA hm h]
  cases m.testBit i <;> rfl

theorem pow16 {n : Nat} (h : n ≤ 16) : 2 ^ n ≤ 65536 := Nat.pow_le_pow_right (by omega) h

theorem testBit_lt {m n i : Nat} (hm : m < 2 ^ n) (h : m.testBit i = true) : i < n := by
  rw [← Nat.not_le]
  intro hni
  rw [Nat.testBit_lt_two_pow (Nat.lt_of_lt_of_le hm (Nat.pow_le_pow_right (by omega) hni))] at h
  cases h

/-! ### how many bits -/

theorem bits_zero (m : Nat) : bits 0 m = 0 := rfl
theorem bits_succ (i m : Nat) : bits (i + 1) m = bits i m + if m.testBit i = true then 1 else 0 := by
  unfold bits
  rw [List.range_succ, List.countP_append]
  simp [List.countP_cons]
theorem bits_le (i m : Nat) : bits i m ≤ i := by
  have := List.countP_le_length (p := fun j => m.testBit j) (l := List.range i)
  simpa [bits] using this
theorem bits_more {n m : Nat} (hm : m < 2 ^ n) : ∀ d, bits (n + d) m = bits n m
  | 0 => rfl
  | d + 1 => by
    rw [← Nat.add_assoc, bits_succ, bits_more hm d]
    have : m.testBit (n + d) = false := Nat.testBit_lt_two_pow (Nat.lt_of_lt_of_le hm (Nat.pow_le_pow_right (by omega) (by omega)))
    simp [this]

/-! ### what a set guards -/

/-- The reference: all that the cells before i of a set guard, themselves with it. -/
def gC (N : Nat → Nat) (m : Nat) : Nat → Nat
  | 0 => 0
  | i + 1 => if m.testBit i = true then gC N m i ||| (2 ^ i ||| N i) else gC N m i
/-- The program: the set, and all that its cells before i guard. -/
def iC (N : Nat → Nat) (m : Nat) : Nat → Nat
  | 0 => m
  | i + 1 => if m.testBit i = true then iC N m i ||| N i else iC N m i
/-- Whether no cell before i of a set guards another one of it. -/
def qC (N : Nat → Nat) (m : Nat) : Nat → Bool
  | 0 => true
  | i + 1 => if m.testBit i = true then qC N m i && decide (N i &&& m = 0) else qC N m i

theorem gC_bit (N : Nat → Nat) (m t : Nat) : ∀ i, (gC N m i).testBit t = true ↔ ∃ j, j < i ∧ m.testBit j = true ∧ (t = j ∨ (N j).testBit t = true)
  | 0 => by simp [gC]
  | i + 1 => by
    have ih := gC_bit N m t i
    unfold gC
    constructor
    · intro h
      by_cases hb : m.testBit i = true
      · rw [if_pos hb, Nat.testBit_or, Nat.testBit_or, Bool.or_eq_true, Bool.or_eq_true] at h
        rcases h with h | h | h
        · obtain ⟨j, h1, h2⟩ := ih.1 h
          exact ⟨j, by omega, h2⟩
        · rw [Nat.testBit_two_pow] at h
          simp at h
          exact ⟨i, by omega, hb, .inl h.symm⟩
        · exact ⟨i, by omega, hb, .inr h⟩
      · rw [if_neg hb] at h
        obtain ⟨j, h1, h2⟩ := ih.1 h
        exact ⟨j, by omega, h2⟩
    · rintro ⟨j, h1, h2, h3⟩
      by_cases hb : m.testBit i = true
      · rw [if_pos hb, Nat.testBit_or, Nat.testBit_or, Bool.or_eq_true, Bool.or_eq_true]
        by_cases hj : j = i
        · subst hj
          rcases h3 with h3 | h3
          · right; left; rw [Nat.testBit_two_pow]; simp [h3]
          · exact .inr (.inr h3)
        · exact .inl (ih.2 ⟨j, by omega, h2, h3⟩)
      · rw [if_neg hb]
        refine ih.2 ⟨j, ?_, h2, h3⟩
        by_cases hj : j = i
        · subst hj; exact absurd h2 hb
        · omega

theorem iC_gC (N : Nat → Nat) (m : Nat) : ∀ i, iC N m i = m ||| gC N m i
  | 0 => by simp [iC, gC]
  | i + 1 => by
    unfold iC gC
    by_cases hb : m.testBit i = true
    · rw [if_pos hb, if_pos hb, iC_gC N m i]
      refine Nat.eq_of_testBit_eq fun t => ?_
      simp only [Nat.testBit_or, Nat.testBit_two_pow]
      by_cases ht : i = t
      · subst ht; simp [hb]
      · simp [ht, Bool.or_assoc]
    · rw [if_neg hb, if_neg hb, iC_gC N m i]

theorem iC_all {N : Nat → Nat} {m n : Nat} (hm : m < 2 ^ n) : iC N m n = gC N m n := by
  rw [iC_gC]
  refine Nat.eq_of_testBit_eq fun t => ?_
  rw [Nat.testBit_or]
  cases hb : m.testBit t with
  | false => simp
  | true => rw [(gC_bit N m t n).2 ⟨t, testBit_lt hm hb, hb, .inl rfl⟩]; rfl

theorem gC_lt {N : Nat → Nat} {m n : Nat} (hN : ∀ i, i < n → N i < 2 ^ n) : ∀ i, i ≤ n → gC N m i < 2 ^ n
  | 0, _ => Nat.two_pow_pos n
  | i + 1, h => by
    have ih := gC_lt (m := m) hN i (by omega)
    unfold gC
    split
    · exact Nat.or_lt_two_pow ih (Nat.or_lt_two_pow (Nat.pow_lt_pow_right (by omega) (by omega)) (hN i (by omega)))
    · exact ih

theorem iC_lt {N : Nat → Nat} {m n : Nat} (hm : m < 2 ^ n) (hN : ∀ i, i < n → N i < 2 ^ n) : ∀ i, i ≤ n → iC N m i < 2 ^ n
  | 0, _ => hm
  | i + 1, h => by
    have ih := iC_lt (m := m) hm hN i (by omega)
    unfold iC
    split
    · exact Nat.or_lt_two_pow ih (hN i (by omega))
    · exact ih

theorem quiet_iff {N m i : Nat} (hb : m.testBit i = true) (hN : N.testBit i = false) : ((2 ^ i ||| N) &&& m = 2 ^ i) ↔ (N &&& m = 0) := by
  constructor
  · intro h
    refine Nat.eq_of_testBit_eq fun t => ?_
    have := congrArg (fun x => x.testBit t) h
    simp only [Nat.testBit_and, Nat.testBit_or, Nat.testBit_two_pow] at this
    simp only [Nat.testBit_and, Nat.zero_testBit]
    by_cases ht : i = t
    · subst ht; simp [hN]
    · simpa [ht] using this
  · intro h
    refine Nat.eq_of_testBit_eq fun t => ?_
    have := congrArg (fun x => x.testBit t) h
    simp only [Nat.testBit_and, Nat.zero_testBit] at this
    simp only [Nat.testBit_and, Nat.testBit_or, Nat.testBit_two_pow]
    by_cases ht : i = t
    · subst ht; simp [hb]
    · simp [ht, this]

theorem qC_iff (N : Nat → Nat) (m : Nat) : ∀ i, qC N m i = true ↔ ∀ j, j < i → m.testBit j = true → N j &&& m = 0
  | 0 => by simp [qC]
  | i + 1 => by
    have ih := qC_iff N m i
    unfold qC
    by_cases hb : m.testBit i = true
    · rw [if_pos hb, Bool.and_eq_true, ih, decide_eq_true_eq]
      constructor
      · rintro ⟨h1, h2⟩ j hj hm
        by_cases e : j = i
        · subst e; exact h2
        · exact h1 j (by omega) hm
      · exact fun h => ⟨fun j hj => h j (by omega), h i (by omega) hb⟩
    · rw [if_neg hb, ih]
      constructor
      · intro h j hj hm
        by_cases e : j = i
        · subst e; exact absurd hm hb
        · exact h j (by omega) hm
      · exact fun h j hj => h j (by omega)

/-! ### the cells of a set -/

def sel (cs : List Nat) (m : Nat) : Nat → List Nat
  | 0 => []
  | i + 1 => if m.testBit i = true then sel cs m i ++ [cs.getD i 0] else sel cs m i

theorem sel_length (cs : List Nat) (m : Nat) : ∀ i, (sel cs m i).length = bits i m
  | 0 => rfl
  | i + 1 => by
    rw [bits_succ, ← sel_length cs m i]
    show (if m.testBit i = true then sel cs m i ++ [cs.getD i 0] else sel cs m i).length = _
    split <;> simp

/-- Whether a list comes before another one of the same length. -/
def lexLt (a b : List Nat) : Bool := match (a.zip b).find? (fun x => decide (x.1 ≠ x.2)) with | some x => decide (x.1 < x.2) | none => false

/-! ### the search -/

abbrev GS : Type := Nat × Nat × List Nat

def worse (least : Bool) (z s : Nat) : Bool := if least = true then decide (s < z) else decide (z < s)

def updG (cs : List Nat) (n : Nat) (least : Bool) (st : GS) (m : Nat) : GS :=
  if 0 < st.2.1 ∧ worse least (bits n m) st.1 = true then st
  else if 0 < st.2.1 ∧ bits n m = st.1 then (st.1, st.2.1 + 1, if lexLt (sel cs m n) st.2.2 = true then sel cs m n else st.2.2)
  else (bits n m, 1, sel cs m n)

def okG (N : Nat → Nat) (n : Nat) (guards peace : Bool) (m : Nat) : Bool := !((guards && !decide (gC N m n = 2 ^ n - 1)) || (peace && !qC N m n))

def stG (N : Nat → Nat) (cs : List Nat) (n : Nat) (guards peace least : Bool) : Nat → GS
  | 0 => (0, 0, [])
  | m + 1 => if okG N n guards peace m = true then updG cs n least (stG N cs n guards peace least m) m else stG N cs n guards peace least m

theorem stG_inv (N : Nat → Nat) (cs : List Nat) (n : Nat) (guards peace least : Bool) : ∀ m, (stG N cs n guards peace least m).2.1 ≤ m ∧ (stG N cs n guards peace least m).1 ≤ n ∧ (0 < (stG N cs n guards peace least m).2.1 → (stG N cs n guards peace least m).2.2.length = (stG N cs n guards peace least m).1) ∧ ((stG N cs n guards peace least m).2.1 = 0 → stG N cs n guards peace least m = (0, 0, []))
  | 0 => by refine ⟨?_, ?_, ?_, ?_⟩ <;> simp [stG]
  | m + 1 => by
    obtain ⟨h1, h2, h3, h4⟩ := stG_inv N cs n guards peace least m
    have hb := bits_le n m
    have hl := sel_length cs m n
    rw [stG]
    generalize stG N cs n guards peace least m = st at h1 h2 h3 h4 ⊢
    split
    · unfold updG
      split
      · exact ⟨by omega, h2, h3, h4⟩
      · split
        · rename_i h5 h6
          refine ⟨by show st.2.1 + 1 ≤ m + 1; omega, h2, fun _ => ?_, fun h => absurd h (Nat.succ_ne_zero _)⟩
          show (if lexLt (sel cs m n) st.2.2 = true then sel cs m n else st.2.2).length = st.1
          split
          · rw [hl, h6.2]
          · exact h3 h6.1
        · refine ⟨by show 1 ≤ m + 1; omega, hb, fun _ => hl, fun h => ?_⟩
          cases h
    · exact ⟨by omega, h2, h3, h4⟩

/-- Some set will do: then there is one found. -/
theorem stG_some {N : Nat → Nat} {cs : List Nat} {n : Nat} {guards peace least : Bool} {m : Nat} (h : okG N n guards peace m = true) : ∀ M, m < M → 0 < (stG N cs n guards peace least M).2.1
  | 0, hm => by omega
  | M + 1, hm => by
    rw [stG]
    by_cases e : m = M
    · subst e
      rw [if_pos h]
      unfold updG
      split
      · rename_i h5; exact h5.1
      · split
        · exact Nat.succ_pos _
        · show 0 < 1; omega
    · have ih := stG_some (cs := cs) (least := least) h M (by omega)
      split
      · unfold updG
        split
        · exact ih
        · split
          · exact Nat.succ_pos _
          · show 0 < 1; omega
      · exact ih

/-- How many sets of a size will do. -/
def szG (N : Nat → Nat) (n : Nat) (guards peace : Bool) (M s : Nat) : Nat := (List.range M).countP fun m => okG N n guards peace m && decide (bits n m = s)

theorem szG_succ (N : Nat → Nat) (n : Nat) (guards peace : Bool) (M s : Nat) : szG N n guards peace (M + 1) s = szG N n guards peace M s + if okG N n guards peace M = true ∧ bits n M = s then 1 else 0 := by
  unfold szG
  rw [List.range_succ, List.countP_append]
  simp [List.countP_cons]

theorem szG_le (N : Nat → Nat) (n : Nat) (guards peace : Bool) (M s : Nat) : szG N n guards peace M s ≤ M := by
  have := List.countP_le_length (p := fun m => okG N n guards peace m && decide (bits n m = s)) (l := List.range M)
  simpa [szG] using this

def szs (N : Nat → Nat) (n : Nat) (guards peace : Bool) (M : Nat) : List Nat := (List.range (n + 1)).map (szG N n guards peace M)

theorem szs_zero (N : Nat → Nat) (n : Nat) (guards peace : Bool) : szs N n guards peace 0 = List.replicate (n + 1) 0 := by
  unfold szs
  have : (szG N n guards peace 0) = fun _ => 0 := by funext s; simp [szG]
  rw [this, List.map_const', List.length_range]

theorem szs_no {N : Nat → Nat} {n : Nat} {guards peace : Bool} {M : Nat} (h : okG N n guards peace M = false) : szs N n guards peace (M + 1) = szs N n guards peace M := by
  unfold szs
  congr 1
  funext s
  rw [szG_succ]
  simp [h]

theorem szs_get {N : Nat → Nat} {n : Nat} {guards peace : Bool} {M s : Nat} (h : s ≤ n) : (szs N n guards peace M).getD s 0 = szG N n guards peace M s := by
  simp [szs, List.getD_eq_getElem?_getD, List.getElem?_range (show s < n + 1 by omega)]

theorem szs_yes {N : Nat → Nat} {n : Nat} {guards peace : Bool} {M : Nat} (h : okG N n guards peace M = true) : (szs N n guards peace M).set (bits n M) (szG N n guards peace M (bits n M) + 1) = szs N n guards peace (M + 1) := by
  have hb := bits_le n M
  refine List.ext_getElem (by simp [szs]) fun i h1 h2 => ?_
  rw [List.getElem_set]
  simp only [szs, List.getElem_map, List.getElem_range, szG_succ, h]
  by_cases e : bits n M = i
  · subst e; simp
  · simp [e]

theorem szs_sum (N : Nat → Nat) (n : Nat) (guards peace : Bool) (M : Nat) : (szs N n guards peace M).sum = (List.range M).countP (okG N n guards peace) := by
  induction M with
  | zero => rw [szs_zero]; simp
  | succ M ih =>
    rw [List.range_succ, List.countP_append, ← ih]
    cases h : okG N n guards peace M with
    | false => rw [szs_no h]; simp [h]
    | true =>
      have hb := bits_le n M
      have hsum : ∀ (l : List Nat) (i v : Nat), i < l.length → (l.set i (l.getD i 0 + v)).sum = l.sum + v := by
        intro l
        induction l with
        | nil => intro i v hi; simp at hi
        | cons x l ih =>
          intro i v hi
          cases i with
          | zero => simp; omega
          | succ i =>
            simp only [List.set_cons_succ, List.sum_cons, List.getD_cons_succ]
            rw [ih i v (by simpa using hi)]
            omega
      rw [← szs_yes h]
      have := hsum (szs N n guards peace M) (bits n M) 1 (by simp [szs]; omega)
      rw [szs_get (by omega)] at this
      rw [this]
      simp [h]

/-! ### there are peaceful guards -/

theorem peaceful_guards {N : Nat → Nat} {n : Nat} (hN : ∀ i, i < n → N i < 2 ^ n) (irr : ∀ i, i < n → (N i).testBit i = false) (sym : ∀ i j, i < n → j < n → (N i).testBit j = (N j).testBit i) :
    ∀ d m, m < 2 ^ n → n - bits n m ≤ d → qC N m n = true → ∃ m', m' < 2 ^ n ∧ okG N n true true m' = true := by
  have key : ∀ m, m < 2 ^ n → qC N m n = true → ¬ gC N m n = 2 ^ n - 1 → ∃ j, j < n ∧ m.testBit j = false ∧ qC N (m ||| 2 ^ j) n = true := by
    intro m hm hq hg
    have : ∃ j, j < n ∧ (gC N m n).testBit j = false := by
      refine Classical.byContradiction fun hne => hg (Nat.eq_of_testBit_eq fun t => ?_)
      rw [Nat.testBit_two_pow_sub_one]
      by_cases ht : t < n
      · cases hb : (gC N m n).testBit t with
        | true => simp [ht]
        | false => exact absurd ⟨t, ht, hb⟩ hne
      · rw [Nat.testBit_lt_two_pow (Nat.lt_of_lt_of_le (gC_lt (m := m) hN n (Nat.le_refl _)) (Nat.pow_le_pow_right (by omega) (by omega)))]
        simp [ht]
    obtain ⟨j, hj, hgj⟩ := this
    have hno : ∀ i, i < n → m.testBit i = true → ¬ (j = i ∨ (N i).testBit j = true) := fun i hi hb h => by
      rw [(gC_bit N m j n).2 ⟨i, hi, hb, h⟩] at hgj; cases hgj
    have hmj : m.testBit j = false := by
      cases hb : m.testBit j with
      | false => rfl
      | true => exact absurd (.inl rfl) (hno j hj hb)
    refine ⟨j, hj, hmj, (qC_iff _ _ _).2 fun i hi hb => ?_⟩
    rw [Nat.testBit_or, Bool.or_eq_true, Nat.testBit_two_pow] at hb
    refine Nat.eq_of_testBit_eq fun t => ?_
    simp only [Nat.testBit_and, Nat.testBit_or, Nat.testBit_two_pow, Nat.zero_testBit]
    by_cases hij : j = i
    · subst hij
      by_cases htj : j = t
      · subst htj; simp [irr j hj]
      · simp only [htj, decide_false, Bool.or_false]
        cases hbt : m.testBit t with
        | false => simp
        | true =>
          have ht := testBit_lt hm hbt
          have := hno t ht hbt
          rw [Bool.and_true, sym j t hj ht]
          cases h : (N t).testBit j with
          | false => rfl
          | true => exact absurd (.inr h) this
    · have hb' : m.testBit i = true := by simpa [hij] using hb
      have h0 := (qC_iff _ _ _).1 hq i hi hb'
      by_cases htj : j = t
      · subst htj
        cases h : (N i).testBit j with
        | false => rfl
        | true => exact absurd (.inr h) (hno i hi hb')
      · have := congrArg (fun x => x.testBit t) h0
        simp only [Nat.testBit_and, Nat.zero_testBit] at this
        simpa [htj] using this
  intro d
  induction d with
  | zero =>
    intro m hm hd hq
    refine ⟨m, hm, ?_⟩
    by_cases hg : gC N m n = 2 ^ n - 1
    · simp [okG, hg, hq]
    · obtain ⟨j, hj, hmj, _⟩ := key m hm hq hg
      have hb := bits_le n m
      have : bits n m = n := by omega
      have h1 : ∀ x ∈ List.range n, m.testBit x = true := List.countP_eq_length.1 (by rw [List.length_range]; exact this)
      rw [h1 j (List.mem_range.2 hj)] at hmj
      cases hmj
  | succ d ih =>
    intro m hm hd hq
    by_cases hg : gC N m n = 2 ^ n - 1
    · exact ⟨m, hm, by simp [okG, hg, hq]⟩
    · obtain ⟨j, hj, hmj, hq'⟩ := key m hm hq hg
      refine ih (m ||| 2 ^ j) (Nat.or_lt_two_pow hm (Nat.pow_lt_pow_right (by omega) hj)) ?_ hq'
      have : ∀ i, bits i (m ||| 2 ^ j) = bits i m + if j < i then 1 else 0 := by
        intro i
        induction i with
        | zero => simp [bits]
        | succ i ihi =>
          rw [bits_succ, bits_succ, ihi]
          simp only [Nat.testBit_or, Nat.testBit_two_pow]
          by_cases hji : j = i
          · subst hji; simp [hmj]
          · by_cases h1 : j < i
            · have h2 : j < i + 1 := by omega
              simp [hji, h1, h2]; omega
            · have h2 : ¬ j < i + 1 := by omega
              simp [hji, h1, h2]
      have h1 := this n
      rw [if_pos hj] at h1
      omega

end Go.Lg
