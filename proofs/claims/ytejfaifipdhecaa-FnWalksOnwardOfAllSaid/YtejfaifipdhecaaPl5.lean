/-
  Plain law: sorting few numbers.
-/
import Derived.Test.YtejfaifipdhecaaPl4
set_option linter.unusedVariables false
set_option linter.unusedSimpArgs false
namespace Go.Lg
open Go.RowKit Go.IntWalk

variable {k : Nat}

def ins (x : Nat) : List Nat → List Nat
  | [] => [x]
  | y :: s => if y ≤ x then y :: ins x s else x :: y :: s

def cnt (x : Nat) : List Nat → Nat
  | [] => 0
  | y :: s => if y ≤ x then cnt x s + 1 else 0

theorem cnt_le (x : Nat) : ∀ s, cnt x s ≤ s.length
  | [] => Nat.le_refl _
  | y :: s => by unfold cnt; have := cnt_le x s; split <;> simp <;> omega

theorem ins_eq (x : Nat) : ∀ s, ins x s = s.take (cnt x s) ++ x :: s.drop (cnt x s)
  | [] => rfl
  | y :: s => by
    unfold ins cnt
    split
    · rw [ins_eq x s]; simp
    · simp

theorem ins_perm (x : Nat) : ∀ s, (ins x s).Perm (x :: s)
  | [] => List.Perm.refl _
  | y :: s => by
    unfold ins
    split
    · exact ((ins_perm x s).cons y).trans (List.Perm.swap _ _ _)
    · exact List.Perm.refl _

theorem ins_length (x : Nat) (s : List Nat) : (ins x s).length = s.length + 1 := (ins_perm x s).length_eq

theorem ins_sorted {x : Nat} : ∀ {s}, s.Pairwise (· ≤ ·) → (ins x s).Pairwise (· ≤ ·)
  | [], _ => by simp [ins]
  | y :: s, h => by
    have ⟨h1, h2⟩ := List.pairwise_cons.1 h
    unfold ins
    split
    · rename_i hle
      refine List.pairwise_cons.2 ⟨fun z hz => ?_, ins_sorted h2⟩
      rcases List.mem_cons.1 ((ins_perm x s).mem_iff.1 hz) with rfl | hz
      · exact hle
      · exact h1 z hz
    · rename_i hle
      refine List.pairwise_cons.2 ⟨fun z hz => ?_, h⟩
      rcases List.mem_cons.1 hz with rfl | hz
      · omega
      · have := h1 z hz; omega

theorem cnt_after {x : Nat} : ∀ {s}, s.Pairwise (· ≤ ·) → ∀ j y, cnt x s ≤ j → s[j]? = some y → x < y
  | [], _, j, y, _, hy => by simp at hy
  | z :: s, h, j, y, hj, hy => by
    have ⟨h1, h2⟩ := List.pairwise_cons.1 h
    unfold cnt at hj
    split at hj
    · cases j with
      | zero => omega
      | succ j => exact cnt_after h2 j y (by omega) (by simpa using hy)
    · rename_i hle
      cases j with
      | zero => simp at hy; omega
      | succ j =>
        have := h1 y (List.mem_of_getElem? (by simpa using hy))
        omega

theorem cnt_before {x : Nat} : ∀ {s} j y, j < cnt x s → s[j]? = some y → y ≤ x
  | [], j, y, h, hy => by simp at hy
  | z :: s, j, y, hj, hy => by
    unfold cnt at hj
    split at hj
    · cases j with
      | zero => simp at hy; omega
      | succ j => exact cnt_before (s := s) j y (by omega) (by simpa using hy)
    · omega

def isort (l : List Nat) : List Nat := l.foldl (fun s x => ins x s) []

theorem isort_append (l : List Nat) (x : Nat) : isort (l ++ [x]) = ins x (isort l) := by simp [isort, List.foldl_append]

theorem isort_facts (l : List Nat) : (isort l).Perm l ∧ (isort l).Pairwise (· ≤ ·) := by
  have : ∀ (l s : List Nat), s.Pairwise (· ≤ ·) → (l.foldl (fun s x => ins x s) s).Perm (s ++ l) ∧ (l.foldl (fun s x => ins x s) s).Pairwise (· ≤ ·) := by
    intro l
    induction l with
    | nil => intro s h; exact ⟨by simp, h⟩
    | cons x l ih =>
      intro s h
      obtain ⟨h1, h2⟩ := ih (ins x s) (ins_sorted h)
      refine ⟨h1.trans ?_, h2⟩
      refine ((ins_perm x s).append_right l).trans ?_
      exact (List.perm_middle (l₁ := s) (a := x) (l₂ := l)).symm
  exact this l [] List.Pairwise.nil

theorem Less_eq (a b : Int) : go_cmp_Less_int k a b = some (decide (a < b)) := by
  unfold go_cmp_Less_int go_cmp_isNaN_int
  simp

theorem insertionSort_eq {l : List Nat} (hk : K0 ≤ k) (hl : l.length ≤ 1048576) : go_slices_insertionSortOrdered_int k (zs l) 0 (l.length : Int) = some ((), (zs (isort l), (0, ((l.length : Int), ())))) := by
  unfold go_slices_insertionSortOrdered_int go_slices_insertionSortOrdered_int_T go_slices_insertionSortOrdered_int_L0
  refine iter_path (F := fun rec24 x23 => go_slices_insertionSortOrdered_int_L0_G k (zs l) 0 (l.length : Int) (fun c0 y => go_slices_insertionSortOrdered_int_L1 k (zs l) 0 (l.length : Int) rec24 c0 y) rec24 x23)
    (fun i => (((i + 1 : Nat) : Int), zs (isort (l.take (i + 1)) ++ l.drop (i + 1)))) (l.length - 1) ?_ (by unfold K0 at hk; omega) (fun i hi rec => ?_) (fun rec => ?_)
  · cases l with
    | nil => rfl
    | cons x l => rfl
  · unfold go_slices_insertionSortOrdered_int_L0_G
    rw [if_pos (by simp only [decide_eq_true_eq]; omega)]
    have hi1 : i + 1 < l.length := by omega
    have hx := List.getElem?_eq_getElem hi1
    generalize hxx : l[i + 1] = x at hx
    have hs : (isort (l.take (i + 1))).length = i + 1 := by rw [(isort_facts _).1.length_eq, List.length_take]; omega
    have hsort := (isort_facts (l.take (i + 1))).2
    have hdrop : l.drop (i + 1) = x :: l.drop (i + 1 + 1) := by rw [List.drop_eq_getElem_cons hi1, hxx]
    have htake : l.take (i + 1 + 1) = l.take (i + 1) ++ [x] := by rw [List.take_succ_eq_append_getElem hi1, hxx]
    rw [htake, isort_append]
    generalize isort (l.take (i + 1)) = s at hs hsort ⊢
    generalize l.drop (i + 1 + 1) = rest at hdrop ⊢
    rw [hdrop]
    unfold go_slices_insertionSortOrdered_int_L1
    have hc := cnt_le x s
    refine iter_path (F := fun rec32 x31 => go_slices_insertionSortOrdered_int_L1_G k (zs l) 0 (l.length : Int) (((i + 1 : Nat) : Int), zs (s ++ x :: rest)) rec rec32 x31)
      (fun t => (((i + 1 - t : Nat) : Int), zs (s.take (i + 1 - t) ++ x :: (s.drop (i + 1 - t) ++ rest)))) (i + 1 - cnt x s) ?_ (by unfold K0 at hk; omega) (fun t ht rec2 => ?_) (fun rec2 => ?_)
    · simp only [Nat.sub_zero]
      rw [List.take_of_length_le (by omega), List.drop_of_length_le (by omega)]
      simp
    · unfold go_slices_insertionSortOrdered_int_L1_G
      generalize hj : i + 1 - t = j
      have hj1 : 0 < j := by omega
      have hjs : j ≤ s.length := by omega
      have hlen : (s.take j ++ x :: (s.drop j ++ rest)).length = s.length + 1 + rest.length := by simp; omega
      have hy := List.getElem?_eq_getElem (show j - 1 < s.length by omega)
      generalize hyy : s[j - 1]'(by omega) = y at hy
      have hxy : x < y := cnt_after hsort (j - 1) y (by omega) hy
      have hgj : (zs (s.take j ++ x :: (s.drop j ++ rest))).getD j 0 = (x : Int) := zs_get (by rw [List.getElem?_append_right (by simp; omega), List.length_take, show j - min j s.length = 0 by omega]; rfl)
      have hgj1 : (zs (s.take j ++ x :: (s.drop j ++ rest))).getD (j - 1) 0 = (y : Int) := zs_get (by rw [List.getElem?_append_left (by simp; omega), List.getElem?_take_of_lt (by omega)]; exact hy)
      have hpos : decide ((0 : Int) < (j : Int)) = true := by simp; omega
      simp only [zs_length, hlen, wpred (show j < 9223372036854775807 by omega) hj1, inb_lt (show j < s.length + 1 + rest.length by omega), inb_lt (show j - 1 < s.length + 1 + rest.length by omega), hpos, Bool.not_true, Bool.or_true, if_true, Int.toNat_natCast, hgj, hgj1, Less_eq, Option.bind_some, Bool.true_and, List.length_set]
      rw [if_pos (by simp; omega)]
      rw [show i + 1 - (t + 1) = j - 1 by omega]
      congr 2
      rw [zs_set, zs_set]
      congr 1
      have e1 : s.take j = s.take (j - 1) ++ [y] := by
        have := List.take_succ_eq_append_getElem (l := s) (i := j - 1) (by omega)
        rw [show j - 1 + 1 = j by omega] at this
        rw [this, hyy]
      have e2 : s.drop (j - 1) = y :: s.drop j := by
        rw [List.drop_eq_getElem_cons (show j - 1 < s.length by omega), hyy, show j - 1 + 1 = j by omega]
      rw [e2, e1]
      have hl1 : (s.take (j - 1)).length = j - 1 := by simp; omega
      generalize s.take (j - 1) = p at hl1 ⊢
      generalize s.drop j = q
      have : j = p.length + 1 := by omega
      subst this
      simp
    · unfold go_slices_insertionSortOrdered_int_L1_G
      generalize hj : i + 1 - (i + 1 - cnt x s) = j
      have hjc : j = cnt x s := by omega
      have hlen : (s.take j ++ x :: (s.drop j ++ rest)).length = s.length + 1 + rest.length := by simp; omega
      have hfin : s.take j ++ x :: (s.drop j ++ rest) = ins x s ++ rest := by rw [ins_eq, ← hjc]; simp
      rcases Nat.eq_zero_or_pos j with h0 | h0
      · subst h0
        simp only [show ((0 : Nat) : Int) = 0 from rfl, Int.lt_irrefl, decide_false, Bool.not_false, Bool.true_or, if_true, Bool.false_eq_true, if_false, Option.bind_some, Bool.false_and]
        rw [wsucc (by omega), hfin]
      · have hy := List.getElem?_eq_getElem (show j - 1 < s.length by omega)
        generalize hyy : s[j - 1]'(by omega) = y at hy
        have hxy : y ≤ x := cnt_before (j - 1) y (by omega) hy
        have hgj : (zs (s.take j ++ x :: (s.drop j ++ rest))).getD j 0 = (x : Int) := zs_get (by rw [List.getElem?_append_right (by simp; omega), List.length_take, show j - min j s.length = 0 by omega]; rfl)
        have hgj1 : (zs (s.take j ++ x :: (s.drop j ++ rest))).getD (j - 1) 0 = (y : Int) := zs_get (by rw [List.getElem?_append_left (by simp; omega), List.getElem?_take_of_lt (by omega)]; exact hy)
        have hpos : decide ((0 : Int) < (j : Int)) = true := by simp; omega
        simp only [zs_length, hlen, wpred (show j < 9223372036854775807 by omega) h0, inb_lt (show j < s.length + 1 + rest.length by omega), inb_lt (show j - 1 < s.length + 1 + rest.length by omega), hpos, Bool.not_true, Bool.or_true, if_true, Int.toNat_natCast, hgj, hgj1, Less_eq, Option.bind_some, Bool.true_and]
        rw [if_neg (by simp; omega), wsucc (by omega), hfin]
  · unfold go_slices_insertionSortOrdered_int_L0_G
    rw [if_neg (by simp; omega)]
    rw [List.take_of_length_le (by omega), List.drop_of_length_le (by omega), List.append_nil]

theorem bitsLen_some (n : Nat) (hn : n ≤ 12) : ∃ r, go_math_bits_Len k (IntKind.u64.wrap (n : Int)) = some r := by
  unfold go_math_bits_Len go_math_bits_Len64
  rw [if_neg (by decide), u64_in _ ⟨by omega, by omega⟩, if_neg (by simp; omega), if_neg (by simp; omega), if_neg (by simp; omega), u8_in _ ⟨by omega, by omega⟩]
  have : str_00_01_02_02_03_03_03_03_04_04_04_04_256.size = 256 := by kernel_rfl
  rw [this, if_pos (inb_lt (show n < 256 by omega))]
  exact ⟨_, rfl⟩

theorem Sort_eq {l : List Nat} (hk : K0 ≤ k) (hl : l.length ≤ 12) : go_slices_Sort_int k (zs l) = some ((), (zs (isort l), ())) := by
  unfold go_slices_Sort_int
  rw [zs_length]
  obtain ⟨r, hr⟩ := bitsLen_some (k := k) l.length hl
  rw [hr]
  simp only [Option.bind_some]
  have : go_slices_pdqsortOrdered_int k (zs l) 0 (l.length : Int) r = some ((), (zs (isort l), (0, ((l.length : Int), (r, ()))))) := by
    unfold go_slices_pdqsortOrdered_int go_slices_pdqsortOrdered_int_T go_slices_pdqsortOrdered_int_L0
    refine iter_path (F := fun rec2 x1 => go_slices_pdqsortOrdered_int_L0_G k (zs l) 0 (l.length : Int) r rec2 x1) (fun _ => ()) 0 rfl (by unfold K0 at hk; omega) (fun i hi => by omega) (fun rec => ?_)
    unfold go_slices_pdqsortOrdered_int_L0_G
    rw [w64 (by omega) (by omega), if_pos (by simp; omega), insertionSort_eq hk (by omega)]
    rfl
  rw [this]
  rfl

end Go.Lg
