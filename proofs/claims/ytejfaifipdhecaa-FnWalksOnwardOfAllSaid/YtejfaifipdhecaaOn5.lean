/-
  Plain law: FnWalksOnwardOfAll.
-/
import Derived.Test.YtejfaifipdhecaaOn4
import Derived.Test.YtejfaifipdhecaaRow
set_option linter.unusedVariables false
set_option linter.unusedSimpArgs false
namespace Go.Lg
open Go.RowKit Go.IntWalk

variable {k : Nat}

theorem absI_eq {n : Int} (h1 : -1000000000 ≤ n) (h2 : n ≤ 1000000000) : go_spec_l1Abs k n = some (max n (0 - n)) := by
  unfold go_spec_l1Abs go_spec_l1Most
  rw [w64 (by omega) (by omega)]
  by_cases h : 0 - n < n
  · rw [if_pos (by simpa using h)]
    simp only [Option.bind_some]
    congr 1
    omega
  · rw [if_neg (by simpa using h)]
    simp only [Option.bind_some]
    congr 1
    omega

section
variable {W H a b : Nat} {hs : List Nat}

def evenN (W : Nat) (l : List Nat) (i : Nat) : Nat := (l.take i).countP fun c => decide ((c % W + c / W) % 2 = 0)
def oddC (W : Nat) (l : List Nat) (i : Nat) : Nat := (l.take i).countP fun c => !decide ((c % W + c / W) % 2 = 0)
theorem evenN_succ {l : List Nat} {i : Nat} (hi : i < l.length) : evenN W l (i + 1) = evenN W l i + if (l.getD i 0 % W + l.getD i 0 / W) % 2 = 0 then 1 else 0 := by
  unfold evenN
  rw [List.take_succ_eq_append_getElem hi, List.countP_append, List.getD_eq_getElem?_getD, List.getElem?_eq_getElem hi]
  simp only [List.countP_cons, List.countP_nil, Option.getD_some]
  by_cases h : (l[i] % W + l[i] / W) % 2 = 0 <;> simp [h]
theorem oddC_succ {l : List Nat} {i : Nat} (hi : i < l.length) : oddC W l (i + 1) = oddC W l i + if (l.getD i 0 % W + l.getD i 0 / W) % 2 = 0 then 0 else 1 := by
  unfold oddC
  rw [List.take_succ_eq_append_getElem hi, List.countP_append, List.getD_eq_getElem?_getD, List.getElem?_eq_getElem hi]
  simp only [List.countP_cons, List.countP_nil, Option.getD_some]
  by_cases h : (l[i] % W + l[i] / W) % 2 = 0 <;> simp [h]
theorem evenN_le (l : List Nat) (i : Nat) : evenN W l i ≤ l.length := by
  have h1 : evenN W l i ≤ (l.take i).length := List.countP_le_length
  have h2 := List.length_take_le' i l
  omega
theorem oddC_le (l : List Nat) (i : Nat) : oddC W l i ≤ l.length := by
  have h1 : oddC W l i ≤ (l.take i).length := List.countP_le_length
  have h2 := List.length_take_le' i l
  omega

theorem parity (c : Nat) (hc : c ≤ 1000) : decide (Int.tmod (IntKind.i64.wrap (Int.tmod (c : Int) (W : Int) + IntKind.i64.wrap (Int.tdiv (c : Int) (W : Int)))) 2 = 0) = decide ((c % W + c / W) % 2 = 0) := by
  have h1 := Nat.div_le_self c W
  have h2 := Nat.mod_le c W
  rw [tmod_nat, tdiv_nat, wnat (show c / W < 9223372036854775808 by omega), ← Int.natCast_add, wnat (show c % W + c / W < 9223372036854775808 by omega), show (2 : Int) = ((2 : Nat) : Int) from rfl, tmod_nat, decide_eq_decide]
  omega

theorem balance_eq (hk : K0 ≤ k) (hg : Gd W H hs) : go_impl_Board_balance k (bd W H hs) = some ((evenN W (cells W H hs) (cells W H hs).length : Int), ((oddC W (cells W H hs) (cells W H hs).length : Int), ())) := by
  have h64 := hg.n64
  have hcl := cells_length (W := W) (H := H) (hs := hs)
  have hb : ∀ c ∈ cells W H hs, c ≤ 1000 := fun c hc => by have := hasW_lt (mem_cells.1 hc); omega
  have w1 : (bd W H hs).1 = (W : Int) := rfl
  have hW : decide ((W : Int) ≠ 0) = true := decide_eq_true (by have := hg.w1; omega)
  unfold go_impl_Board_balance go_impl_Board_balance_T
  rw [present_eq hk hg]
  simp only [Option.bind_some]
  generalize cells W H hs = l at hcl hb
  unfold go_impl_Board_balance_L0
  refine iter_path (F := fun rec9 x8 => go_impl_Board_balance_L0_G k (bd W H hs) (zs l) rec9 x8) (fun i => ((evenN W l i : Int), (oddC W l i : Int), (i : Int))) l.length rfl (by unfold K0 at hk; omega) (fun i hi rec => ?_) (fun rec => ?_)
  · unfold go_impl_Board_balance_L0_G
    have e1 : decide ((i : Int) < (l.length : Int)) = true := by simpa using hi
    have hbi : l.getD i 0 ≤ 1000 := hb _ (by rw [List.getD_eq_getElem?_getD, List.getElem?_eq_getElem hi]; exact List.getElem_mem _)
    have h1 := evenN_le (W := W) l i
    have h2 := oddC_le (W := W) l i
    simp only [zs_length, e1, if_true, inb_lt hi, Int.toNat_natCast, zs_getD, w1, hW, parity (W := W) (l.getD i 0) hbi, wsucc (show i < 9223372036854775807 by omega), wsucc (show evenN W l i < 9223372036854775807 by omega), wsucc (show oddC W l i < 9223372036854775807 by omega), evenN_succ hi, oddC_succ hi, decide_eq_true_eq]
    by_cases h : (l.getD i 0 % W + l.getD i 0 / W) % 2 = 0
    · simp only [if_pos h, Nat.add_zero]
    · simp only [if_neg h, Nat.add_zero]
  · unfold go_impl_Board_balance_L0_G
    have e1 : decide ((l.length : Int) < (l.length : Int)) = false := by simp
    simp only [zs_length, e1, Bool.false_eq_true, if_false]

theorem cf_spec (hk : K0 ≤ k) (hg : Gd W H hs) : go_spec_ColoursForbid_L0 k (bd W H hs) (ld a b) (zs (cells W H hs)) ((0 : Int), (0 : Int)) = some (decide ((1 : Int) < max ((evenN W (cells W H hs) (cells W H hs).length : Int) - (oddC W (cells W H hs) (cells W H hs).length : Int)) (0 - ((evenN W (cells W H hs) (cells W H hs).length : Int) - (oddC W (cells W H hs) (cells W H hs).length : Int)))), (!decide ((evenN W (cells W H hs) (cells W H hs).length : Int) - (oddC W (cells W H hs) (cells W H hs).length : Int) = 0), (true, ()))) := by
  have h64 := hg.n64
  have hcl := cells_length (W := W) (H := H) (hs := hs)
  have hb : ∀ c ∈ cells W H hs, c ≤ 1000 := fun c hc => by have := hasW_lt (mem_cells.1 hc); omega
  have w1 : (bd W H hs).1 = (W : Int) := rfl
  have hW : decide ((W : Int) ≠ 0) = true := decide_eq_true (by have := hg.w1; omega)
  generalize cells W H hs = l at hcl hb
  unfold go_spec_ColoursForbid_L0
  refine iter_path (F := fun rec8 x7 => go_spec_ColoursForbid_L0_G k (bd W H hs) (ld a b) (zs l) rec8 x7) (fun i => ((evenN W l i : Int) - (oddC W l i : Int), (i : Int))) l.length rfl (by unfold K0 at hk; omega) (fun i hi rec => ?_) (fun rec => ?_)
  · unfold go_spec_ColoursForbid_L0_G
    have e1 : decide ((i : Int) < (l.length : Int)) = true := by simpa using hi
    have hbi : l.getD i 0 ≤ 1000 := hb _ (by rw [List.getD_eq_getElem?_getD, List.getElem?_eq_getElem hi]; exact List.getElem_mem _)
    have h1 := evenN_le (W := W) l i
    have h2 := oddC_le (W := W) l i
    simp only [zs_length, e1, if_true, inb_lt hi, Int.toNat_natCast, zs_getD, w1, hW, parity (W := W) (l.getD i 0) hbi, wsucc (show i < 9223372036854775807 by omega), evenN_succ hi, oddC_succ hi, decide_eq_true_eq]
    rw [w64 (n := (evenN W l i : Int) - (oddC W l i : Int) + 1) (by omega) (by omega), w64 (n := (evenN W l i : Int) - (oddC W l i : Int) - 1) (by omega) (by omega)]
    by_cases h : (l.getD i 0 % W + l.getD i 0 / W) % 2 = 0
    · simp only [if_pos h, Nat.add_zero]
      congr 2
      omega
    · simp only [if_neg h, Nat.add_zero]
      congr 2
      omega
  · unfold go_spec_ColoursForbid_L0_G
    have e1 : decide ((l.length : Int) < (l.length : Int)) = false := by simp
    have h1 := evenN_le (W := W) l l.length
    have h2 := oddC_le (W := W) l l.length
    simp only [zs_length, e1, Bool.false_eq_true, if_false]
    rw [absI_eq (by omega) (by omega)]
    rfl

theorem cells_count (hg : Gd W H hs) : (cells W H hs).length + hs.length = W * H := by
  have e := List.length_eq_countP_add_countP (fun c => decide (c ∈ hs)) (l := List.range (W * H))
  rw [List.length_range] at e
  have hnd : hs.Nodup := hg.up.imp fun h e => by omega
  have n1 : ((List.range (W * H)).filter (fun c => decide (c ∈ hs))).Nodup := (List.nodup_range).filter _
  have l1 := nodup_length_le n1 (l := hs) fun c hc => by simpa using (List.mem_filter.1 hc).2
  have l2 := nodup_length_le hnd (l := (List.range (W * H)).filter (fun c => decide (c ∈ hs))) fun c hc => List.mem_filter.2 ⟨List.mem_range.2 (hg.inn c hc), by simpa using hc⟩
  rw [List.countP_eq_length_filter, List.countP_eq_length_filter] at e
  have e2 : (cells W H hs).length = ((List.range (W * H)).filter fun c => decide (¬ decide (c ∈ hs) = true)).length := by
    unfold cells
    congr 2
    funext c
    by_cases h : c ∈ hs <;> simp [h]
  omega

end

theorem cf_same (hk : K0 ≤ k) (B : BT) (L : LT) : ∃ r, go_impl_ColoursForbid k B L = some r ∧ go_spec_ColoursForbid k B L = some r ∧ (r.1 = true → r.2.1 = true) ∧ r.2.2.1 = ((isGood B && isGoodL L) && !decide (Int.tmod (IntKind.i64.wrap (L.1 + L.2.1)) 2 = 0)) := by
  unfold go_impl_ColoursForbid go_spec_ColoursForbid go_spec_ColoursForbid_T
  rw [IsBoard_eq hk, IsLeaper_eq, boTwo_eq hk]
  simp only [Option.bind_some]
  cases hB : isGood B with
  | false => exact ⟨_, rfl, rfl, fun h => h, by simp⟩
  | true =>
    cases hL : isGoodL L with
    | false => exact ⟨_, rfl, rfl, fun h => h, by simp⟩
    | true =>
      simp only [Bool.not_true, Bool.not_false, if_true, Option.bind_some, Bool.and_self, Bool.false_or, Bool.true_and]
      cases ho : decide (Int.tmod (IntKind.i64.wrap (L.1 + L.2.1)) 2 = 0) with
      | true => exact ⟨_, rfl, rfl, fun h => h, by simp⟩
      | false =>
        obtain ⟨W, H, hs, rfl, hg⟩ := Good.nat (by simpa [isGood] using hB)
        obtain ⟨a, b, rfl, hab, hb1, hb5⟩ := GoodL.nat (by simpa [isGoodL] using hL)
        have h64 := hg.n64
        have hcl := cells_length (W := W) (H := H) (hs := hs)
        have h1 := evenN_le (W := W) (cells W H hs) (cells W H hs).length
        have h2 := oddC_le (W := W) (cells W H hs) (cells W H hs).length
        simp only [Bool.false_eq_true, if_false, balance_eq hk hg, boCells_eq hk hg, Option.bind_some, cf_spec hk hg]
        generalize evenN W (cells W H hs) (cells W H hs).length = E at h1
        generalize oddC W (cells W H hs) (cells W H hs).length = O at h2
        rw [w64 (n := (E : Int) - (O : Int)) (by omega) (by omega), w64 (n := (O : Int) - (E : Int)) (by omega) (by omega)]
        refine ⟨_, rfl, ?_, ?_, rfl⟩
        · congr 2
          · rw [decide_eq_decide]; omega
          · congr 2
            rw [decide_eq_decide]; omega
        · intro h
          simp only [decide_eq_true_eq] at h
          simp only [Bool.not_eq_true', decide_eq_false_iff_not]
          omega

/-! ### the law -/

def tailC (k : Nat) (a9 : BT) (a10 : LT) : Option Bool :=
  (go_impl_ColoursForbid k a9 a10).bind fun r31 =>
  (go_spec_ColoursForbid k a9 a10).bind fun r32 =>
  (if ((((r31.2.2.1 == r32.2.2.1) && (r31.1 == r32.1)) && (r31.2.1 == r32.2.1)) && ((!r31.1) || r31.2.1)) = true then go_impl_IsBoard k a9 else some false).bind fun r33 =>
  (if (r33 && ((((r31.2.2.1 == r32.2.2.1) && (r31.1 == r32.1)) && (r31.2.1 == r32.2.1)) && ((!r31.1) || r31.2.1))) = true then go_impl_IsLeaper k a10 else some false).bind fun r34 =>
  if (!((r33 && r34) && ((((r31.2.2.1 == r32.2.2.1) && (r31.1 == r32.1)) && (r31.2.1 == r32.2.1)) && ((!r31.1) || r31.2.1))) || true) = true then
  some (((((r31.2.2.1 == r32.2.2.1) && (r31.1 == r32.1)) && (r31.2.1 == r32.2.1)) && ((!r31.1) || r31.2.1)) && (r31.2.2.1 == ((r33 && r34) && (!decide ((Int.tmod (IntKind.i64.wrap (a10.1 + a10.2.1)) (2 : Int)) = (0 : Int))))))
  else none

theorem tailC_eq (hk : K0 ≤ k) (a9 : BT) (a10 : LT) : tailC k a9 a10 = some true := by
  obtain ⟨r, h1, h2, h3, h4⟩ := cf_same hk a9 a10
  unfold tailC
  rw [h1, h2]
  have hc : ((!r.1) || r.2.1) = true := by
    cases hr : r.1 with
    | false => rfl
    | true => rw [h3 hr]; rfl
  simp only [Option.bind_some, beq_self_eq_true, hc, Bool.and_self, if_true, IsBoard_eq hk, IsLeaper_eq, Bool.and_true, Bool.true_and]
  cases hB : isGood a9 with
  | false => rw [hB] at h4; simp [h4]
  | true =>
    rw [hB] at h4
    simp only [if_true, Option.bind_some, Bool.true_and]
    rw [h4]
    simp

def tailW (k : Nat) (a6 : BT) (a7 : LT) (a8 : List Int) (a9 : BT) (a10 : LT) : Option Bool :=
  (go_impl_WalkOfNumbers k a6 a7 a8).bind fun r26 =>
  (go_spec_WalkOfNumbers k a6 a7 a8).bind fun r27 =>
  (if (!(r26.2.1 != r27.2.1)) = true then go_laws_ySame k r26.1 r27.1 else some false).bind fun r28 =>
  if ((r26.2.1 != r27.2.1) || (!r28)) = true then
    some false
  else
    if r26.2.1 = true then
      (go_impl_NumbersOfWalk k a6 a7 r26.1).bind fun r29 =>
      (if (!(!r29.2.1)) = true then go_laws_ySame k r29.1 a8 else some false).bind fun r30 =>
      if ((!r29.2.1) || (!r30)) = true then
        some false
      else
        tailC k a9 a10
    else
      tailC k a9 a10

theorem tailW_eq (hk : K0 ≤ k) (a6 : BT) (a7 : LT) (a8 : List Int) (a9 : BT) (a10 : LT) : tailW k a6 a7 a8 a9 a10 = some true := by
  unfold tailW
  rcases wn_same hk a6 a7 a8 with ⟨h1, h2⟩ | ⟨q, h1, h2, h3, h4, h5⟩
  · have hs : go_laws_ySame k FR.1 FR.1 = some true := ySame_self hk (by simp [FR])
    have hF : FR.2.1 = false := rfl
    rw [h1, h2]
    simp only [Option.bind_some, bne_self_eq_false, Bool.not_false, if_true, hs, Bool.not_true, Bool.or_self, Bool.false_eq_true, if_false, hF, tailC_eq hk]
  · rw [h1, h2]
    have hs : go_laws_ySame k (zs q) (zs q) = some true := ySame_self hk (by rw [zs_length]; omega)
    simp only [Option.bind_some, bne_self_eq_false, Bool.not_false, if_true, hs, Bool.not_true, Bool.or_self, Bool.false_eq_true, if_false, h3]
    simp only [ySame_self hk (show a8.length ≤ 1048576 by omega), Option.bind_some, Bool.not_true, Bool.or_self, Bool.false_eq_true, if_false, tailC_eq hk]

def midE (k : Nat) (loop : List Int × (Bool × Unit) → Int → Option Bool) (a3 : BT) (a4 : LT) (a5 : List Int) (a6 : BT) (a7 : LT) (a8 : List Int) (a9 : BT) (a10 : LT) : Option Bool :=
  (go_impl_NumbersOfWalk k a3 a4 a5).bind fun r12 =>
    (go_spec_NumbersOfWalk k a3 a4 a5).bind fun r13 =>
    (go_impl_IsWalk k a3 a4 a5).bind fun r14 =>
    (go_spec_IsWalk k a3 a4 a5).bind fun r15 =>
    (go_impl_IsTour k a3 a4 a5).bind fun r16 =>
    (go_spec_IsTour k a3 a4 a5).bind fun r17 =>
    (if (!(r12.2.1 != r13.2.1)) = true then go_laws_ySame k r12.1 r13.1 else some false).bind fun r18 =>
    if ((((((((r12.2.1 != r13.2.1) || (!r18)) || (r14.2.1 != r15.2.1)) || (r14.1 != r15.1)) || (r16.2.1 != r17.2.1)) || (r16.1 != r17.1)) || (r12.2.1 != (r14.2.1 && r14.1))) || (r16.1 && (!r14.1))) = true then
      some false
    else
      if r12.2.1 = true then
        (go_impl_WalkOfNumbers k a3 a4 r12.1).bind fun r19 =>
        (go_impl_CountCells k a3).bind fun r20 =>
        (if (!(!r19.2.1)) = true then go_laws_ySame k r19.1 a5 else some false).bind fun r21 =>
        if (((((!r19.2.1) || (!r21)) || (!decide ((r12.1.length : Int) = (IntKind.i64.wrap (a3.1 * a3.2.1))))) || (!r20.2.1)) || (r16.1 != (decide ((a5.length : Int) = r20.1)))) = true then
          some false
        else
          loop r12 (0 : Int)
      else
        tailW k a6 a7 a8 a9 a10

theorem mid_eq (hk : K0 ≤ k) {loop : List Int × (Bool × Unit) → Int → Option Bool} {a3 : BT} {a4 : LT} {a5 : List Int} {a6 : BT} {a7 : LT} {a8 : List Int} {a9 : BT} {a10 : LT}
    (hloop : ∀ W H a b hs q, Gd W H hs → WalkN W H hs a b q → a5 = zs q → loop (zs (numsN (W * H) q), (true, ())) (0 : Int) = some true) : midE k loop a3 a4 a5 a6 a7 a8 a9 a10 = some true := by
  unfold midE
  rcases walk_cases hk a3 a4 a5 with ⟨h1, h2, w, t, h3, h4, h5, h6, h7, h8⟩ | ⟨W, H, a, b, hs, q, rfl, rfl, rfl, hg, hG, hq, h1, h2, h3, h4, h5, h6, h7, h8⟩
  · rw [h1, h2, h3, h4, h5, h6]
    have hs : go_laws_ySame k [] [] = some true := ySame_self hk (by simp)
    simp only [Option.bind_some, bne_self_eq_false, Bool.not_false, if_true, hs, Bool.not_true, Bool.or_self, h7, h8, Bool.false_and, Bool.false_eq_true, if_false, tailW_eq hk]
  · have hN := hg.n64
    have hcc := cells_count hg
    have hq64 := hq.len64
    have hs1 : go_laws_ySame k (zs (numsN (W * H) q)) (zs (numsN (W * H) q)) = some true := ySame_self hk (by rw [zs_length, numsN_length]; omega)
    have hs2 : go_laws_ySame k (zs q) (zs q) = some true := ySame_self hk (by rw [zs_length]; omega)
    have hl := hloop W H a b hs q hg hq rfl
    have hb := wn_back hk hg h2 h1 hq
    have w1 : (bd W H hs).1 = (W : Int) := rfl
    have w2 : (bd W H hs).2.1 = (H : Int) := rfl
    have w3 : (bd W H hs).2.2.1 = zs hs := rfl
    have hcount : go_impl_CountCells k (bd W H hs) = some (((cells W H hs).length : Int), (true, ())) := by
      unfold go_impl_CountCells
      rw [IsBoard_eq hk, hG]
      simp only [Option.bind_some, Bool.not_true, Bool.false_eq_true, if_false, w1, w2, w3, wWH hg, zs_length]
      rw [w64 (by omega) (by omega), show ((W * H : Nat) : Int) - (hs.length : Int) = ((cells W H hs).length : Int) by omega]
    have el : decide (((numsN (W * H) q).length : Int) = ((W * H : Nat) : Int)) = true := by rw [numsN_length]; exact decide_eq_true rfl
    have ec : decide ((q.length : Int) = ((cells W H hs).length : Int)) = decide (q.length = (cells W H hs).length) := by rw [decide_eq_decide]; omega
    rw [h3, h4, h5, h6, h7, h8]
    simp only [Option.bind_some, bne_self_eq_false, Bool.not_false, if_true, hs1, Bool.not_true, Bool.or_self, Bool.and_self, Bool.and_false, Bool.false_eq_true, if_false, hb, hcount, hs2, w1, w2, wWH hg, zs_length, el, ec, hl]

theorem law_onward (hk : K0 ≤ k) (a0 : BT) (a1 : LT) (a2 : Int) (a3 : BT) (a4 : LT) (a5 : List Int) (a6 : BT) (a7 : LT) (a8 : List Int) (a9 : BT) (a10 : LT) : go_laws_FnWalksOnwardOfAll k a0 a1 a2 a3 a4 a5 a6 a7 a8 a9 a10 = some true := by
  unfold go_laws_FnWalksOnwardOfAll go_laws_FnWalksOnwardOfAll_T
  by_cases hbig : (decide ((10000 : Int) < (a5.length : Int)) || decide ((10000 : Int) < (a8.length : Int))) = true
  · rw [if_pos hbig]
  · rw [if_neg hbig]
    have hL2 : ∀ W H a b hs q, Gd W H hs → WalkN W H hs a b q → a5 = zs q → go_laws_FnWalksOnwardOfAll_L2 k a0 a1 a2 a3 a4 a5 a6 a7 a8 a9 a10 (zs (numsN (W * H) q), (true, ())) (0 : Int) = some true := fun W H a b hs q hg hq e5 => by
      have hq64 := hq.len64
      subst e5
      unfold go_laws_FnWalksOnwardOfAll_L2
      refine iter_path (F := fun rec65 x64 => go_laws_FnWalksOnwardOfAll_L2_G k a0 a1 a2 a3 a4 (zs q) a6 a7 a8 a9 a10 (zs (numsN (W * H) q), (true, ())) rec65 x64) (fun i => (i : Int)) q.length rfl (by unfold K0 at hk; omega) (fun i hi rec => ?_) (fun rec => ?_)
      · unfold go_laws_FnWalksOnwardOfAll_L2_G
        have e1 : decide ((i : Int) < (q.length : Int)) = true := by simpa using hi
        obtain ⟨f1, f2⟩ := hq.inv.fw i hi
        simp only [zs_length, e1, if_true, inb_lt hi, Int.toNat_natCast, zs_getD, numsN_length, inb_lt f1, f2, wsucc (show i < 9223372036854775807 by omega), decide_true, Bool.not_true, Bool.false_eq_true, if_false]
      · unfold go_laws_FnWalksOnwardOfAll_L2_G
        have e1 : decide ((q.length : Int) < (q.length : Int)) = false := by simp
        simp only [zs_length, e1, Bool.false_eq_true, if_false]
        exact tailW_eq hk a6 a7 a8 a9 a10
    have hL1 : ∀ W H a b hs q, Gd W H hs → WalkN W H hs a b q → a5 = zs q → go_laws_FnWalksOnwardOfAll_L1 k a0 a1 a2 a3 a4 a5 a6 a7 a8 a9 a10 (zs (numsN (W * H) q), (true, ())) (0 : Int) = some true := fun W H a b hs q hg hq e5 => by
      have hq64 := hq.len64
      subst e5
      unfold go_laws_FnWalksOnwardOfAll_L1
      refine iter_path (F := fun rec25 x24 => go_laws_FnWalksOnwardOfAll_L1_G k a0 a1 a2 a3 a4 (zs q) a6 a7 a8 a9 a10 (zs (numsN (W * H) q), (true, ())) rec25 x24) (fun i => (i : Int)) q.length rfl (by unfold K0 at hk; omega) (fun i hi rec => ?_) (fun rec => ?_)
      · unfold go_laws_FnWalksOnwardOfAll_L1_G
        have e1 : decide ((i : Int) < (q.length : Int)) = true := by simpa using hi
        obtain ⟨f1, f2⟩ := hq.inv.fw i hi
        simp only [zs_length, e1, if_true, inb_lt hi, Int.toNat_natCast, zs_getD, numsN_length, inb_lt f1, f2, wsucc (show i < 9223372036854775807 by omega), decide_true, Bool.not_true, Bool.false_eq_true, if_false]
      · unfold go_laws_FnWalksOnwardOfAll_L1_G
        have e1 : decide ((q.length : Int) < (q.length : Int)) = false := by simp
        simp only [zs_length, e1, Bool.false_eq_true, if_false]
        exact tailW_eq hk a6 a7 a8 a9 a10
    rcases onward_cases hk a0 a1 a2 with ⟨h1, h2⟩ | ⟨W, H, a, b, hs, r, rfl, rfl, hg, hG, hr, hst, hall, h1, h2⟩
    · have hs : go_laws_ySame k [] [] = some true := ySame_self hk (by simp)
      rw [h1, h2]
      simp only [Option.bind_some, bne_self_eq_false, Bool.not_false, if_true, hs, Bool.not_true, Bool.or_self, Bool.false_eq_true, if_false]
      exact mid_eq hk hL2
    · have h1r := hr.len1
      have h64 := hr.len64
      have hs' : go_laws_ySame k (zs r) (zs r) = some true := ySame_self hk (by rw [zs_length]; omega)
      have hw : go_impl_IsWalk k (bd W H hs) (ld a b) (zs r) = some (true, (true, ())) := by
        unfold go_impl_IsWalk
        rw [hG]
        simp only [Option.bind_some, Bool.not_true, Bool.false_eq_true, if_false, isWalk_eq hk hg, hr.walkB]
      have hlast := hr.toPathN.hasJ (show r.length - 1 < r.length by omega)
      have hlt := hasW_lt hlast
      have hll := leaps_len (a := a) (b := b) hg (r.getD (r.length - 1) 0)
      have hlf : go_impl_LeapsFrom k (bd W H hs) (ld a b) ((r.getD (r.length - 1) 0 : Nat) : Int) = some (zs (leaps W H hs a b (r.getD (r.length - 1) 0)), (true, ())) := by
        unfold go_impl_LeapsFrom
        rw [hG]
        simp only [Option.bind_some, Bool.not_true, Bool.not_false, if_true, has_eq hk hg, hasI_nat, hlast, Bool.or_self, Bool.false_eq_true, if_false, Option.isSome_some, Option.getD_some, gW_near, near_length, inb_lt hlt, Int.toNat_natCast, near_get hlast, CloneW_eq (show (zs (leaps W H hs a b (r.getD (r.length - 1) 0))).length ≤ 1099511627776 by rw [zs_length]; omega)]
      have hst' : decide (((r.getD 0 0 : Nat) : Int) = a2) = true := decide_eq_true hst
      rw [h1, h2]
      simp only [Option.bind_some, bne_self_eq_false, Bool.not_false, if_true, hs', Bool.not_true, Bool.or_self, Bool.false_eq_true, if_false, hw, zs_length, lastZ h1r (show r.length ≤ 1000 by omega), inb_lt (show r.length - 1 < r.length by omega), Int.toNat_natCast, zs_getD, hlf, show inb (0 : Int) r.length = inb ((0 : Nat) : Int) r.length from rfl, inb_lt (show 0 < r.length by omega), Bool.or_true, Int.toNat_zero, hst']
      generalize leaps W H hs a b (r.getD (r.length - 1) 0) = l at hall hll
      unfold go_laws_FnWalksOnwardOfAll_L0
      refine iter_path (F := fun rec10 x9 => go_laws_FnWalksOnwardOfAll_L0_G k (bd W H hs) (ld a b) a2 a3 a4 a5 a6 a7 a8 a9 a10 (zs r, (true, ())) (zs l, (true, ())) (fun c0 y => go_laws_FnWalksOnwardOfAll_L1 k (bd W H hs) (ld a b) a2 a3 a4 a5 a6 a7 a8 a9 a10 c0 y) rec10 x9) (fun i => (i : Int)) l.length rfl (by unfold K0 at hk; omega) (fun i hi rec => ?_) (fun rec => ?_)
      · unfold go_laws_FnWalksOnwardOfAll_L0_G
        have e1 : decide ((i : Int) < (l.length : Int)) = true := by simpa using hi
        have hin : l.getD i 0 ∈ r := hall _ (by rw [List.getD_eq_getElem?_getD, List.getElem?_eq_getElem hi]; exact List.getElem_mem _)
        simp only [zs_length, e1, if_true, inb_lt hi, Int.toNat_natCast, zs_getD, yHas_eq hk (show r.length ≤ 1048576 by omega), hin, decide_true, Option.bind_some, Bool.not_true, Bool.false_eq_true, if_false, wsucc (show i < 9223372036854775807 by omega)]
      · unfold go_laws_FnWalksOnwardOfAll_L0_G
        have e1 : decide ((l.length : Int) < (l.length : Int)) = false := by simp
        simp only [zs_length, e1, Bool.false_eq_true, if_false]
        exact mid_eq hk hL1

end Go.Lg
