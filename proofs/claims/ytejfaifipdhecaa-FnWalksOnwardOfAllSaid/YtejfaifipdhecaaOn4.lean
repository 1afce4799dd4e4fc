/-
  Plain law: the program and the reference find the same walk of numbers; and forbid the same by colours.
-/
import Derived.Test.YtejfaifipdhecaaOn3
set_option linter.unusedVariables false
set_option linter.unusedSimpArgs false
namespace Go.Lg
open Go.RowKit Go.IntWalk

variable {k : Nat}

def FR : List Int × (Bool × Unit) := ([], (false, ()))

def cntI (l : List Int) (i : Nat) : Nat := (l.take i).countP fun x => decide (0 < x)
theorem cntI_succ {l : List Int} {i : Nat} (hi : i < l.length) : cntI l (i + 1) = cntI l i + if 0 < l.getD i 0 then 1 else 0 := by
  unfold cntI
  rw [List.take_succ_eq_append_getElem hi, List.countP_append, List.getD_eq_getElem?_getD, List.getElem?_eq_getElem hi]
  simp only [List.countP_cons, List.countP_nil, Option.getD_some]
  by_cases h : 0 < l[i] <;> simp [h]
theorem cntI_le (l : List Int) (i : Nat) : cntI l i ≤ l.length := by
  have h1 : cntI l i ≤ (l.take i).length := List.countP_le_length
  have h2 := List.length_take_le' i l
  omega
theorem cntI_zs (z : List Nat) : cntI (zs z) z.length = z.countP fun x => decide (0 < x) := by
  unfold cntI
  rw [List.take_of_length_le (by rw [zs_length]; exact Nat.le_refl _)]
  unfold zs
  rw [List.countP_map]
  refine List.countP_congr fun x _ => ?_
  simp [Function.comp]

section
variable {W H a b : Nat} {hs : List Nat}

theorem fill_set (n i : Nat) (h : i < n) : (List.replicate i (-1 : Int) ++ List.replicate (n - i) 0).set i (-1) = List.replicate (i + 1) (-1) ++ List.replicate (n - (i + 1)) 0 := by
  rw [List.set_append_right _ _ (by rw [List.length_replicate]; exact Nat.le_refl _), List.length_replicate, Nat.sub_self]
  obtain ⟨m, hm⟩ : ∃ m, n - i = m + 1 := ⟨n - i - 1, by omega⟩
  rw [hm, List.replicate_succ, List.set_cons_zero, show n - (i + 1) = m by omega, List.replicate_succ']
  simp

theorem pI_start (z : List Nat) (n : Nat) : pI z n 0 = List.replicate n (-1) := by
  unfold pI
  simp only [lastI]
  rw [List.map_const', List.length_range]
theorem pS_start (z : List Nat) (n : Nat) : pS z n 0 = List.replicate n 0 := by
  unfold pS
  simp only [lastC]
  rw [List.map_const', List.length_range]

theorem implWN2 (hk : K0 ≤ k) (hg : Gd W H hs) {z : List Nat} {n : Nat} (hz : z.length ≤ 64) (hn : n ≤ 64) (hm : ∀ c, z.getD c 0 ≤ 64) (r1 : Option GT × (Bool × Unit)) (hr : r1.1 = some (graph W H hs a b)) (N : Int) :
    go_impl_WalkOfNumbers_L2 k (bd W H hs) (ld a b) (zs z) r1 ((n : Int), N) ((0 : Int), List.replicate n (-1)) = some (if dup z n z.length = true then FR else if walkB W H hs a b (pI z n z.length) = true then (pI z n z.length, (true, ())) else FR) := by
  unfold go_impl_WalkOfNumbers_L2
  have := iter_first (F := fun rec19 x18 => go_impl_WalkOfNumbers_L2_G k (bd W H hs) (ld a b) (zs z) r1 ((n : Int), N) rec19 x18) (fun c => ((c : Int), pI z n c)) z.length (fun c => decide (0 < z.getD c 0) && (decide (n < z.getD c 0) || decide (0 ≤ lastI z (z.getD c 0) c))) (yes := some FR) (no := some (if walkB W H hs a b (pI z n z.length) = true then (pI z n z.length, (true, ())) else FR)) (m := k) (x0 := ((0 : Int), List.replicate n (-1))) (by rw [pI_start]; rfl) (by unfold K0 at hk; omega)
    (fun c hc _ rec => by
      unfold go_impl_WalkOfNumbers_L2_G
      have e1 : decide ((c : Int) < (z.length : Int)) = true := by simpa using hc
      have hv := hm c
      simp only [zs_length, e1, if_true, inb_lt hc, Int.toNat_natCast, zs_getD, wsucc (show c < 9223372036854775807 by omega)]
      by_cases h0 : z.getD c 0 = 0
      · have e2 : decide (((z.getD c 0 : Nat) : Int) = 0) = true := decide_eq_true (by omega)
        have e3 : decide (0 < z.getD c 0) = false := decide_eq_false (by omega)
        simp only [e2, e3, if_true, Bool.false_and, Bool.false_eq_true, if_false, pI_zero z n c h0]
      · have e2 : decide (((z.getD c 0 : Nat) : Int) = 0) = false := decide_eq_false (by omega)
        have e3 : decide (0 < z.getD c 0) = true := decide_eq_true (by omega)
        have e4 : decide ((n : Int) < ((z.getD c 0 : Nat) : Int)) = decide (n < z.getD c 0) := by rw [decide_eq_decide]; omega
        simp only [e2, e3, e4, Bool.false_eq_true, if_false, Bool.true_and, wpred (show z.getD c 0 < 9223372036854775807 by omega) (show 0 < z.getD c 0 by omega), pI_len]
        by_cases hbig : n < z.getD c 0
        · simp only [hbig, decide_true, Bool.not_true, Bool.not_false, Bool.true_or, if_true]
          rfl
        · have e5 := pI_getD z c (show z.getD c 0 - 1 < n by omega)
          rw [show z.getD c 0 - 1 + 1 = z.getD c 0 by omega] at e5
          simp only [hbig, decide_false, inb_lt (show z.getD c 0 - 1 < n by omega), Bool.or_true, Bool.false_or, if_true, Int.toNat_natCast, e5, pI_set z n c (by omega)]
          cases decide (0 ≤ lastI z (z.getD c 0) c) <;> rfl)
    (fun _ rec => by
      unfold go_impl_WalkOfNumbers_L2_G
      have e1 : decide ((z.length : Int) < (z.length : Int)) = false := by simp
      simp only [zs_length, e1, Bool.false_eq_true, if_false, hr, isWalk_eq hk hg, Option.bind_some]
      cases walkB W H hs a b (pI z n z.length) <;> rfl)
  refine Eq.trans this ?_
  show (if dup z n z.length = true then _ else _) = _
  cases dup z n z.length <;> rfl

theorem specWN2 (hk : K0 ≤ k) (hg : Gd W H hs) {z : List Nat} {n : Nat} (hz : z.length ≤ 64) (hn : n ≤ 64) (hm : ∀ c, z.getD c 0 ≤ 64) (hz0 : n ≤ z.length) (N : Int) :
    go_spec_WalkOfNumbers_L1 k (bd W H hs) (ld a b) (zs z) ((n : Int), N) ((0 : Int), List.replicate n 0) = some (if big z n z.length = true then FR else if miss z n z.length = true then FR else if walkB W H hs a b (zs (pS z n z.length)) = true then (zs (pS z n z.length), (true, ())) else FR) := by
  have last : go_spec_WalkOfNumbers_L2 k (bd W H hs) (ld a b) (zs z) ((z.length : Int), zs (pS z n z.length)) (0 : Int) = some (if miss z n z.length = true then FR else if walkB W H hs a b (zs (pS z n z.length)) = true then (zs (pS z n z.length), (true, ())) else FR) := by
    unfold go_spec_WalkOfNumbers_L2
    have := iter_first (F := fun rec18 x17 => go_spec_WalkOfNumbers_L2_G k (bd W H hs) (ld a b) (zs z) ((z.length : Int), zs (pS z n z.length)) rec18 x17) (fun j => (j : Int)) n (fun j => !decide (z.getD (lastC z (j + 1) z.length) 0 = j + 1)) (yes := some FR) (no := some (if walkB W H hs a b (zs (pS z n z.length)) = true then (zs (pS z n z.length), (true, ())) else FR)) (m := k) (x0 := (0 : Int)) rfl (by unfold K0 at hk; omega)
      (fun j hj _ rec => by
        unfold go_spec_WalkOfNumbers_L2_G
        have e1 : decide ((j : Int) < (n : Int)) = true := by simpa using hj
        have hl : lastC z (j + 1) z.length < z.length := by
          rcases last_cases z (j + 1) z.length with ⟨_, h2, _⟩ | ⟨c, h1, _, h3, _⟩
          · rw [h2]; omega
          · rw [h3]; exact h1
        have e2 : decide (((z.getD (lastC z (j + 1) z.length) 0 : Nat) : Int) = ((j + 1 : Nat) : Int)) = decide (z.getD (lastC z (j + 1) z.length) 0 = j + 1) := by rw [decide_eq_decide]; omega
        simp only [zs_length, pS_len, e1, if_true, inb_lt hj, Int.toNat_natCast, zs_getD, pS_getD _ _ hj, inb_lt hl, wsucc (show j < 9223372036854775807 by omega), e2]
        rfl)
      (fun _ rec => by
        unfold go_spec_WalkOfNumbers_L2_G
        have e1 : decide ((n : Int) < (n : Int)) = false := by simp
        simp only [zs_length, pS_len, e1, Bool.false_eq_true, if_false, toWalk_eq hk hg, Option.bind_some]
        cases walkB W H hs a b (zs (pS z n z.length)) <;> rfl)
    refine Eq.trans this ?_
    show (if miss z n z.length = true then _ else _) = _
    cases miss z n z.length <;> rfl
  unfold go_spec_WalkOfNumbers_L1
  have := iter_first (F := fun rec14 x13 => go_spec_WalkOfNumbers_L1_G k (bd W H hs) (ld a b) (zs z) ((n : Int), N) (fun c0 y => go_spec_WalkOfNumbers_L2 k (bd W H hs) (ld a b) (zs z) c0 y) rec14 x13) (fun c => ((c : Int), zs (pS z n c))) z.length (fun c => decide (n < z.getD c 0)) (yes := some FR) (no := some (if miss z n z.length = true then FR else if walkB W H hs a b (zs (pS z n z.length)) = true then (zs (pS z n z.length), (true, ())) else FR)) (m := k) (x0 := ((0 : Int), List.replicate n 0)) (by rw [pS_start, repl_zs]; rfl) (by unfold K0 at hk; omega)
    (fun c hc _ rec => by
      unfold go_spec_WalkOfNumbers_L1_G
      have e1 : decide ((c : Int) < (z.length : Int)) = true := by simpa using hc
      have hv := hm c
      have e4 : decide ((n : Int) < ((z.getD c 0 : Nat) : Int)) = decide (n < z.getD c 0) := by rw [decide_eq_decide]; omega
      simp only [zs_length, e1, if_true, inb_lt hc, Int.toNat_natCast, zs_getD, wsucc (show c < 9223372036854775807 by omega), e4]
      by_cases hbig : n < z.getD c 0
      · simp only [hbig, decide_true, if_true]
        rfl
      · simp only [hbig, decide_false, Bool.false_eq_true, if_false]
        by_cases h0 : z.getD c 0 = 0
        · have e2 : decide ((0 : Int) < ((z.getD c 0 : Nat) : Int)) = false := decide_eq_false (by omega)
          simp only [e2, Bool.false_eq_true, if_false, pS_zero z n c h0]
        · have e2 : decide ((0 : Int) < ((z.getD c 0 : Nat) : Int)) = true := decide_eq_true (by omega)
          simp only [e2, if_true, wpred (show z.getD c 0 < 9223372036854775807 by omega) (show 0 < z.getD c 0 by omega), pS_len, inb_lt (show z.getD c 0 - 1 < n by omega), Int.toNat_natCast, zs_set, pS_set z n c (by omega)])
    (fun _ rec => by
      unfold go_spec_WalkOfNumbers_L1_G
      have e1 : decide ((z.length : Int) < (z.length : Int)) = false := by simp
      simp only [zs_length, e1, Bool.false_eq_true, if_false, last])
  refine Eq.trans this ?_
  show (if big z n z.length = true then _ else _) = _
  cases big z n z.length <;> rfl

theorem numsN_le {q : List Nat} {N : Nat} (h : NumInv N (numsN N q) q) (hq : q.length ≤ N) (i : Nat) : (numsN N q).getD i 0 ≤ N := by
  by_cases hi : i < N
  · rcases h.bw i hi with e | ⟨_, e, _⟩ <;> omega
  · rw [getD_out (by rw [h.len]; omega)]; omega

theorem WalkN.leN {q : List Nat} (hq : WalkN W H hs a b q) : q.length ≤ W * H := length_le_of_nodup hq.nodup fun c hc => hasW_lt (hq.has c hc)

theorem wn_eq (hk : K0 ≤ k) (hg : Gd W H hs) (h1 : go_spec_boTwo k (bd W H hs) (ld a b) = some true) (h2 : go_impl_graphOf k (bd W H hs) (ld a b) = some (some (graph W H hs a b), (true, ()))) (l : List Int) :
    (go_impl_WalkOfNumbers k (bd W H hs) (ld a b) l = some FR ∧ go_spec_WalkOfNumbers k (bd W H hs) (ld a b) l = some FR ∧ ∀ q, WalkN W H hs a b q → l ≠ zs (numsN (W * H) q)) ∨
    (∃ q z, WalkN W H hs a b q ∧ l = zs z ∧ NumInv (W * H) z q ∧ go_impl_WalkOfNumbers k (bd W H hs) (ld a b) l = some (zs q, (true, ())) ∧ go_spec_WalkOfNumbers k (bd W H hs) (ld a b) l = some (zs q, (true, ()))) := by
  have h64 := hg.n64
  have w1 : (bd W H hs).1 = (W : Int) := rfl
  have w2 : (bd W H hs).2.1 = (H : Int) := rfl
  unfold go_impl_WalkOfNumbers go_impl_WalkOfNumbers_T go_spec_WalkOfNumbers go_spec_WalkOfNumbers_T
  rw [h1, h2]
  simp only [Option.bind_some, Bool.not_true, Bool.false_or, w1, w2, wWH hg]
  by_cases hlen : l.length = W * H
  · have e0 : decide ((l.length : Int) = ((W * H : Nat) : Int)) = true := decide_eq_true (by omega)
    simp only [e0, Bool.not_true, Bool.false_eq_true, if_false, Bool.not_false, if_true, l1All_eq hk (show l.length ≤ 1048576 by omega), Option.bind_some]
    have hI : ∀ r1 : Option GT × (Bool × Unit), go_impl_WalkOfNumbers_L0 k (bd W H hs) (ld a b) l r1 ((0 : Int), (0 : Int)) = if (List.range l.length).any (fun i => decide (l.getD i 0 < 0) || decide ((l.length : Int) < l.getD i 0)) = true then some FR else go_impl_WalkOfNumbers_L1 k (bd W H hs) (ld a b) l r1 ((cntI l l.length : Int), (l.length : Int)) ((0 : Int), List.replicate (cntI l l.length) 0) := fun r1 => by
      unfold go_impl_WalkOfNumbers_L0
      refine iter_first (F := fun rec7 x6 => go_impl_WalkOfNumbers_L0_G k (bd W H hs) (ld a b) l r1 (fun c0 c1 y => go_impl_WalkOfNumbers_L1 k (bd W H hs) (ld a b) l c0 c1 y) rec7 x6) (fun i => ((cntI l i : Int), (i : Int))) l.length _ rfl (by unfold K0 at hk; omega)
        (fun i hi _ rec => ?_) (fun _ rec => ?_)
      · unfold go_impl_WalkOfNumbers_L0_G
        have e1 : decide ((i : Int) < (l.length : Int)) = true := by simpa using hi
        have hc := cntI_le l i
        simp only [e1, if_true, inb_lt hi, Int.toNat_natCast, wsucc (show i < 9223372036854775807 by omega), wsucc (show cntI l i < 9223372036854775807 by omega), cntI_succ hi]
        by_cases hp : 0 < l.getD i 0
        · simp only [hp, decide_true, if_true]; rfl
        · simp only [hp, decide_false, Bool.false_eq_true, if_false, Nat.add_zero]; rfl
      · unfold go_impl_WalkOfNumbers_L0_G
        have e1 : decide ((l.length : Int) < (l.length : Int)) = false := by simp
        have hc := cntI_le l l.length
        have e2 : decide ((0 : Int) ≤ (cntI l l.length : Int) ∧ (cntI l l.length : Int) ≤ (LIM : Int)) = true := by rw [decide_eq_true_eq]; unfold LIM; omega
        simp only [e1, Bool.false_eq_true, if_false, e2, if_true, Int.toNat_natCast]
    rw [hI]
    by_cases hall : ∀ i, i < l.length → (0 : Int) ≤ l.getD i 0 ∧ l.getD i 0 ≤ (l.length : Int)
    · have hany : (List.range l.length).any (fun i => decide (l.getD i 0 < 0) || decide ((l.length : Int) < l.getD i 0)) = false := by
        rw [List.any_eq_false]
        intro i hi
        have := hall i (List.mem_range.1 hi)
        simp only [Bool.or_eq_true, decide_eq_true_eq]
        omega
      rw [decide_eq_true hall]
      simp only [hany, Bool.false_eq_true, if_false, Bool.not_true]
      obtain ⟨z, rfl⟩ := zs_of_nonneg (l := l) (fun x hx => by
        obtain ⟨i, hi⟩ := List.getElem?_of_mem hx
        have := (hall i (length_lt hi)).1
        rw [List.getD_eq_getElem?_getD, hi, Option.getD_some] at this
        exact this)
      rw [zs_length] at hlen hall
      have hz64 : ∀ c, z.getD c 0 ≤ 64 := fun c => by
        by_cases hc : c < z.length
        · have := (hall c hc).2
          rw [zs_getD] at this
          omega
        · rw [getD_out (by omega)]; omega
      have hcl := cntI_le (zs z) z.length
      rw [zs_length] at hcl
      have hcz := cntI_zs z
      simp only [zs_length]
      generalize hn : cntI (zs z) z.length = n at hcl hcz
      have hI1 : ∀ r1 : Option GT × (Bool × Unit), go_impl_WalkOfNumbers_L1 k (bd W H hs) (ld a b) (zs z) r1 ((n : Int), (z.length : Int)) ((0 : Int), List.replicate n 0) = go_impl_WalkOfNumbers_L2 k (bd W H hs) (ld a b) (zs z) r1 ((n : Int), (z.length : Int)) ((0 : Int), List.replicate n (-1)) := fun r1 => by
        unfold go_impl_WalkOfNumbers_L1
        refine iter_path (F := fun rec13 x12 => go_impl_WalkOfNumbers_L1_G k (bd W H hs) (ld a b) (zs z) r1 ((n : Int), (z.length : Int)) (fun c0 c1 y => go_impl_WalkOfNumbers_L2 k (bd W H hs) (ld a b) (zs z) c0 c1 y) rec13 x12) (fun i => ((i : Int), List.replicate i (-1 : Int) ++ List.replicate (n - i) 0)) n (by simp) (by unfold K0 at hk; omega) (fun i hi rec => ?_) (fun rec => ?_)
        · unfold go_impl_WalkOfNumbers_L1_G
          have e1 : decide ((i : Int) < (n : Int)) = true := by simpa using hi
          simp only [Int.toNat_natCast, List.length_replicate, e1, if_true, List.length_append, show i + (n - i) = n by omega, inb_lt hi, wsucc (show i < 9223372036854775807 by omega), fill_set n i hi]
        · unfold go_impl_WalkOfNumbers_L1_G
          have e1 : decide ((n : Int) < (n : Int)) = false := by simp
          simp only [Int.toNat_natCast, List.length_replicate, e1, Bool.false_eq_true, if_false, Nat.sub_self, List.replicate_zero, List.append_nil]
      have hS0 : go_spec_WalkOfNumbers_L0 k (bd W H hs) (ld a b) (zs z) ((0 : Int), (0 : Int)) = go_spec_WalkOfNumbers_L1 k (bd W H hs) (ld a b) (zs z) ((n : Int), (z.length : Int)) ((0 : Int), List.replicate n 0) := by
        unfold go_spec_WalkOfNumbers_L0
        refine iter_path (F := fun rec8 x7 => go_spec_WalkOfNumbers_L0_G k (bd W H hs) (ld a b) (zs z) (fun c0 y => go_spec_WalkOfNumbers_L1 k (bd W H hs) (ld a b) (zs z) c0 y) rec8 x7) (fun i => ((cntI (zs z) i : Int), (i : Int))) z.length rfl (by unfold K0 at hk; omega) (fun i hi rec => ?_) (fun rec => ?_)
        · unfold go_spec_WalkOfNumbers_L0_G
          have hi' : i < (zs z).length := by rw [zs_length]; exact hi
          have e1 : decide ((i : Int) < (z.length : Int)) = true := by simpa using hi
          have hc := cntI_le (zs z) i
          rw [zs_length] at hc
          simp only [zs_length, e1, if_true, inb_lt hi, Int.toNat_natCast, wsucc (show i < 9223372036854775807 by omega), wsucc (show cntI (zs z) i < 9223372036854775807 by omega), cntI_succ hi']
          by_cases hp : 0 < (zs z).getD i 0
          · simp only [hp, decide_true, if_true]
          · simp only [hp, decide_false, Bool.false_eq_true, if_false, Nat.add_zero]
        · unfold go_spec_WalkOfNumbers_L0_G
          have e1 : decide ((z.length : Int) < (z.length : Int)) = false := by simp
          have e2 : decide ((0 : Int) ≤ (n : Int) ∧ (n : Int) ≤ (LIM : Int)) = true := by rw [decide_eq_true_eq]; unfold LIM; omega
          simp only [zs_length, e1, Bool.false_eq_true, if_false, hn, e2, if_true, Int.toNat_natCast]
      rw [hI1, implWN2 hk hg (show z.length ≤ 64 by omega) (show n ≤ 64 by omega) hz64 _ rfl, hS0, specWN2 hk hg (show z.length ≤ 64 by omega) (show n ≤ 64 by omega) hz64 hcl]
      cases hd : dup z n z.length with
      | true =>
        refine .inl ⟨rfl, ?_, fun q hq e => ?_⟩
        · cases hb : big z n z.length with
          | true => rfl
          | false =>
            have := dup_iff_miss (n := n) rfl hcz hb
            rw [← this, hd]
            rfl
        · have e := zs_inj e
          have hi := hq.inv
          rw [← e] at hi
          have := hi.no_dup hcz
          rw [← hlen, hd] at this
          cases this
      | false =>
        obtain ⟨hb, _⟩ := dup_false hd
        have hm := dup_iff_miss (n := n) rfl hcz hb
        obtain ⟨i1, i2⟩ := inv_of (n := n) rfl hcz hd
        rw [hb, ← hm, hd, i2]
        simp only [Bool.false_eq_true, if_false]
        cases hw : walkB W H hs a b (zs (pS z n z.length)) with
        | true =>
          obtain ⟨q, hq1, hq2⟩ := walkB_walk hw
          have e := zs_inj hq1
          rw [hlen] at i1 e
          rw [e] at i1
          refine .inr ⟨q, z, hq2, rfl, i1, ?_, ?_⟩
          · rw [hq1]; rfl
          · rw [hq1]; rfl
        | false =>
          refine .inl ⟨rfl, rfl, fun q hq e => ?_⟩
          have e := zs_inj e
          have hi := hq.inv
          rw [← e] at hi
          rw [hlen] at i1 hw
          have := hi.uniq_p i1
          rw [← this, hq.walkB] at hw
          cases hw
    · have hany : (List.range l.length).any (fun i => decide (l.getD i 0 < 0) || decide ((l.length : Int) < l.getD i 0)) = true := by
        cases hx : (List.range l.length).any (fun i => decide (l.getD i 0 < 0) || decide ((l.length : Int) < l.getD i 0)) with
        | true => rfl
        | false =>
          rw [List.any_eq_false] at hx
          exact absurd (fun i hi => by
            have := hx i (List.mem_range.2 hi)
            simp only [Bool.or_eq_true, decide_eq_true_eq] at this
            omega) hall
      rw [decide_eq_false hall, hany]
      refine .inl ⟨rfl, rfl, fun q hq e => hall fun i hi => ?_⟩
      have := numsN_le hq.inv hq.leN i
      rw [hlen, e, zs_getD]
      omega
  · have e0 : decide ((l.length : Int) = ((W * H : Nat) : Int)) = false := decide_eq_false (by omega)
    simp only [e0, Bool.not_false, if_true, Bool.not_true, Bool.false_eq_true, if_false, Option.bind_some, Bool.true_or]
    refine .inl ⟨rfl, rfl, fun q hq e => hlen ?_⟩
    rw [e, zs_length, numsN_length]

end

/-- Walks of numbers, in all cases. -/
theorem wn_same (hk : K0 ≤ k) (B : BT) (L : LT) (l : List Int) :
    (go_impl_WalkOfNumbers k B L l = some FR ∧ go_spec_WalkOfNumbers k B L l = some FR) ∨
    (∃ q, go_impl_WalkOfNumbers k B L l = some (zs q, (true, ())) ∧ go_spec_WalkOfNumbers k B L l = some (zs q, (true, ())) ∧ go_impl_NumbersOfWalk k B L (zs q) = some (l, (true, ())) ∧ q.length ≤ 64 ∧ l.length ≤ 64) := by
  rcases two_casesJ hk B L with ⟨h1, h2⟩ | ⟨h1, W, H, a, b, hs, rfl, rfl, hg, hG, hL, hab, hb1, hb5, h2⟩
  · unfold go_impl_WalkOfNumbers go_impl_WalkOfNumbers_T go_spec_WalkOfNumbers go_spec_WalkOfNumbers_T
    rw [h1, h2]
    exact .inl ⟨rfl, rfl⟩
  · rcases wn_eq hk hg h1 h2 l with ⟨e1, e2, _⟩ | ⟨q, z, hq, rfl, hi, e1, e2⟩
    · exact .inl ⟨e1, e2⟩
    · refine .inr ⟨q, e1, e2, ?_, hq.len64, by rw [zs_length, hi.len]; exact hg.n64⟩
      unfold go_impl_NumbersOfWalk
      rw [h2]
      simp only [Option.bind_some, Bool.not_true, Bool.not_false, if_true, isWalk_eq hk hg, hq.walkB, Bool.or_self, Bool.false_eq_true, if_false, numbers_eq hk hg hq]
      rw [hi.uniq_z hq.inv]

/-- The numbers of a walk yield the walk. -/
theorem wn_back {W H a b : Nat} {hs : List Nat} (hk : K0 ≤ k) (hg : Gd W H hs) (h1 : go_spec_boTwo k (bd W H hs) (ld a b) = some true) (h2 : go_impl_graphOf k (bd W H hs) (ld a b) = some (some (graph W H hs a b), (true, ()))) {q : List Nat} (hq : WalkN W H hs a b q) :
    go_impl_WalkOfNumbers k (bd W H hs) (ld a b) (zs (numsN (W * H) q)) = some (zs q, (true, ())) := by
  rcases wn_eq hk hg h1 h2 (zs (numsN (W * H) q)) with ⟨_, _, h⟩ | ⟨q', z, hq', e, hi, e1, _⟩
  · exact absurd rfl (h q hq)
  · have := zs_inj e
    rw [← this] at hi
    rw [e1, hq.inv.uniq_p hi]

end Go.Lg
