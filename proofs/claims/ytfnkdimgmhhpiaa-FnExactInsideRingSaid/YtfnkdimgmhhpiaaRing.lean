/-
  Plain law: rings.
-/
import Derived.Test.YtfnkdimgmhhpiaaCr2
set_option linter.unusedVariables false
set_option linter.unusedSimpArgs false
namespace Go.Lg
open Go.RowKit Go.IntWalk

variable {k : Nat}

theorem SpecX_symm {ax ay bx bz cx cy dx dy : Int} : SpecX ax ay bx bz cx cy dx dy ↔ SpecX cx cy dx dy ax ay bx bz := by
  have key : ∀ {ax ay bx bz cx cy dx dy : Int}, SpecX ax ay bx bz cx cy dx dy → SpecX cx cy dx dy ax ay bx bz := by
    intro ax ay bx bz cx cy dx dy h
    unfold SpecX at h ⊢
    rcases h with (⟨⟨h1, h2⟩, h3, h4⟩ | ⟨⟨h1, h2⟩, h3, h4⟩) | h | h | h | h | ⟨h1, h2⟩
    · exact .inl (.inl ⟨⟨h1.symm, h2.symm⟩, h3.symm, h4.symm⟩)
    · exact .inl (.inr ⟨⟨h3.symm, h4.symm⟩, h1.symm, h2.symm⟩)
    · exact .inr (.inr (.inr (.inl h)))
    · exact .inr (.inr (.inr (.inr (.inl h))))
    · exact .inr (.inl h)
    · exact .inr (.inr (.inl h))
    · exact .inr (.inr (.inr (.inr (.inr ⟨h2, h1⟩))))
  exact ⟨key, key⟩

theorem crX_symm (W p q r s : Nat) : crX W p q r s = crX W r s p q := by
  unfold crX
  rw [decide_eq_decide]
  exact SpecX_symm

theorem getD_snoc_lt {q : List Nat} {x i : Nat} (h : i < q.length) : (q ++ [x]).getD i 0 = q.getD i 0 := by
  rw [List.getD_eq_getElem?_getD, List.getElem?_append_left h, ← List.getD_eq_getElem?_getD]
theorem getD_snoc_eq {q : List Nat} {x : Nat} : (q ++ [x]).getD q.length 0 = x := by
  rw [List.getD_eq_getElem?_getD, List.getElem?_append_right (Nat.le_refl _)]
  simp

theorem crRow_snoc {W : Nat} {q : List Nat} {x i : Nat} (h : i < q.length) : crRow W (q ++ [x]) i = crRow W q i := by
  unfold crRow
  rcases Nat.eq_zero_or_pos i with h0 | h0
  · subst h0; rfl
  · refine List.countP_congr fun t ht => ?_
    have := List.mem_range.1 ht
    rw [getD_snoc_lt h, getD_snoc_lt (show i - 1 < q.length by omega), getD_snoc_lt (show t < q.length by omega), getD_snoc_lt (show t + 1 < q.length by omega)]

theorem crTo_snoc {W : Nat} {q : List Nat} {x : Nat} : ∀ i, i ≤ q.length → crTo W (q ++ [x]) i = crTo W q i
  | 0, _ => rfl
  | i + 1, h => by rw [crTo_succ, crTo_succ, crTo_snoc i (by omega), crRow_snoc (by omega)]

/-- With one leap more. -/
theorem crN_snoc {W : Nat} {q : List Nat} {x : Nat} (h : 1 ≤ q.length) : crN W (q ++ [x]) = crN W q + (List.range (q.length - 1)).countP fun t => crX W (q.getD t 0) (q.getD (t + 1) 0) (q.getD (q.length - 1) 0) x := by
  unfold crN
  rw [List.length_append, List.length_singleton, crTo_succ, crTo_snoc _ (Nat.le_refl _)]
  congr 1
  unfold crRow
  refine List.countP_congr fun t ht => ?_
  have := List.mem_range.1 ht
  rw [getD_snoc_eq, getD_snoc_lt (show q.length - 1 < q.length by omega), getD_snoc_lt (show t < q.length by omega), getD_snoc_lt (show t + 1 < q.length by omega), crX_symm]

section
variable {W H a b : Nat} {hs : List Nat}

/-- Whether a list is a ring. -/
def ringB (W H : Nat) (hs : List Nat) (a b : Nat) (p : List Int) : Bool :=
  (decide (3 ≤ p.length) && decide (p.length ≤ 16)) && (walkB W H hs a b p && (adj W a b (p.getD (p.length - 1) 0).toNat (p.getD 0 0).toNat && decide (crN W (p.map Int.toNat ++ [(p.getD 0 0).toNat]) = 0)))

structure RingN (W H : Nat) (hs : List Nat) (a b : Nat) (q : List Nat) : Prop extends WalkN W H hs a b q where
  len3 : 3 ≤ q.length
  len16 : q.length ≤ 16
  close : Go.Lg.adj W a b (q.getD (q.length - 1) 0) (q.getD 0 0) = true

theorem ringB_ring {p : List Int} (h : ringB W H hs a b p = true) : ∃ q, p = zs q ∧ RingN W H hs a b q := by
  simp only [ringB, Bool.and_eq_true, decide_eq_true_eq] at h
  obtain ⟨⟨h1, h2⟩, h3, h4, _⟩ := h
  obtain ⟨q, rfl, hq⟩ := walkB_walk h3
  rw [zs_length] at h1 h2 h4
  rw [zs_getD, zs_getD, Int.toNat_natCast, Int.toNat_natCast] at h4
  exact ⟨q, rfl, hq, h1, h2, h4⟩

theorem rings_eq (hk : K0 ≤ k) (hg : Gd W H hs) (hab : a ≤ b) (hb1 : 1 ≤ b) {q : List Nat} (hq : PathN W H hs a b q) (h3 : 3 ≤ q.length) :
    go_impl_graph_rings k (some (graph W H hs a b)) (zs q) = some (adj W a b (q.getD (q.length - 1) 0) (q.getD 0 0) && decide ((List.range (q.length - 1)).countP (fun t => crX W (q.getD t 0) (q.getD (t + 1) 0) (q.getD (q.length - 1) 0) (q.getD 0 0)) = 0)) := by
  have hl := hq.len64
  have hbd := hq.bd hg
  have hq1 := fun i => getD_bd hbd i
  unfold go_impl_graph_rings go_impl_graph_rings_T
  rw [closes_eq hk hg hq, decide_eq_true h3]
  simp only [Option.bind_some, Bool.true_and]
  cases hc : adj W a b (q.getD (q.length - 1) 0) (q.getD 0 0) with
  | false => rfl
  | true =>
    simp only [Bool.not_true, Bool.false_eq_true, if_false, zs_length, wpred (show q.length < 9223372036854775807 by omega) (by omega), inb_lt (show q.length - 1 < q.length by omega), if_true, Bool.true_and]
    unfold go_impl_graph_rings_L0
    have := iter_first (F := fun rec6 x5 => go_impl_graph_rings_L0_G k (some (graph W H hs a b)) (zs q) rec6 x5) (fun t => ((t + 1 : Nat) : Int)) (q.length - 1) (fun t => crX W (q.getD t 0) (q.getD (t + 1) 0) (q.getD (q.length - 1) 0) (q.getD 0 0)) (yes := some false) (no := some true) (m := k) (x0 := (1 : Int)) rfl (by unfold K0 at hk; omega)
      (fun t ht _ rec => by
        unfold go_impl_graph_rings_L0_G
        have e1 : decide (((t + 1 : Nat) : Int) < (q.length : Int)) = true := by simp; omega
        simp only [zs_length, e1, if_true, wpred (show t + 1 < 9223372036854775807 by omega) (Nat.succ_pos t), Nat.add_sub_cancel, inb_lt (show t < q.length by omega), inb_lt (show t + 1 < q.length by omega), show inb (0 : Int) q.length = inb ((0 : Nat) : Int) q.length from rfl, inb_lt (show 0 < q.length by omega), wpred (show q.length < 9223372036854775807 by omega) (show 0 < q.length by omega), Int.toNat_natCast, Int.toNat_zero, zs_getD, cross_eq hg (hq1 t) (hq1 (t + 1)) (hq1 (q.length - 1)) (hq1 0) (hq.ne hab hb1 t (by omega)) (adj_ne hab hb1 hc), Option.bind_some, wsucc (show t + 1 < 9223372036854775807 by omega)])
      (fun _ rec => by
        unfold go_impl_graph_rings_L0_G
        rw [if_neg (by simp; omega)])
    refine Eq.trans this ?_
    cases h : (List.range (q.length - 1)).any (fun t => crX W (q.getD t 0) (q.getD (t + 1) 0) (q.getD (q.length - 1) 0) (q.getD 0 0)) with
    | true =>
      rw [if_pos rfl]
      obtain ⟨t, h1, h2⟩ := List.any_eq_true.1 h
      have : 0 < (List.range (q.length - 1)).countP (fun t => crX W (q.getD t 0) (q.getD (t + 1) 0) (q.getD (q.length - 1) 0) (q.getD 0 0)) := List.countP_pos_iff.2 ⟨t, h1, h2⟩
      rw [decide_eq_false (by omega)]
    | false =>
      rw [if_neg (by decide)]
      rw [List.any_eq_false] at h
      rw [decide_eq_true (List.countP_eq_zero.2 fun t ht => h t ht)]

theorem isRing_eq (hk : K0 ≤ k) (hg : Gd W H hs) (hab : a ≤ b) (hb1 : 1 ≤ b) (p : List Int) : go_impl_graph_isRing k (some (graph W H hs a b)) p = some (ringB W H hs a b p) := by
  have e3 : decide ((3 : Int) ≤ (p.length : Int)) = decide (3 ≤ p.length) := by rw [decide_eq_decide]; omega
  have e16 : decide ((p.length : Int) ≤ (16 : Int)) = decide (p.length ≤ 16) := by rw [decide_eq_decide]; omega
  unfold go_impl_graph_isRing ringB
  rw [e3, e16, isWalk_eq hk hg]
  cases hl : decide (3 ≤ p.length) && decide (p.length ≤ 16) with
  | false => rfl
  | true =>
    simp only [Bool.and_eq_true, decide_eq_true_eq] at hl
    simp only [if_true, Option.bind_some, Bool.true_and]
    cases hw : walkB W H hs a b p with
    | false => rfl
    | true =>
      obtain ⟨q, rfl, hq⟩ := walkB_walk hw
      rw [zs_length] at hl
      have h64 := hq.len64
      simp only [if_true, Option.bind_some, Bool.true_and, crossings_eq hk hg hq.len1 (by omega) (hq.toPathN.bd hg) (hq.toPathN.ne hab hb1), rings_eq hk hg hab hb1 hq.toPathN hl.1, zs_length, zs_getD, Int.toNat_natCast, toNat_zs, crN_snoc hq.len1]
      have e0 : decide ((crN W q : Int) = 0) = decide (crN W q = 0) := by rw [decide_eq_decide]; omega
      rw [e0]
      by_cases h0 : crN W q = 0
      · simp only [h0, decide_true, if_true, Option.bind_some, Bool.true_and, Nat.zero_add]
      · have : ∀ n, decide (crN W q + n = 0) = false := fun n => by simp; omega
        simp [h0, this]

theorem crRing_eq (hk : K0 ≤ k) (hg : Gd W H hs) (p : List Int) : go_spec_crRing k (bd W H hs) (ld a b) p = some (ringB W H hs a b p) := by
  have e3 : decide ((3 : Int) ≤ (p.length : Int)) = decide (3 ≤ p.length) := by rw [decide_eq_decide]; omega
  have e16 : decide ((p.length : Int) ≤ (16 : Int)) = decide (p.length ≤ 16) := by rw [decide_eq_decide]; omega
  unfold go_spec_crRing ringB
  rw [l1In_eq, e3, e16, toWalk_eq hk hg]
  simp only [Option.bind_some]
  cases hl : decide (3 ≤ p.length) && decide (p.length ≤ 16) with
  | false => rfl
  | true =>
    simp only [Bool.and_eq_true, decide_eq_true_eq] at hl
    simp only [Bool.not_true, Bool.not_false, if_true, Option.bind_some, Bool.true_and, Bool.false_or]
    cases hw : walkB W H hs a b p with
    | false => rfl
    | true =>
      obtain ⟨q, rfl, hq⟩ := walkB_walk hw
      rw [zs_length] at hl
      have h64 := hq.len64
      have hbd := hq.toPathN.bd hg
      have hq1 := fun i => getD_bd hbd i
      have hi0 : inb (0 : Int) q.length = true := inb_lt (i := 0) (by omega)
      simp only [Bool.not_true, Bool.not_false, if_true, zs_length, wpred (show q.length < 9223372036854775807 by omega) (show 0 < q.length by omega), inb_lt (show q.length - 1 < q.length by omega), hi0, Bool.or_true, Int.toNat_natCast, Int.toNat_zero, zs_getD, boIs_eq hg (hq1 (q.length - 1)) (hq1 0), Option.bind_some, Bool.true_and, toNat_zs, Bool.false_or, l1Own_eq (show (zs q).length ≤ 1099511627776 by rw [zs_length]; omega), List.length_singleton, lim_le (show q.length + 1 ≤ 1099511627776 by omega), zs_single, ← zs_append]
      cases hc : adj W a b (q.getD (q.length - 1) 0) (q.getD 0 0) with
      | false => rfl
      | true =>
        have hb' : ∀ c ∈ q ++ [q.getD 0 0], c ≤ 1000 := fun c hc => by
          rcases List.mem_append.1 hc with h | h
          · exact hbd c h
          · simp only [List.mem_singleton] at h; rw [h]; exact hq1 0
        rw [if_neg (by decide), crCount_eq hk hg (q := q ++ [q.getD 0 0]) (by simp) (by simp; omega) hb']
        simp only [Option.bind_some, Bool.true_and]
        congr 1
        rw [decide_eq_decide]; omega

end

theorem IsRing_same (hk : K0 ≤ k) (B : BT) (L : LT) (p : List Int) : ∃ r, go_spec_IsRing k B L p = some r ∧ go_impl_IsRing k B L p = some r := by
  unfold go_spec_IsRing go_impl_IsRing
  rcases two_cases hk B L with ⟨h1, h2⟩ | ⟨h1, W, H, a, b, hs, rfl, rfl, hg, hG, hL, hab, hb1, hb5, h2⟩
  · rw [h1, h2]; exact ⟨_, rfl, rfl⟩
  · rw [h1, h2]
    simp only [Option.bind_some, Bool.not_true, Bool.false_eq_true, if_false, isRing_eq hk hg hab hb1, crRing_eq hk hg]
    exact ⟨_, rfl, rfl⟩

/-- A ring of a board, or none. -/
theorem ring_cases (hk : K0 ≤ k) (B : BT) (L : LT) (p : List Int) :
    (go_spec_crAsked k B L p = some false ∧ go_impl_ringGraph k B L p = some (none, (false, ()))) ∨
    (∃ (W H a b : Nat) (hs q : List Nat), B = bd W H hs ∧ L = ld a b ∧ p = zs q ∧ Gd W H hs ∧ a ≤ b ∧ 1 ≤ b ∧ b ≤ 5 ∧ RingN W H hs a b q ∧ go_spec_crAsked k B L p = some true ∧ go_impl_ringGraph k B L p = some (some (graph W H hs a b), (true, ()))) := by
  unfold go_spec_crAsked go_impl_ringGraph
  rcases two_cases hk B L with ⟨h1, h2⟩ | ⟨h1, W, H, a, b, hs, rfl, rfl, hg, hG, hL, hab, hb1, hb5, h2⟩
  · rw [h1, h2]; exact .inl ⟨rfl, rfl⟩
  · rw [h1, h2]
    simp only [Option.bind_some, Bool.not_true, Bool.not_false, if_true, isRing_eq hk hg hab hb1, crRing_eq hk hg, Bool.true_and, Bool.false_or]
    cases hr : ringB W H hs a b p with
    | false => exact .inl ⟨rfl, rfl⟩
    | true =>
      obtain ⟨q, rfl, hq⟩ := ringB_ring hr
      exact .inr ⟨W, H, a, b, hs, q, rfl, rfl, rfl, hg, hab, hb1, hb5, hq, rfl, rfl⟩

/-! ### the area -/

def sumN (f : Nat → Int) : Nat → Int
  | 0 => 0
  | n + 1 => sumN f n + f n

theorem sumN_bd {f : Nat → Int} {M : Int} (h : ∀ i, -M ≤ f i ∧ f i ≤ M) : ∀ n : Nat, -(M * n) ≤ sumN f n ∧ sumN f n ≤ M * n
  | 0 => by simp [sumN]
  | n + 1 => by
    obtain ⟨h1, h2⟩ := sumN_bd h n
    obtain ⟨h3, h4⟩ := h n
    have : M * ((n + 1 : Nat) : Int) = M * n + M := by rw [Int.natCast_add, Int.mul_add]; simp
    rw [this]
    unfold sumN
    omega

theorem sumN_congr {f g : Nat → Int} : ∀ {n : Nat}, (∀ i, i < n → f i = g i) → sumN f n = sumN g n
  | 0, _ => rfl
  | n + 1, h => by
    unfold sumN
    rw [sumN_congr fun i hi => h i (by omega), h n (by omega)]

def crs (W : Nat) (p q : Nat) : Int := ((p % W : Nat) : Int) * ((q / W : Nat) : Int) - ((p / W : Nat) : Int) * ((q % W : Nat) : Int)

theorem fan (W : Nat) (q : List Nat) : ∀ t, sumN (fun u => tri ((q.getD 0 0 % W : Nat) : Int) ((q.getD 0 0 / W : Nat) : Int) ((q.getD (u + 1) 0 % W : Nat) : Int) ((q.getD (u + 1) 0 / W : Nat) : Int) ((q.getD (u + 2) 0 % W : Nat) : Int) ((q.getD (u + 2) 0 / W : Nat) : Int)) t = sumN (fun i => crs W (q.getD i 0) (q.getD (i + 1) 0)) (t + 1) - crs W (q.getD 0 0) (q.getD (t + 1) 0)
  | 0 => by
    show (0 : Int) = (0 + crs W (q.getD 0 0) (q.getD 1 0)) - crs W (q.getD 0 0) (q.getD 1 0)
    omega
  | t + 1 => by
    rw [show sumN (fun i => crs W (q.getD i 0) (q.getD (i + 1) 0)) (t + 1 + 1) = sumN (fun i => crs W (q.getD i 0) (q.getD (i + 1) 0)) (t + 1) + crs W (q.getD (t + 1) 0) (q.getD (t + 2) 0) from rfl]
    rw [sumN, fan W q t]
    unfold crs tri
    grind

/-- Twice the area of a ring. -/
def areaN (W : Nat) (q : List Nat) : Int := sumN (fun i => crs W (q.getD i 0) (q.getD ((i + 1) % q.length) 0)) q.length

theorem area_fan {W : Nat} {q : List Nat} (h : 2 ≤ q.length) : sumN (fun u => tri ((q.getD 0 0 % W : Nat) : Int) ((q.getD 0 0 / W : Nat) : Int) ((q.getD (u + 1) 0 % W : Nat) : Int) ((q.getD (u + 1) 0 / W : Nat) : Int) ((q.getD (u + 2) 0 % W : Nat) : Int) ((q.getD (u + 2) 0 / W : Nat) : Int)) (q.length - 2) = areaN W q := by
  rw [fan]
  unfold areaN
  obtain ⟨n, hn⟩ : ∃ n, q.length = n + 2 := ⟨q.length - 2, by omega⟩
  rw [hn]
  rw [show n + 2 - 2 + 1 = n + 1 by omega]
  rw [sumN.eq_def _ (n + 2)]
  simp only
  have e1 : (n + 1 + 1) % (n + 2) = 0 := Nat.mod_self _
  rw [e1, sumN_congr (f := fun i => crs W (q.getD i 0) (q.getD (i + 1) 0)) (g := fun i => crs W (q.getD i 0) (q.getD ((i + 1) % (n + 2)) 0)) (fun i hi => by rw [Nat.mod_eq_of_lt (by omega)])]
  have : crs W (q.getD (n + 1) 0) (q.getD 0 0) = - crs W (q.getD 0 0) (q.getD (n + 1) 0) := by unfold crs; grind
  rw [this]
  omega

theorem prod_bd {x y : Nat} (hx : x ≤ 1000) (hy : y ≤ 1000) : (0 : Int) ≤ (x : Int) * y ∧ (x : Int) * y ≤ 1000000 := by
  have := Nat.mul_le_mul hx hy
  have e : (x : Int) * y = ((x * y : Nat) : Int) := by simp
  rw [e]
  omega

theorem crs_bd {W p q : Nat} (hp : p % W ≤ 1000) (hp' : p / W ≤ 1000) (hq : q % W ≤ 1000) (hq' : q / W ≤ 1000) : -1000000 ≤ crs W p q ∧ crs W p q ≤ 1000000 := by
  have h1 := prod_bd hp hq'
  have h2 := prod_bd hp' hq
  unfold crs
  omega

section
variable {W H a b : Nat} {hs : List Nat}

theorem tri_bd {ax ay bx bz cx cy : Nat} (h1 : ax ≤ 1000) (h2 : ay ≤ 1000) (h3 : bx ≤ 1000) (h4 : bz ≤ 1000) (h5 : cx ≤ 1000) (h6 : cy ≤ 1000) : -2000000 ≤ tri ax ay bx bz cx cy ∧ tri ax ay bx bz cx cy ≤ 2000000 := by
  have e1 := mul_bd (x := (bx : Int) - ax) (y := (cy : Int) - ay) (by omega) (by omega) (by omega) (by omega)
  have e2 := mul_bd (x := (bz : Int) - ay) (y := (cx : Int) - ax) (by omega) (by omega) (by omega) (by omega)
  unfold tri
  omega

theorem area_bd (hg : Gd W H hs) {q : List Nat} (hl : q.length ≤ 100) (hb : ∀ c ∈ q, c ≤ 1000) : -100000000 ≤ areaN W q ∧ areaN W q ≤ 100000000 := by
  have hq := fun i => cell_bd hg (getD_bd hb i)
  have := sumN_bd (f := fun i => crs W (q.getD i 0) (q.getD ((i + 1) % q.length) 0)) (M := 1000000) (fun i => crs_bd (hq i).1 (hq i).2 (hq _).1 (hq _).2) q.length
  unfold areaN
  omega

theorem crArea_eq (hk : K0 ≤ k) (hg : Gd W H hs) {q : List Nat} (h2 : 2 ≤ q.length) (hl : q.length ≤ 100) (hb : ∀ c ∈ q, c ≤ 1000) : go_spec_crArea k (bd W H hs) (zs q) = some (areaN W q) := by
  have hq1 := fun i => getD_bd hb i
  have hqc := fun i => cell_bd hg (hq1 i)
  rw [← area_fan h2]
  have hbd := fun t => sumN_bd (f := fun u => tri ((q.getD 0 0 % W : Nat) : Int) ((q.getD 0 0 / W : Nat) : Int) ((q.getD (u + 1) 0 % W : Nat) : Int) ((q.getD (u + 1) 0 / W : Nat) : Int) ((q.getD (u + 2) 0 % W : Nat) : Int) ((q.getD (u + 2) 0 / W : Nat) : Int)) (M := 2000000) (fun i => tri_bd (hqc 0).1 (hqc 0).2 (hqc _).1 (hqc _).2 (hqc _).1 (hqc _).2) t
  unfold go_spec_crArea go_spec_crArea_T go_spec_crArea_L0
  refine iter_path (F := fun rec8 x7 => go_spec_crArea_L0_G k (bd W H hs) (zs q) rec8 x7) (fun t => (sumN (fun u => tri ((q.getD 0 0 % W : Nat) : Int) ((q.getD 0 0 / W : Nat) : Int) ((q.getD (u + 1) 0 % W : Nat) : Int) ((q.getD (u + 1) 0 / W : Nat) : Int) ((q.getD (u + 2) 0 % W : Nat) : Int) ((q.getD (u + 2) 0 / W : Nat) : Int)) t, ((t + 2 : Nat) : Int))) (q.length - 2) rfl (by unfold K0 at hk; omega) (fun t ht rec => ?_) (fun rec => ?_)
  · unfold go_spec_crArea_L0_G
    have e1 : decide (((t + 2 : Nat) : Int) < (q.length : Int)) = true := by simp; omega
    have hi0 : inb (0 : Int) q.length = true := inb_lt (i := 0) (by omega)
    have hw := hbd (t + 1)
    simp only [sumN] at hw
    simp only [zs_length, e1, if_true, hi0, wpred (show t + 2 < 9223372036854775807 by omega) (by omega), show t + 2 - 1 = t + 1 by omega, inb_lt (show t + 1 < q.length by omega), inb_lt (show t + 2 < q.length by omega), Int.toNat_natCast, Int.toNat_zero, zs_getD, crCross_eq hg (hq1 0) (hq1 (t + 1)) (hq1 (t + 2)), Option.bind_some, wsucc (show t + 2 < 9223372036854775807 by omega)]
    rw [w64 (by omega) (by omega)]
    rfl
  · unfold go_spec_crArea_L0_G
    have e1 : decide (((q.length - 2 + 2 : Nat) : Int) < (q.length : Int)) = false := by simp; omega
    simp only [zs_length, e1, Bool.false_eq_true, if_false]

theorem area_eq (hk : K0 ≤ k) (hg : Gd W H hs) {q : List Nat} (h1 : 1 ≤ q.length) (hl : q.length ≤ 100) (hb : ∀ c ∈ q, c ≤ 1000) : go_impl_Board_area k (bd W H hs) (zs q) = some (areaN W q) := by
  have hq1 := fun i => getD_bd hb i
  have hqc := fun i => cell_bd hg (hq1 i)
  have hbd := fun t => sumN_bd (f := fun i => crs W (q.getD i 0) (q.getD ((i + 1) % q.length) 0)) (M := 1000000) (fun i => crs_bd (hqc i).1 (hqc i).2 (hqc _).1 (hqc _).2) t
  unfold go_impl_Board_area go_impl_Board_area_T go_impl_Board_area_L0
  refine iter_path (F := fun rec10 x9 => go_impl_Board_area_L0_G k (bd W H hs) (zs q) rec10 x9) (fun t => (sumN (fun i => crs W (q.getD i 0) (q.getD ((i + 1) % q.length) 0)) t, (t : Int))) q.length rfl (by unfold K0 at hk; omega) (fun t ht rec => ?_) (fun rec => ?_)
  · unfold go_impl_Board_area_L0_G
    have e1 : decide ((t : Int) < (q.length : Int)) = true := by simpa using ht
    have e2 : decide ((q.length : Int) ≠ 0) = true := decide_eq_true (by omega)
    have hmod := Nat.mod_lt (t + 1) (show 0 < q.length by omega)
    have hw := hbd (t + 1)
    simp only [sumN] at hw
    have hp1 := prod_bd (hqc t).1 (hqc ((t + 1) % q.length)).2
    have hp2 := prod_bd (hqc t).2 (hqc ((t + 1) % q.length)).1
    have c1 : ∀ x y : Nat, (pt x y).1 = (x : Int) := fun _ _ => rfl
    have c2 : ∀ x y : Nat, (pt x y).2.1 = (y : Int) := fun _ _ => rfl
    simp only [zs_length, e1, e2, if_true, inb_lt ht, Int.toNat_natCast, zs_getD, at_eq hg (hq1 t), Option.bind_some, wsucc (show t < 9223372036854775807 by omega), tmod_nat, inb_lt hmod, at_eq hg (hq1 ((t + 1) % q.length)), c1, c2]
    rw [w64 (n := ((q.getD t 0 % W : Nat) : Int) * ((q.getD ((t + 1) % q.length) 0 / W : Nat) : Int)) (by omega) (by omega), w64 (n := ((q.getD t 0 / W : Nat) : Int) * ((q.getD ((t + 1) % q.length) 0 % W : Nat) : Int)) (by omega) (by omega)]
    rw [show ((q.getD t 0 % W : Nat) : Int) * ((q.getD ((t + 1) % q.length) 0 / W : Nat) : Int) - ((q.getD t 0 / W : Nat) : Int) * ((q.getD ((t + 1) % q.length) 0 % W : Nat) : Int) = crs W (q.getD t 0) (q.getD ((t + 1) % q.length) 0) from rfl]
    have hcb := crs_bd (hqc t).1 (hqc t).2 (hqc ((t + 1) % q.length)).1 (hqc ((t + 1) % q.length)).2
    rw [w64 (n := crs W (q.getD t 0) (q.getD ((t + 1) % q.length) 0)) (by omega) (by omega), w64 (by omega) (by omega)]
    rfl
  · unfold go_impl_Board_area_L0_G
    have e1 : decide ((q.length : Int) < (q.length : Int)) = false := by simp
    simp only [zs_length, e1, Bool.false_eq_true, if_false]
    rfl

end

theorem TwiceArea_same (hk : K0 ≤ k) (B : BT) (L : LT) (p : List Int) : ∃ r, go_spec_TwiceArea k B L p = some r ∧ go_impl_TwiceArea k B L p = some r := by
  unfold go_spec_TwiceArea go_impl_TwiceArea
  rcases ring_cases hk B L p with ⟨h1, h2⟩ | ⟨W, H, a, b, hs, q, rfl, rfl, rfl, hg, hab, hb1, hb5, hq, h1, h2⟩
  · rw [h1, h2]; exact ⟨_, rfl, rfl⟩
  · have h3 := hq.len3
    have h16 := hq.len16
    rw [h1, h2]
    simp only [Option.bind_some, Bool.not_true, Bool.false_eq_true, if_false, crArea_eq hk hg (show 2 ≤ q.length by omega) (by omega) (hq.toPathN.bd hg), area_eq hk hg hq.len1 (by omega) (hq.toPathN.bd hg)]
    exact ⟨_, rfl, rfl⟩

/-! ### the greatest common divisor -/

theorem gcd_iter {F : (Int × Int → Option Int) → Int × Int → Option Int} (hF : ∀ rec x, F rec x = if decide ((0 : Int) < x.2) = true then (if decide (x.2 ≠ 0) = true then rec (x.2, Int.tmod x.1 x.2) else none) else some x.1) :
    ∀ (y x m : Nat), y < m → iter m F ((x : Int), (y : Int)) = some (Nat.gcd x y : Int) := by
  intro y
  induction y using Nat.strongRecOn with
  | _ y ih =>
    intro x m hm
    obtain ⟨m, rfl⟩ : ∃ n, m = n + 1 := ⟨m - 1, by omega⟩
    show F (iter m F) ((x : Int), (y : Int)) = _
    rw [hF]
    rcases Nat.eq_zero_or_pos y with h0 | h0
    · subst h0; simp
    · have e1 : decide ((0 : Int) < (y : Int)) = true := by simpa using h0
      have e2 : decide ((y : Int) ≠ 0) = true := by simp; omega
      simp only [e1, e2, if_true, tmod_nat]
      have hlt := Nat.mod_lt x h0
      rw [ih (x % y) hlt y m (by omega)]
      congr 2
      rw [Nat.gcd_comm x y, Nat.gcd_rec y x, Nat.gcd_comm]

theorem crCommon_eq (hk : K0 ≤ k) {a b : Nat} (ha : a ≤ 5) (hb : b ≤ 5) : go_spec_crCommon k (a : Int) (b : Int) = some (Nat.gcd a b : Int) := by
  unfold go_spec_crCommon go_spec_crCommon_T go_spec_crCommon_L0
  exact gcd_iter (F := fun rec6 x5 => go_spec_crCommon_L0_G k (a : Int) (b : Int) rec6 x5) (fun _ _ => rfl) b a k (by unfold K0 at hk; omega)

theorem common_eq (hk : K0 ≤ k) {a b : Nat} (ha : a ≤ 5) (hb : b ≤ 5) : go_impl_common k (a : Int) (b : Int) = some (Nat.gcd a b : Int) := by
  unfold go_impl_common go_impl_common_T go_impl_common_L0
  rw [w64 (n := 0 - (a : Int)) (by omega) (by omega), w64 (n := 0 - (b : Int)) (by omega) (by omega), show max (a : Int) (0 - (a : Int)) = (a : Int) by omega, show max (b : Int) (0 - (b : Int)) = (b : Int) by omega]
  exact gcd_iter (F := fun rec6 x5 => go_impl_common_L0_G k (a : Int) (b : Int) rec6 x5) (fun _ _ => rfl) b a k (by unfold K0 at hk; omega)

theorem PointsOnRing_same (hk : K0 ≤ k) (B : BT) (L : LT) (p : List Int) : ∃ r, go_spec_PointsOnRing k B L p = some r ∧ go_impl_PointsOnRing k B L p = some r := by
  unfold go_spec_PointsOnRing go_impl_PointsOnRing go_spec_crOnRing
  rcases ring_cases hk B L p with ⟨h1, h2⟩ | ⟨W, H, a, b, hs, q, rfl, rfl, rfl, hg, hab, hb1, hb5, hq, h1, h2⟩
  · rw [h1, h2]; exact ⟨_, rfl, rfl⟩
  · have c1 : (ld a b).1 = (a : Int) := rfl
    have c2 : (ld a b).2.1 = (b : Int) := rfl
    rw [h1, h2, c1, c2, crCommon_eq hk (show a ≤ 5 by omega) hb5, common_eq hk (show a ≤ 5 by omega) hb5]
    exact ⟨_, rfl, rfl⟩

theorem l1AbsI_eq {n : Int} (h1 : -1000000000 ≤ n) (h2 : n ≤ 1000000000) : go_spec_l1Abs k n = some (max n (0 - n)) := by
  unfold go_spec_l1Abs go_spec_l1Most
  rw [w64 (by omega) (by omega)]
  by_cases h : 0 - n < n
  · rw [if_pos (by simpa using h)]
    simp only [Option.bind_some]
    congr 1
    omega
  · rw [if_neg (by simpa using h)]
    simp only [Option.bind_some]
    congr 1
    omega

theorem PointsInside_same (hk : K0 ≤ k) (B : BT) (L : LT) (p : List Int) : ∃ r, go_spec_PointsInside k B L p = some r ∧ go_impl_PointsInside k B L p = some r := by
  unfold go_spec_PointsInside go_impl_PointsInside go_spec_crOnRing
  rcases ring_cases hk B L p with ⟨h1, h2⟩ | ⟨W, H, a, b, hs, q, rfl, rfl, rfl, hg, hab, hb1, hb5, hq, h1, h2⟩
  · rw [h1, h2]; exact ⟨_, rfl, rfl⟩
  · have h3 := hq.len3
    have h16 := hq.len16
    have c1 : (ld a b).1 = (a : Int) := rfl
    have c2 : (ld a b).2.1 = (b : Int) := rfl
    have hbd := area_bd hg (q := q) (by omega) (hq.toPathN.bd hg)
    rw [h1, h2, c1, c2, crCommon_eq hk (show a ≤ 5 by omega) hb5, common_eq hk (show a ≤ 5 by omega) hb5]
    simp only [Option.bind_some, Bool.not_true, Bool.false_eq_true, if_false, crArea_eq hk hg (show 2 ≤ q.length by omega) (by omega) (hq.toPathN.bd hg), area_eq hk hg hq.len1 (by omega) (hq.toPathN.bd hg), l1AbsI_eq (k := k) (show -1000000000 ≤ areaN W q by omega) (by omega)]
    rw [w64 (n := 0 - areaN W q) (by omega) (by omega)]
    exact ⟨_, rfl, rfl⟩

end Go.Lg
