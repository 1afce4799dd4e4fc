/-
  Plain law: paths and walks.
-/
import Derived.Test.YtejfaifipdhecaaPl7
import Derived.Test.YtejfaifipdhecaaGenW
set_option linter.unusedVariables false
set_option linter.unusedSimpArgs false
namespace Go.Lg
open Go.RowKit Go.IntWalk

variable {k : Nat}

/-- A loop that ends where a test fails for the first time. -/
theorem iter_first {A α : Type} {F : (α → Option A) → α → Option A} {x0 : α} (mk : Nat → α) (n : Nat) (bad : Nat → Bool) {yes no : Option A} {m : Nat} (hx : x0 = mk 0) (hm : n < m)
    (step : ∀ i, i < n → (∀ j, j < i → bad j = false) → ∀ rec, F rec (mk i) = if bad i = true then yes else rec (mk (i + 1)))
    (exit : (∀ j, j < n → bad j = false) → ∀ rec, F rec (mk n) = no) : iter m F x0 = if (List.range n).any bad = true then yes else no := by
  subst hx
  have : ∀ d j, n - j = d → j ≤ n → (∀ i, i < j → bad i = false) → ∀ m, d < m → iter m F (mk j) = if (List.range n).any bad = true then yes else no := by
    intro d
    induction d with
    | zero =>
      intro j hd hj hb m hm
      obtain rfl : j = n := by omega
      cases m with
      | zero => omega
      | succ m =>
        have : (List.range j).any bad = false := by
          rw [List.any_eq_false]
          intro i hi
          simp [hb i (List.mem_range.1 hi)]
        rw [if_neg (by rw [this]; decide)]
        exact exit hb _
    | succ d ih =>
      intro j hd hj hb m hm
      cases m with
      | zero => omega
      | succ m =>
        show F (iter m F) (mk j) = _
        rw [step j (by omega) hb]
        cases hbj : bad j with
        | true =>
          rw [if_pos rfl, if_pos (List.any_eq_true.2 ⟨j, List.mem_range.2 (by omega), hbj⟩)]
        | false =>
          rw [if_neg (by decide)]
          exact ih (j + 1) (by omega) (by omega) (fun i hi => by
            by_cases h : i = j
            · rw [h]; exact hbj
            · exact hb i (by omega)) m (by omega)
  exact this n 0 (by omega) (Nat.zero_le _) (fun i hi => by omega) m hm

section
variable {W H a b : Nat} {hs : List Nat}

theorem gW_cells : (graph W H hs a b).2.2.1 = zs (cells W H hs) := rfl
theorem gW_near : (graph W H hs a b).2.2.2.1 = near W H hs a b := rfl
theorem hasW_lt {c : Nat} (h : hasN W H hs c = true) : c < W * H := by simp [hasN] at h; exact h.1

theorem leapsW_eq (hk : K0 ≤ k) (hg : Gd W H hs) {c d : Nat} (hc : hasN W H hs c = true) (hd : hasN W H hs d = true) : go_impl_graph_leaps k (some (graph W H hs a b)) (c : Int) (d : Int) = some (adj W a b c d) := by
  have hcN := hasW_lt hc
  have h64 := hg.n64
  have hl : (leaps W H hs a b c).length ≤ 1048576 := by
    have h1 := List.length_filter_le (fun d => adj W a b c d) (cells W H hs)
    have h2 := cells_length (W := W) (H := H) (hs := hs)
    have h3 : (leaps W H hs a b c).length ≤ (cells W H hs).length := h1
    omega
  unfold go_impl_graph_leaps
  simp only [Option.isSome_some, if_true, Option.getD_some, gW_near, near_length, inb_lt hcN, Int.toNat_natCast, near_get hc, Contains_eq hk hl, Option.bind_some]
  congr 1
  rw [Bool.eq_iff_iff, decide_eq_true_eq, mem_leaps]
  simp [hd]

theorem hasI_some {c : Int} (h : hasI W H hs c = true) : c = (c.toNat : Int) ∧ hasN W H hs c.toNat = true := by
  simp only [hasI, Bool.and_eq_true, decide_eq_true_eq] at h
  exact ⟨by omega, h.2⟩

/-- The cell at a place is none of the board, or one cannot leap there. -/
def badP (W H : Nat) (hs : List Nat) (a b : Nat) (p : List Int) (i : Nat) : Bool := !(hasI W H hs (p.getD i 0) && (decide (i = 0) || adj W a b (p.getD (i - 1) 0).toNat (p.getD i 0).toNat))

structure PathN (W H : Nat) (hs : List Nat) (a b : Nat) (q : List Nat) : Prop where
  len1 : 1 ≤ q.length
  len64 : q.length ≤ 64
  has : ∀ c ∈ q, hasN W H hs c = true
  adj : ∀ i, i + 1 < q.length → adj W a b (q.getD i 0) (q.getD (i + 1) 0) = true

def pathB (W H : Nat) (hs : List Nat) (a b : Nat) (p : List Int) : Bool := decide (1 ≤ p.length) && (decide (p.length ≤ 64) && !(List.range p.length).any (badP W H hs a b p))

theorem pathB_path {p : List Int} (h : pathB W H hs a b p = true) : ∃ q, p = zs q ∧ PathN W H hs a b q := by
  simp only [pathB, Bool.and_eq_true, decide_eq_true_eq, Bool.not_eq_true', List.any_eq_false] at h
  obtain ⟨h1, h2, h3⟩ := h
  have hp : ∀ i, i < p.length → hasI W H hs (p.getD i 0) = true ∧ (i = 0 ∨ Go.Lg.adj W a b (p.getD (i - 1) 0).toNat (p.getD i 0).toNat = true) := fun i hi => by
    have := h3 i (List.mem_range.2 hi)
    simp only [badP, Bool.not_eq_true, Bool.not_eq_false', Bool.and_eq_true, Bool.or_eq_true, decide_eq_true_eq] at this
    exact this
  obtain ⟨q, rfl⟩ := zs_of_nonneg (l := p) (fun x hx => by
    obtain ⟨i, hi⟩ := List.getElem?_of_mem hx
    have hlt := length_lt hi
    have := (hp i hlt).1
    rw [List.getD_eq_getElem?_getD, hi, Option.getD_some] at this
    have := (hasI_some this).1
    omega)
  rw [zs_length] at h1 h2 hp
  refine ⟨q, rfl, h1, h2, fun c hc => ?_, fun i hi => ?_⟩
  · obtain ⟨i, hi⟩ := List.getElem?_of_mem hc
    have := (hp i (length_lt hi)).1
    rw [zs_get hi, hasI_nat] at this
    exact this
  · rcases (hp (i + 1) hi).2 with h | h
    · omega
    · rw [Nat.add_sub_cancel, zs_getD, zs_getD, Int.toNat_natCast, Int.toNat_natCast] at h
      exact h

theorem isPath_eq (hk : K0 ≤ k) (hg : Gd W H hs) (p : List Int) : go_impl_graph_isPath k (some (graph W H hs a b)) p = some (pathB W H hs a b p) := by
  unfold go_impl_graph_isPath go_impl_graph_isPath_T pathB
  by_cases h1 : 1 ≤ p.length
  · by_cases h2 : p.length ≤ 64
    · rw [if_neg (by simp only [Bool.or_eq_true, decide_eq_true_eq]; omega)]
      unfold go_impl_graph_isPath_L0
      have := iter_first (F := fun rec6 x5 => go_impl_graph_isPath_L0_G k (some (graph W H hs a b)) p rec6 x5) (fun i => (i : Int)) p.length (badP W H hs a b p) (yes := some false) (no := some true) (m := k) (x0 := (0 : Int)) rfl (by unfold K0 at hk; omega)
        (fun i hi hprev rec => by
          unfold go_impl_graph_isPath_L0_G
          have e1 : decide ((i : Int) < (p.length : Int)) = true := by simpa using hi
          have hG1 : (graph W H hs a b).1 = bd W H hs := rfl
          simp only [e1, inb_lt hi, if_true, Int.toNat_natCast, Option.isSome_some, Option.getD_some, hG1, has_eq hk hg, Option.bind_some, wsucc (show i < 9223372036854775807 by omega)]
          cases hh : hasI W H hs (p.getD i 0) with
          | false =>
            have : badP W H hs a b p i = true := by simp only [badP, hh]; rfl
            simp [this]
          | true =>
            rcases Nat.eq_zero_or_pos i with h0 | h0
            · subst h0
              have : badP W H hs a b p 0 = false := by simp only [badP, hh]; rfl
              simp [this]
            · have e2 : decide ((0 : Int) < (i : Int)) = true := by simpa using h0
              have hpr := hprev (i - 1) (by omega)
              simp only [badP, Bool.not_eq_false', Bool.and_eq_true] at hpr
              obtain ⟨c1, c2⟩ := hasI_some hpr.1
              obtain ⟨d1, d2⟩ := hasI_some hh
              have hlp := leapsW_eq (k := k) (a := a) (b := b) hk hg c2 d2
              rw [← c1, ← d1] at hlp
              have hbad : badP W H hs a b p i = !Go.Lg.adj W a b (p.getD (i - 1) 0).toNat (p.getD i 0).toNat := by
                have : decide (i = 0) = false := by simp; omega
                simp only [badP, hh, this, Bool.true_and, Bool.false_or]
              simp only [e2, Bool.not_true, Bool.not_false, Bool.true_and, wpred (show i < 9223372036854775807 by omega) h0, inb_lt (show i - 1 < p.length by omega), Bool.or_true, if_true, Int.toNat_natCast, hlp, Option.bind_some, Bool.false_or, hbad])
        (fun _ rec => by
          unfold go_impl_graph_isPath_L0_G
          rw [if_neg (by simp)])
      refine Eq.trans this ?_
      cases (List.range p.length).any (badP W H hs a b p) <;> simp [h1, h2]
    · rw [if_pos (by simp only [Bool.or_eq_true, decide_eq_true_eq]; omega)]
      simp [h2]
  · rw [if_pos (by simp only [Bool.or_eq_true, decide_eq_true_eq]; omega)]
    simp [h1]

theorem boPath_eq (hk : K0 ≤ k) (hg : Gd W H hs) (p : List Int) : go_spec_boPath k (bd W H hs) (ld a b) p = some (pathB W H hs a b p) := by
  have h64 := hg.n64
  unfold go_spec_boPath go_spec_boPath_T pathB
  simp only [l1In_eq, Option.bind_some]
  by_cases h1 : 1 ≤ p.length
  · by_cases h2 : p.length ≤ 64
    · rw [if_neg (by simp; omega)]
      unfold go_spec_boPath_L0
      have := iter_first (F := fun rec7 x6 => go_spec_boPath_L0_G k (bd W H hs) (ld a b) p rec7 x6) (fun i => (i : Int)) p.length (badP W H hs a b p) (yes := some false) (no := some true) (m := k) (x0 := (0 : Int)) rfl (by unfold K0 at hk; omega)
        (fun i hi hprev rec => by
          unfold go_spec_boPath_L0_G
          have e1 : decide ((i : Int) < (p.length : Int)) = true := by simpa using hi
          simp only [e1, inb_lt hi, if_true, Int.toNat_natCast, boHas_eq hk hg, Option.bind_some, wsucc (show i < 9223372036854775807 by omega)]
          cases hh : hasI W H hs (p.getD i 0) with
          | false =>
            have : badP W H hs a b p i = true := by simp only [badP, hh]; rfl
            simp [this]
          | true =>
            rcases Nat.eq_zero_or_pos i with h0 | h0
            · subst h0
              have : badP W H hs a b p 0 = false := by simp only [badP, hh]; rfl
              simp [this]
            · have e2 : decide ((0 : Int) < (i : Int)) = true := by simpa using h0
              have hpr := hprev (i - 1) (by omega)
              simp only [badP, Bool.not_eq_false', Bool.and_eq_true] at hpr
              obtain ⟨c1, c2⟩ := hasI_some hpr.1
              obtain ⟨d1, d2⟩ := hasI_some hh
              have hcl := hasW_lt c2
              have hdl := hasW_lt d2
              have hlp := boIs_eq (k := k) (a := a) (b := b) hg (show (p.getD (i - 1) 0).toNat ≤ 1000 by omega) (show (p.getD i 0).toNat ≤ 1000 by omega)
              rw [← c1, ← d1] at hlp
              have hbad : badP W H hs a b p i = !Go.Lg.adj W a b (p.getD (i - 1) 0).toNat (p.getD i 0).toNat := by
                have : decide (i = 0) = false := by simp; omega
                simp only [badP, hh, this, Bool.true_and, Bool.false_or]
              simp only [e2, Bool.not_true, Bool.not_false, Bool.true_and, wpred (show i < 9223372036854775807 by omega) h0, inb_lt (show i - 1 < p.length by omega), Bool.or_true, if_true, Int.toNat_natCast, hlp, Option.bind_some, Bool.false_or, hbad])
        (fun _ rec => by
          unfold go_spec_boPath_L0_G
          rw [if_neg (by simp)])
      refine Eq.trans this ?_
      cases (List.range p.length).any (badP W H hs a b p) <;> simp [h1, h2]
    · rw [if_pos (by simp; omega)]
      simp [h2]
  · rw [if_pos (by simp; omega)]
    simp [h1]

structure WalkN (W H : Nat) (hs : List Nat) (a b : Nat) (q : List Nat) : Prop extends PathN W H hs a b q where
  nodup : q.Nodup

def seenB (q : List Nat) (i : Nat) : Bool := decide (q.getD i 0 ∈ q.take i)

theorem nodup_seen {q : List Nat} (h : ∀ i, i < q.length → seenB q i = false) : q.Nodup := by
  rw [List.Nodup, List.pairwise_iff_getElem]
  intro i j hi hj hij e
  have := h j hj
  simp only [seenB, decide_eq_false_iff_not, List.getD_eq_getElem?_getD, List.getElem?_eq_getElem hj, Option.getD_some] at this
  refine this ?_
  rw [← e, List.mem_iff_getElem?]
  exact ⟨i, by rw [List.getElem?_take_of_lt hij, List.getElem?_eq_getElem hi]⟩

def walkB (W H : Nat) (hs : List Nat) (a b : Nat) (p : List Int) : Bool := pathB W H hs a b p && !(List.range p.length).any (seenB (p.map Int.toNat))

theorem toNat_zs (q : List Nat) : (zs q).map Int.toNat = q := by
  unfold zs
  rw [List.map_map]
  conv => rhs; rw [← List.map_id q]
  exact List.map_congr_left fun _ _ => rfl

theorem walkB_walk {p : List Int} (h : walkB W H hs a b p = true) : ∃ q, p = zs q ∧ WalkN W H hs a b q := by
  simp only [walkB, Bool.and_eq_true, Bool.not_eq_true', List.any_eq_false] at h
  obtain ⟨h1, h2⟩ := h
  obtain ⟨q, rfl, hq⟩ := pathB_path h1
  rw [toNat_zs, zs_length] at h2
  exact ⟨q, rfl, hq, nodup_seen fun i hi => by have := h2 i (List.mem_range.2 hi); simpa using this⟩

theorem zs_take (q : List Nat) (i : Nat) : (zs q).take i = zs (q.take i) := by simp [zs, List.map_take]
theorem zs_drop (q : List Nat) (i : Nat) : (zs q).drop i = zs (q.drop i) := by simp [zs, List.map_drop]

theorem isWalk_eq (hk : K0 ≤ k) (hg : Gd W H hs) (p : List Int) : go_impl_graph_isWalk k (some (graph W H hs a b)) p = some (walkB W H hs a b p) := by
  unfold go_impl_graph_isWalk go_impl_graph_isWalk_T walkB
  rw [isPath_eq hk hg]
  simp only [Option.bind_some]
  cases hp : pathB W H hs a b p with
  | false => rfl
  | true =>
    obtain ⟨q, rfl, hq⟩ := pathB_path hp
    have hq64 := hq.len64
    rw [if_neg (by decide)]
    unfold go_impl_graph_isWalk_L0
    have := iter_first (F := fun rec6 x5 => go_impl_graph_isWalk_L0_G k (some (graph W H hs a b)) (zs q) rec6 x5) (fun i => (i : Int)) q.length (seenB q) (yes := some false) (no := some true) (m := k) (x0 := (0 : Int)) rfl (by unfold K0 at hk; omega)
      (fun i hi hprev rec => by
        unfold go_impl_graph_isWalk_L0_G
        have e1 : decide ((i : Int) < (q.length : Int)) = true := by simpa using hi
        have e2 : decide ((0 : Int) ≤ (0 : Int) ∧ (0 : Int) ≤ (i : Int) ∧ (i : Int) ≤ (q.length : Int)) = true := by simp; omega
        simp only [zs_length, e1, e2, inb_lt hi, if_true, Int.toNat_natCast, Int.toNat_zero, List.drop_zero, zs_take, zs_getD, Contains_eq hk (show (q.take i).length ≤ 1048576 by rw [List.length_take]; omega), Option.bind_some, wsucc (show i < 9223372036854775807 by omega)]
        rfl)
      (fun _ rec => by
        unfold go_impl_graph_isWalk_L0_G
        rw [if_neg (by simp)])
    refine Eq.trans this ?_
    rw [toNat_zs, zs_length]
    cases (List.range q.length).any (seenB q) <;> rfl

theorem toWalk_eq (hk : K0 ≤ k) (hg : Gd W H hs) (p : List Int) : go_spec_toWalk k (bd W H hs) (ld a b) p = some (walkB W H hs a b p) := by
  unfold go_spec_toWalk go_spec_toWalk_T walkB
  rw [boPath_eq hk hg]
  simp only [Option.bind_some]
  cases hp : pathB W H hs a b p with
  | false => rfl
  | true =>
    obtain ⟨q, rfl, hq⟩ := pathB_path hp
    have hq64 := hq.len64
    rw [if_neg (by decide)]
    unfold go_spec_toWalk_L0
    have := iter_first (F := fun rec6 x5 => go_spec_toWalk_L0_G k (bd W H hs) (ld a b) (zs q) rec6 x5) (fun i => (i : Int)) q.length (seenB q) (yes := some false) (no := some true) (m := k) (x0 := (0 : Int)) rfl (by unfold K0 at hk; omega)
      (fun i hi hprev rec => by
        unfold go_spec_toWalk_L0_G
        have e1 : decide ((i : Int) < (q.length : Int)) = true := by simpa using hi
        have e2 : decide ((0 : Int) ≤ (0 : Int) ∧ (0 : Int) ≤ (i : Int) ∧ (i : Int) ≤ (q.length : Int)) = true := by simp; omega
        simp only [zs_length, e1, e2, inb_lt hi, if_true, Int.toNat_natCast, Int.toNat_zero, List.drop_zero, zs_take, zs_getD, l1Has_eq hk (show (q.take i).length ≤ 1048576 by rw [List.length_take]; omega), Option.bind_some, wsucc (show i < 9223372036854775807 by omega)]
        rfl)
      (fun _ rec => by
        unfold go_spec_toWalk_L0_G
        rw [if_neg (by simp)])
    refine Eq.trans this ?_
    rw [toNat_zs, zs_length]
    cases (List.range q.length).any (seenB q) <;> rfl

theorem l1Own_eq {l : List Int} (hl : l.length ≤ 1099511627776) : go_spec_l1Own k l = some l := by
  unfold go_spec_l1Own
  rw [if_pos (by simpa [LIM] using hl)]
  rfl

theorem CloneW_eq {l : List Int} (hl : l.length ≤ 1099511627776) : go_slices_Clone_int k l = some l := by
  unfold go_slices_Clone_int
  cases l with
  | nil => simp [both, LIM]
  | cons x l =>
    simp only [List.isEmpty_cons, Bool.false_eq_true, if_false, List.length_nil, Nat.zero_add, lim_le hl, if_true, List.nil_append]

theorem closes_eq (hk : K0 ≤ k) (hg : Gd W H hs) {q : List Nat} (hq : PathN W H hs a b q) : go_impl_graph_closes k (some (graph W H hs a b)) (zs q) = some (decide (3 ≤ q.length) && adj W a b (q.getD (q.length - 1) 0) (q.getD 0 0)) := by
  have h1 := hq.len1
  have h64 := hq.len64
  have hm : ∀ i, i < q.length → hasN W H hs (q.getD i 0) = true := fun i hi => by
    rw [List.getD_eq_getElem?_getD, List.getElem?_eq_getElem hi]
    exact hq.has _ (List.getElem_mem hi)
  have e3 : decide ((3 : Int) ≤ (q.length : Int)) = decide (3 ≤ q.length) := by rw [decide_eq_decide]; omega
  unfold go_impl_graph_closes
  simp only [zs_length, wpred (show q.length < 9223372036854775807 by omega) h1, inb_lt (show q.length - 1 < q.length by omega), inb_lt (show 0 < q.length by omega), show inb (0 : Int) q.length = inb ((0 : Nat) : Int) q.length from rfl, Bool.or_true, if_true, Int.toNat_natCast, Int.toNat_zero, zs_getD, e3, leapsW_eq hk hg (hm (q.length - 1) (by omega)) (hm 0 (by omega))]
  cases h : decide (3 ≤ q.length) <;> simp

end
end Go.Lg
