/-
  Plain law: the points inside a ring.
-/
import Derived.Test.YtfnkdimgmhhpiaaRing
set_option linter.unusedVariables false
set_option linter.unusedSimpArgs false
namespace Go.Lg
open Go.RowKit Go.IntWalk

variable {k : Nat}

def xorN (f : Nat → Bool) : Nat → Bool
  | 0 => false
  | n + 1 => xor (xorN f n) (f n)
def anyN (f : Nat → Bool) : Nat → Bool
  | 0 => false
  | n + 1 => anyN f n || f n

theorem xorN_front (f : Nat → Bool) : ∀ n, xorN f (n + 1) = xor (f 0) (xorN (fun i => f (i + 1)) n)
  | 0 => by simp [xorN]
  | n + 1 => by rw [xorN, xorN_front f n, xorN]; cases f 0 <;> cases xorN (fun i => f (i + 1)) n <;> cases f (n + 1) <;> rfl
theorem anyN_front (f : Nat → Bool) : ∀ n, anyN f (n + 1) = (f 0 || anyN (fun i => f (i + 1)) n)
  | 0 => by simp [anyN]
  | n + 1 => by rw [anyN, anyN_front f n, anyN, Bool.or_assoc]
theorem xorN_congr {f g : Nat → Bool} : ∀ {n : Nat}, (∀ i, i < n → f i = g i) → xorN f n = xorN g n
  | 0, _ => rfl
  | n + 1, h => by rw [xorN, xorN, xorN_congr fun i hi => h i (by omega), h n (by omega)]
theorem anyN_congr {f g : Nat → Bool} : ∀ {n : Nat}, (∀ i, i < n → f i = g i) → anyN f n = anyN g n
  | 0, _ => rfl
  | n + 1, h => by rw [anyN, anyN, anyN_congr fun i hi => h i (by omega), h n (by omega)]
theorem anyN_range (f : Nat → Bool) : ∀ n, (List.range n).any f = anyN f n
  | 0 => rfl
  | n + 1 => by rw [List.range_succ, List.any_append, anyN_range f n, anyN]; simp

/-- Around a ring, from another start. -/
theorem xorN_rot (E : Nat → Nat → Bool) (n : Nat) (hn : 1 ≤ n) : xorN (fun i => E ((i + n - 1) % n) i) n = xorN (fun i => E i ((i + 1) % n)) n := by
  obtain ⟨m, rfl⟩ : ∃ m, n = m + 1 := ⟨n - 1, by omega⟩
  rw [xorN_front, xorN]
  rw [xorN_congr (f := fun i => E ((i + 1 + (m + 1) - 1) % (m + 1)) (i + 1)) (g := fun i => E i ((i + 1) % (m + 1))) (fun i hi => by
    show E ((i + 1 + (m + 1) - 1) % (m + 1)) (i + 1) = E i ((i + 1) % (m + 1))
    rw [show i + 1 + (m + 1) - 1 = i + (m + 1) by omega, Nat.add_mod_right, Nat.mod_eq_of_lt (show i < m + 1 by omega), Nat.mod_eq_of_lt (show i + 1 < m + 1 by omega)])]
  rw [show 0 + (m + 1) - 1 = m by omega, Nat.mod_eq_of_lt (show m < m + 1 by omega), Nat.mod_self, Bool.xor_comm]
theorem anyN_rot (E : Nat → Nat → Bool) (n : Nat) (hn : 1 ≤ n) : anyN (fun i => E ((i + n - 1) % n) i) n = anyN (fun i => E i ((i + 1) % n)) n := by
  obtain ⟨m, rfl⟩ : ∃ m, n = m + 1 := ⟨n - 1, by omega⟩
  rw [anyN_front, anyN]
  rw [anyN_congr (f := fun i => E ((i + 1 + (m + 1) - 1) % (m + 1)) (i + 1)) (g := fun i => E i ((i + 1) % (m + 1))) (fun i hi => by
    show E ((i + 1 + (m + 1) - 1) % (m + 1)) (i + 1) = E i ((i + 1) % (m + 1))
    rw [show i + 1 + (m + 1) - 1 = i + (m + 1) by omega, Nat.add_mod_right, Nat.mod_eq_of_lt (show i < m + 1 by omega), Nat.mod_eq_of_lt (show i + 1 < m + 1 by omega)])]
  rw [show 0 + (m + 1) - 1 = m by omega, Nat.mod_eq_of_lt (show m < m + 1 by omega), Nat.mod_self, Bool.or_comm]

/-- Whether the line to the right of a point meets a side. -/
def sideX (W p q c : Nat) : Bool :=
  if q / W < p / W then (decide (q / W ≤ c / W) && decide (c / W < p / W)) && decide (0 < tri ((q % W : Nat) : Int) ((q / W : Nat) : Int) ((p % W : Nat) : Int) ((p / W : Nat) : Int) ((c % W : Nat) : Int) ((c / W : Nat) : Int))
  else (decide (p / W ≤ c / W) && decide (c / W < q / W)) && decide (0 < tri ((p % W : Nat) : Int) ((p / W : Nat) : Int) ((q % W : Nat) : Int) ((q / W : Nat) : Int) ((c % W : Nat) : Int) ((c / W : Nat) : Int))

def oddN (W : Nat) (q : List Nat) (c : Nat) : Nat → Bool := xorN fun i => sideX W (q.getD i 0) (q.getD ((i + 1) % q.length) 0) c
def onN (W : Nat) (q : List Nat) (c : Nat) : Nat → Bool := anyN fun i => segX W (q.getD i 0) (q.getD ((i + 1) % q.length) 0) c
/-- Whether a point lies inside a ring. -/
def insB (W : Nat) (q : List Nat) (c : Nat) : Bool := oddN W q c q.length && !onN W q c q.length

section
variable {W H a b : Nat} {hs : List Nat}

theorem lecast (m n : Nat) : decide ((m : Int) ≤ (n : Int)) = decide (m ≤ n) := by rw [decide_eq_decide]; omega
theorem ltcast (m n : Nat) : decide ((m : Int) < (n : Int)) = decide (m < n) := by rw [decide_eq_decide]; omega

theorem within_eq (hk : K0 ≤ k) (hg : Gd W H hs) {q : List Nat} (h1 : 1 ≤ q.length) (hl : q.length ≤ 100) (hb : ∀ c ∈ q, c ≤ 1000) {c : Nat} (hc : c ≤ 1000) :
    go_impl_Board_within k (bd W H hs) (zs q) (pt (c % W) (c / W)) = some (insB W q c) := by
  have hq1 := fun i => getD_bd hb i
  have hqc := fun i => cell_bd hg (hq1 i)
  obtain ⟨c1', c2'⟩ := cell_bd hg hc
  unfold go_impl_Board_within go_impl_Board_within_T go_impl_Board_within_L0
  have := iter_first (F := fun rec16 x15 => go_impl_Board_within_L0_G k (bd W H hs) (zs q) (pt (c % W) (c / W)) rec16 x15) (fun t => (oddN W q c t, (t : Int))) q.length (fun i => segX W (q.getD i 0) (q.getD ((i + 1) % q.length) 0) c) (yes := some false) (no := some (oddN W q c q.length)) (m := k) (x0 := (false, (0 : Int))) rfl (by unfold K0 at hk; omega)
    (fun t ht _ rec => by
      unfold go_impl_Board_within_L0_G
      have e1 : decide ((t : Int) < (q.length : Int)) = true := by simpa using ht
      have e2 : decide ((q.length : Int) ≠ 0) = true := decide_eq_true (by omega)
      have hmod := Nat.mod_lt (t + 1) (show 0 < q.length by omega)
      generalize hj : (t + 1) % q.length = j at hmod
      have p1 : ∀ x y : Nat, (pt x y).1 = (x : Int) := fun _ _ => rfl
      have pe : ∀ x y : Nat, ((x : Int), ((y : Int), ())) = pt x y := fun _ _ => rfl
      have p2 : ∀ x y : Nat, (pt x y).2.1 = (y : Int) := fun _ _ => rfl
      simp only [zs_length, e1, e2, if_true, inb_lt ht, Int.toNat_natCast, zs_getD, at_eq hg (hq1 t), Option.bind_some, wsucc (show t < 9223372036854775807 by omega), tmod_nat, hj, inb_lt hmod, at_eq hg (hq1 j), p1, pe, p2, turn_eq (hqc t).1 (hqc t).2 (hqc j).1 (hqc j).2 c1' c2', turn_eq (hqc j).1 (hqc j).2 (hqc t).1 (hqc t).2 c1' c2', between_eq, ltcast, lecast]
      have hseg : segX W (q.getD t 0) (q.getD j 0) c = (decide (tri ((q.getD t 0 % W : Nat) : Int) ((q.getD t 0 / W : Nat) : Int) ((q.getD j 0 % W : Nat) : Int) ((q.getD j 0 / W : Nat) : Int) ((c % W : Nat) : Int) ((c / W : Nat) : Int) = 0) && decide (betw ((q.getD t 0 % W : Nat) : Int) ((q.getD t 0 / W : Nat) : Int) ((q.getD j 0 % W : Nat) : Int) ((q.getD j 0 / W : Nat) : Int) ((c % W : Nat) : Int) ((c / W : Nat) : Int))) := by
        unfold segX onSeg
        rw [Bool.eq_iff_iff]
        simp only [Bool.and_eq_true, decide_eq_true_eq, betw_iff]
        exact decide_eq_true_iff
      have hodd : oddN W q c (t + 1) = xor (oddN W q c t) (sideX W (q.getD t 0) (q.getD j 0) c) := by
        unfold oddN; rw [xorN, hj]
      rw [hseg, hodd]
      generalize oddN W q c t = X
      unfold sideX
      generalize decide (betw ((q.getD t 0 % W : Nat) : Int) ((q.getD t 0 / W : Nat) : Int) ((q.getD j 0 % W : Nat) : Int) ((q.getD j 0 / W : Nat) : Int) ((c % W : Nat) : Int) ((c / W : Nat) : Int)) = b
      generalize tri ((q.getD t 0 % W : Nat) : Int) ((q.getD t 0 / W : Nat) : Int) ((q.getD j 0 % W : Nat) : Int) ((q.getD j 0 / W : Nat) : Int) ((c % W : Nat) : Int) ((c / W : Nat) : Int) = T
      generalize tri ((q.getD j 0 % W : Nat) : Int) ((q.getD j 0 / W : Nat) : Int) ((q.getD t 0 % W : Nat) : Int) ((q.getD t 0 / W : Nat) : Int) ((c % W : Nat) : Int) ((c / W : Nat) : Int) = U
      have hz : (if decide (T = 0) = true then (some b : Option Bool) else some false).bind (fun r => some (decide (T = 0) && r)) = some (decide (T = 0) && b) := by cases decide (T = 0) <;> rfl
      by_cases h0 : q.getD j 0 / W < q.getD t 0 / W
      · simp only [h0, decide_true, if_true]
        generalize (decide (q.getD j 0 / W ≤ c / W) && decide (c / W < q.getD t 0 / W)) = d
        by_cases hT : T = 0 <;> by_cases hU : 0 < U <;> cases b <;> cases d <;> simp [hT, hU]
      · simp only [h0, decide_false, if_false, Bool.false_eq_true]
        generalize (decide (q.getD t 0 / W ≤ c / W) && decide (c / W < q.getD j 0 / W)) = d
        by_cases hT : T = 0 <;> by_cases hU : 0 < T <;> cases b <;> cases d <;> simp [hT, hU])
    (fun _ rec => by
      unfold go_impl_Board_within_L0_G
      have e1 : decide ((q.length : Int) < (q.length : Int)) = false := by simp
      simp only [zs_length, e1, Bool.false_eq_true, if_false])
  refine Eq.trans this ?_
  rw [anyN_range]
  unfold insB
  show (if onN W q c q.length = true then _ else _) = _
  cases onN W q c q.length <;> simp

/-- The points of a board inside a ring. -/
def inside (W H : Nat) (q : List Nat) : List Nat := (List.range (W * H)).filter (insB W q)

theorem insRow_eq (hk : K0 ≤ k) (hg : Gd W H hs) {q : List Nat} (h1 : 1 ≤ q.length) (hl : q.length ≤ 100) (hb : ∀ c ∈ q, c ≤ 1000) : go_impl_InsideRing_L0 k (bd W H hs) (ld a b) (zs q) ((0 : Int), []) = some (zs (inside W H q), (true, ())) := by
  have hcell := hg.n64
  have w1 : (bd W H hs).1 = (W : Int) := rfl
  have w2 : (bd W H hs).2.1 = (H : Int) := rfl
  unfold go_impl_InsideRing_L0 inside
  refine iter_path (F := fun rec15 x14 => go_impl_InsideRing_L0_G k (bd W H hs) (ld a b) (zs q) rec15 x14) (fun t => ((t : Int), zs ((List.range t).filter (insB W q)))) (W * H) rfl (by unfold K0 at hk; omega) (fun t ht rec => ?_) (fun rec => ?_)
  · unfold go_impl_InsideRing_L0_G
    have hlen : ((List.range t).filter (insB W q)).length ≤ t := Nat.le_trans (List.length_filter_le _ _) (by simp)
    have e1 : IntKind.i64.wrap ((W : Int) * (H : Int)) = ((W * H : Nat) : Int) := by rw [← Int.natCast_mul]; exact wnat (by omega)
    simp only [w1, w2, e1, ltcast, decide_eq_true ht, if_true, at_eq hg (show t ≤ 1000 by omega), Option.bind_some]
    rw [within_eq hk hg h1 hl hb (show t ≤ 1000 by omega)]
    simp only [Option.bind_some, zs_length, List.length_singleton, lim_le (show ((List.range t).filter (insB W q)).length + 1 ≤ 1099511627776 by omega), if_true, wsucc (show t < 9223372036854775807 by omega), List.range_succ, List.filter_append]
    cases h : insB W q t with
    | true => simp only [if_true, List.filter_cons, h, List.filter_nil, zs_append, zs_single]
    | false => simp only [Bool.false_eq_true, if_false, List.filter_cons, h, List.filter_nil, List.append_nil]
  · unfold go_impl_InsideRing_L0_G
    have e1 : IntKind.i64.wrap ((W : Int) * (H : Int)) = ((W * H : Nat) : Int) := by rw [← Int.natCast_mul]; exact wnat (by omega)
    simp only [w1, w2, e1, ltcast, Nat.lt_irrefl, decide_false, Bool.false_eq_true, if_false]

theorem insSpec_eq (hk : K0 ≤ k) (hg : Gd W H hs) {q : List Nat} (h1 : 1 ≤ q.length) (hl : q.length ≤ 100) (hb : ∀ c ∈ q, c ≤ 1000) : go_spec_InsideRing_L0 k (bd W H hs) (ld a b) (zs q) ((0 : Int), []) = some (zs (inside W H q), (true, ())) := by
  have hcell := hg.n64
  have hq1 := fun i => getD_bd hb i
  have w1 : (bd W H hs).1 = (W : Int) := rfl
  have w2 : (bd W H hs).2.1 = (H : Int) := rfl
  have hW : decide ((W : Int) ≠ 0) = true := decide_eq_true (by have := hg.w1; omega)
  unfold go_spec_InsideRing_L0 inside
  refine iter_path (F := fun rec60 x59 => go_spec_InsideRing_L0_G k (bd W H hs) (ld a b) (zs q) (fun c0 y => go_spec_InsideRing_L1 k (bd W H hs) (ld a b) (zs q) rec60 c0 y) rec60 x59) (fun t => ((t : Int), zs ((List.range t).filter (insB W q)))) (W * H) rfl (by unfold K0 at hk; omega) (fun c hc rec => ?_) (fun rec => ?_)
  · unfold go_spec_InsideRing_L0_G
    have hlen : ((List.range c).filter (insB W q)).length ≤ c := Nat.le_trans (List.length_filter_le _ _) (by simp)
    have e1 : IntKind.i64.wrap ((W : Int) * (H : Int)) = ((W * H : Nat) : Int) := by rw [← Int.natCast_mul]; exact wnat (by omega)
    simp only [w1, w2, e1, ltcast, decide_eq_true hc, if_true]
    unfold go_spec_InsideRing_L1
    have hin : insB W q c = (xorN (fun i => sideX W (q.getD ((i + q.length - 1) % q.length) 0) (q.getD i 0) c) q.length && !anyN (fun i => segX W (q.getD ((i + q.length - 1) % q.length) 0) (q.getD i 0) c) q.length) := by
      unfold insB oddN onN
      rw [xorN_rot (fun x y => sideX W (q.getD x 0) (q.getD y 0) c) q.length h1, anyN_rot (fun x y => segX W (q.getD x 0) (q.getD y 0) c) q.length h1]
    refine iter_path (F := fun rec74 x73 => go_spec_InsideRing_L1_G k (bd W H hs) (ld a b) (zs q) ((c : Int), zs ((List.range c).filter (insB W q))) rec rec74 x73) (fun t => (xorN (fun i => sideX W (q.getD ((i + q.length - 1) % q.length) 0) (q.getD i 0) c) t, anyN (fun i => segX W (q.getD ((i + q.length - 1) % q.length) 0) (q.getD i 0) c) t, (t : Int))) q.length rfl (by unfold K0 at hk; omega) (fun t ht rec74 => ?_) (fun rec74 => ?_)
    · unfold go_spec_InsideRing_L1_G
      have e2 : decide ((t : Int) < (q.length : Int)) = true := by simpa using ht
      have e3 : decide ((q.length : Int) ≠ 0) = true := decide_eq_true (by omega)
      have e4 : IntKind.i64.wrap ((t : Int) + (q.length : Int)) = ((t + q.length : Nat) : Int) := by rw [← Int.natCast_add]; exact wnat (by omega)
      have hmod := Nat.mod_lt (t + q.length - 1) (show 0 < q.length by omega)
      rw [xorN, anyN]
      generalize hj : (t + q.length - 1) % q.length = j at hmod
      have hd := fun i => (cell_bd hg (hq1 i)).2
      have hdc := (cell_bd hg (show c ≤ 1000 by omega)).2
      simp only [zs_length, w1, hW, Bool.or_true, e2, e3, e4, if_true, inb_lt ht, Int.toNat_natCast, zs_getD, wpred (show t + q.length < 9223372036854775807 by omega) (show 0 < t + q.length by omega), tmod_nat, hj, inb_lt hmod, crOn_eq hg (hq1 j) (hq1 t) (show c ≤ 1000 by omega), crCross_eq hg (hq1 j) (hq1 t) (show c ≤ 1000 by omega), crCross_eq hg (hq1 t) (hq1 j) (show c ≤ 1000 by omega), Option.bind_some, tdiv_nat, wnat (show c / W < 9223372036854775808 by omega), wnat (show q.getD t 0 / W < 9223372036854775808 by have := hd t; omega), wnat (show q.getD j 0 / W < 9223372036854775808 by have := hd j; omega), wsucc (show t < 9223372036854775807 by omega), ltcast, lecast]
      have hon : ∀ o s : Bool, (if (!o) = true then some s else some false).bind (fun r => (some (o || r) : Option Bool)) = some (o || s) := fun o s => by cases o <;> rfl
      generalize xorN (fun i => sideX W (q.getD ((i + q.length - 1) % q.length) 0) (q.getD i 0) c) t = X
      generalize anyN (fun i => segX W (q.getD ((i + q.length - 1) % q.length) 0) (q.getD i 0) c) t = Y
      unfold sideX
      generalize segX W (q.getD j 0) (q.getD t 0) c = s
      by_cases h0 : q.getD t 0 / W < q.getD j 0 / W
      · simp only [h0, decide_true, if_true]
        generalize (decide (q.getD t 0 / W ≤ c / W) && decide (c / W < q.getD j 0 / W)) = d
        generalize hte : tri ((q.getD t 0 % W : Nat) : Int) ((q.getD t 0 / W : Nat) : Int) ((q.getD j 0 % W : Nat) : Int) ((q.getD j 0 / W : Nat) : Int) ((c % W : Nat) : Int) ((c / W : Nat) : Int) = T
        cases Y <;> cases s <;> cases d <;> simp <;> by_cases hT : 0 < T <;> simp [hT]
      · simp only [h0, decide_false, if_false, Bool.false_eq_true]
        generalize (decide (q.getD j 0 / W ≤ c / W) && decide (c / W < q.getD t 0 / W)) = d
        generalize hte : tri ((q.getD j 0 % W : Nat) : Int) ((q.getD j 0 / W : Nat) : Int) ((q.getD t 0 % W : Nat) : Int) ((q.getD t 0 / W : Nat) : Int) ((c % W : Nat) : Int) ((c / W : Nat) : Int) = T
        cases Y <;> cases s <;> cases d <;> simp <;> by_cases hT : 0 < T <;> simp [hT]
    · unfold go_spec_InsideRing_L1_G
      have e2 : decide ((q.length : Int) < (q.length : Int)) = false := by simp
      simp only [zs_length, e2, Bool.false_eq_true, if_false, ← hin, List.length_singleton, lim_le (show ((List.range c).filter (insB W q)).length + 1 ≤ 1099511627776 by omega), if_true, wsucc (show c < 9223372036854775807 by omega), List.range_succ, List.filter_append]
      cases h : insB W q c with
      | true => simp only [if_true, List.filter_cons, h, List.filter_nil, zs_append, zs_single]
      | false => simp only [Bool.false_eq_true, if_false, List.filter_cons, h, List.filter_nil, List.append_nil]
  · unfold go_spec_InsideRing_L0_G
    have e1 : IntKind.i64.wrap ((W : Int) * (H : Int)) = ((W * H : Nat) : Int) := by rw [← Int.natCast_mul]; exact wnat (by omega)
    simp only [w1, w2, e1, ltcast, Nat.lt_irrefl, decide_false, Bool.false_eq_true, if_false]

end

theorem InsideRing_same (hk : K0 ≤ k) (B : BT) (L : LT) (p : List Int) : ∃ r, go_spec_InsideRing k B L p = some r ∧ go_impl_InsideRing k B L p = some r ∧ r.1.length ≤ 64 := by
  unfold go_spec_InsideRing go_impl_InsideRing go_spec_InsideRing_T go_impl_InsideRing_T
  rcases ring_cases hk B L p with ⟨h1, h2⟩ | ⟨W, H, a, b, hs, q, rfl, rfl, rfl, hg, hab, hb1, hb5, hq, h1, h2⟩
  · rw [h1, h2]; exact ⟨_, rfl, rfl, by simp⟩
  · have h3 := hq.len3
    have h16 := hq.len16
    have hcell := hg.n64
    rw [h1, h2]
    simp only [Option.bind_some, Bool.not_true, Bool.false_eq_true, if_false, insRow_eq hk hg hq.len1 (show q.length ≤ 100 by omega) (hq.toPathN.bd hg), insSpec_eq hk hg hq.len1 (show q.length ≤ 100 by omega) (hq.toPathN.bd hg)]
    refine ⟨_, rfl, rfl, ?_⟩
    have := List.length_filter_le (insB W q) (List.range (W * H))
    simp only [List.length_range] at this
    simp only [inside, zs_length]
    omega

end Go.Lg
