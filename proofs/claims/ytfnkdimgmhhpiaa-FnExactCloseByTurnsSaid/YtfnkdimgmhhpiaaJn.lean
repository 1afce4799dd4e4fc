/-
  Plain law: closed walks joined.
-/
import Derived.Test.YtfnkdimgmhhpiaaWk
import Derived.Test.YtfnkdimgmhhpiaaGenJ
set_option linter.unusedVariables false
set_option linter.unusedSimpArgs false
namespace Go.Lg
open Go.RowKit Go.IntWalk

variable {k : Nat}

/-- A board and a leaper are good, or not. -/
theorem two_casesJ (hk : K0 ≤ k) (B : BT) (L : LT) :
    (go_spec_boTwo k B L = some false ∧ go_impl_graphOf k B L = some (none, (false, ()))) ∨
    (go_spec_boTwo k B L = some true ∧ ∃ (W H a b : Nat) (hs : List Nat), B = bd W H hs ∧ L = ld a b ∧ Gd W H hs ∧ isGood (bd W H hs) = true ∧ isGoodL (ld a b) = true ∧ a ≤ b ∧ 1 ≤ b ∧ b ≤ 5 ∧ go_impl_graphOf k B L = some (some (graph W H hs a b), (true, ()))) := by
  rw [boTwo_eq hk]
  cases hB : isGood B && isGoodL L with
  | false => exact .inl ⟨rfl, graphOf_none hk hB⟩
  | true =>
    simp only [Bool.and_eq_true] at hB
    obtain ⟨hB, hL⟩ := hB
    obtain ⟨W, H, hs, rfl, hg⟩ := Good.nat (by simpa [isGood] using hB)
    obtain ⟨a, b, rfl, hab, hb1, hb5⟩ := GoodL.nat (by simpa [isGoodL] using hL)
    exact .inr ⟨rfl, W, H, a, b, hs, rfl, rfl, hg, hB, hL, hab, hb1, hb5, graphOf_eq hk hg hB hL hab hb5⟩

section
variable {W H a b : Nat} {hs : List Nat}

theorem PathN.hasJ {q : List Nat} (hq : PathN W H hs a b q) {i : Nat} (hi : i < q.length) : hasN W H hs (q.getD i 0) = true := by
  rw [List.getD_eq_getElem?_getD, List.getElem?_eq_getElem hi]
  exact hq.has _ (List.getElem_mem hi)
theorem PathN.bdJ {q : List Nat} (hg : Gd W H hs) (hq : PathN W H hs a b q) (i : Nat) : q.getD i 0 ≤ 1000 := by
  have := hg.n64
  by_cases hi : i < q.length
  · have := hasW_lt (hq.hasJ hi); omega
  · rw [List.getD_eq_getElem?_getD, List.getElem?_eq_none (by omega)]; simp

def closedB (W a b : Nat) (q : List Nat) : Bool := decide (3 ≤ q.length) && adj W a b (q.getD (q.length - 1) 0) (q.getD 0 0)

theorem blClosed_eq (hg : Gd W H hs) {q : List Nat} (hq : PathN W H hs a b q) : go_spec_blClosed k (bd W H hs) (ld a b) (zs q) = some (closedB W a b q) := by
  have h1 := hq.len1
  have h64 := hq.len64
  have e3 : decide ((2 : Int) < (q.length : Int)) = decide (3 ≤ q.length) := by rw [decide_eq_decide]; omega
  unfold go_spec_blClosed closedB
  simp only [zs_length, wpred (show q.length < 9223372036854775807 by omega) h1, inb_lt (show q.length - 1 < q.length by omega), show inb (0 : Int) q.length = inb ((0 : Nat) : Int) q.length from rfl, inb_lt (show 0 < q.length by omega), Bool.or_true, if_true, Int.toNat_natCast, Int.toNat_zero, zs_getD, e3, boIs_eq hg (hq.bdJ hg (q.length - 1)) (hq.bdJ hg 0)]
  cases decide (3 ≤ q.length) <;> simp

theorem blWalk_eq (hk : K0 ≤ k) (hg : Gd W H hs) (h : go_spec_boTwo k (bd W H hs) (ld a b) = some true) (p : List Int) : go_spec_blWalk k (bd W H hs) (ld a b) p = some (walkB W H hs a b p) := by
  unfold go_spec_blWalk
  rw [h]
  simp only [Option.bind_some, if_true, toWalk_eq hk hg, Bool.true_and]
theorem blWalk_none {B : BT} {L : LT} (h : go_spec_boTwo k B L = some false) (p : List Int) : go_spec_blWalk k B L p = some false := by
  unfold go_spec_blWalk
  rw [h]; rfl

theorem walkGraph_eq (hk : K0 ≤ k) (hg : Gd W H hs) (h : go_impl_graphOf k (bd W H hs) (ld a b) = some (some (graph W H hs a b), (true, ()))) (p : List Int) : go_impl_walkGraph k (bd W H hs) (ld a b) p = some (if walkB W H hs a b p = true then (some (graph W H hs a b), (true, ())) else (none, (false, ()))) := by
  unfold go_impl_walkGraph
  rw [h]
  simp only [Option.bind_some, Bool.not_true, Bool.not_false, if_true, isWalk_eq hk hg, Bool.false_or]
  cases walkB W H hs a b p <;> rfl
theorem walkGraph_none {B : BT} {L : LT} (h : go_impl_graphOf k B L = some (none, (false, ()))) (p : List Int) : go_impl_walkGraph k B L p = some (none, (false, ())) := by
  unfold go_impl_walkGraph
  rw [h]; rfl

/-- Two lists have something in common. -/
def meetB (p q : List Nat) : Bool := (List.range p.length).any fun i => decide (p.getD i 0 ∈ q)

/-- Two closed walks with nothing in common. -/
structure Two (W H : Nat) (hs : List Nat) (a b : Nat) (p q : List Nat) : Prop where
  p : WalkN W H hs a b p
  q : WalkN W H hs a b q

theorem two_join (hk : K0 ≤ k) (B : BT) (L : LT) (p' q' : List Int) :
    (go_spec_blTwo k B L p' q' = some false ∧ ((go_impl_apart k B L p' q').bind fun r1 =>
  (if (!(!r1.2.1)) = true then go_impl_graph_closes k r1.1 p' else some false).bind fun r2 =>
  (if (!((!r1.2.1) || (!r2))) = true then go_impl_graph_closes k r1.1 q' else some false).bind fun r3 => some (r1, ((!r1.2.1) || (!r2)) || (!r3))).map (·.2) = some true) ∨
    (∃ (W H a b : Nat) (hs p q : List Nat), B = bd W H hs ∧ L = ld a b ∧ p' = zs p ∧ q' = zs q ∧ Gd W H hs ∧ WalkN W H hs a b p ∧ WalkN W H hs a b q ∧ 3 ≤ p.length ∧ 3 ≤ q.length ∧ go_spec_blTwo k B L p' q' = some true ∧
      go_impl_apart k B L p' q' = some (some (graph W H hs a b), (true, ())) ∧ go_impl_graph_closes k (some (graph W H hs a b)) p' = some true ∧ go_impl_graph_closes k (some (graph W H hs a b)) q' = some true) := by
  unfold go_spec_blTwo go_spec_blTwo_T go_impl_apart go_impl_apart_T
  rcases two_casesJ hk B L with ⟨h1, h2⟩ | ⟨h1, W, H, a, b, hs, rfl, rfl, hg, hG, hL, hab, hb1, hb5, h2⟩
  · rw [blWalk_none h1, walkGraph_none h2]; exact .inl ⟨rfl, rfl⟩
  · rw [blWalk_eq hk hg h1, walkGraph_eq hk hg h2]
    simp only [Option.bind_some]
    cases hp : walkB W H hs a b p' with
    | false => exact .inl ⟨rfl, rfl⟩
    | true =>
      simp only [if_true, Bool.not_true, Bool.not_false, Bool.false_or, blWalk_eq hk hg h1, isWalk_eq hk hg, Option.bind_some]
      cases hq : walkB W H hs a b q' with
      | false => exact .inl ⟨rfl, rfl⟩
      | true =>
        obtain ⟨p, rfl, hpw⟩ := walkB_walk hp
        obtain ⟨q, rfl, hqw⟩ := walkB_walk hq
        have hp64 := hpw.len64
        have hq64 := hqw.len64
        simp only [if_true, Bool.not_true, Bool.not_false, Bool.false_or, Bool.false_eq_true, if_false, blClosed_eq hg hpw.toPathN, blClosed_eq hg hqw.toPathN, Option.bind_some]
        have s1 : go_spec_blTwo_L0 k (bd W H hs) (ld a b) (zs p) (zs q) (0 : Int) = some (!meetB p q) := by
          unfold go_spec_blTwo_L0
          have := iter_first (F := fun rec9 x8 => go_spec_blTwo_L0_G k (bd W H hs) (ld a b) (zs p) (zs q) rec9 x8) (fun i => (i : Int)) p.length (fun i => decide (p.getD i 0 ∈ q)) (yes := some false) (no := some true) (m := k) (x0 := (0 : Int)) rfl (by unfold K0 at hk; omega)
            (fun i hi _ rec => by
              unfold go_spec_blTwo_L0_G
              have e1 : decide ((i : Int) < (p.length : Int)) = true := by simpa using hi
              simp only [zs_length, e1, inb_lt hi, if_true, Int.toNat_natCast, zs_getD, l1Has_eq hk (show q.length ≤ 1048576 by omega), Option.bind_some, wsucc (show i < 9223372036854775807 by omega)])
            (fun _ rec => by
              unfold go_spec_blTwo_L0_G
              rw [if_neg (by simp)])
          refine Eq.trans this ?_
          unfold meetB
          cases (List.range p.length).any fun i => decide (p.getD i 0 ∈ q) <;> rfl
        have s2 : ∀ r1 : Option GT × (Bool × Unit), go_impl_apart_L0 k (bd W H hs) (ld a b) (zs p) (zs q) r1 (0 : Int) = some (if meetB p q = true then (none, (false, ())) else (r1.1, (true, ()))) := fun r1 => by
          unfold go_impl_apart_L0
          have := iter_first (F := fun rec7 x6 => go_impl_apart_L0_G k (bd W H hs) (ld a b) (zs p) (zs q) r1 rec7 x6) (fun i => (i : Int)) p.length (fun i => decide (p.getD i 0 ∈ q)) (yes := some (none, (false, ()))) (no := some (r1.1, (true, ()))) (m := k) (x0 := (0 : Int)) rfl (by unfold K0 at hk; omega)
            (fun i hi _ rec => by
              unfold go_impl_apart_L0_G
              have e1 : decide ((i : Int) < (p.length : Int)) = true := by simpa using hi
              simp only [zs_length, e1, inb_lt hi, if_true, Int.toNat_natCast, zs_getD, Contains_eq hk (show q.length ≤ 1048576 by omega), Option.bind_some, wsucc (show i < 9223372036854775807 by omega)])
            (fun _ rec => by
              unfold go_impl_apart_L0_G
              rw [if_neg (by simp)])
          refine Eq.trans this ?_
          unfold meetB
          cases (List.range p.length).any fun i => decide (p.getD i 0 ∈ q) <;> rfl
        rw [s2]
        simp only [Option.bind_some, closes_eq hk hg hpw.toPathN, closes_eq hk hg hqw.toPathN]
        have c1 : (decide (3 ≤ p.length) && adj W a b (p.getD (p.length - 1) 0) (p.getD 0 0)) = closedB W a b p := rfl
        have c2 : (decide (3 ≤ q.length) && adj W a b (q.getD (q.length - 1) 0) (q.getD 0 0)) = closedB W a b q := rfl
        cases hcp : closedB W a b p with
        | false =>
          refine .inl ⟨rfl, ?_⟩
          cases meetB p q with
          | true => rfl
          | false => simp only [Bool.false_eq_true, if_false, Bool.not_true, Bool.not_false, if_true, closes_eq hk hg hpw.toPathN, c1, hcp]; rfl
        | true =>
          cases hcq : closedB W a b q with
          | false =>
            refine .inl ⟨rfl, ?_⟩
            cases meetB p q with
            | true => rfl
            | false => simp only [Bool.false_eq_true, if_false, Bool.not_true, Bool.not_false, if_true, closes_eq hk hg hpw.toPathN, closes_eq hk hg hqw.toPathN, c1, c2, hcp, hcq]; rfl
          | true =>
            simp only [Bool.not_true, Bool.not_false, Bool.false_or, if_true, Bool.false_eq_true, if_false, Option.bind_some, s1]
            cases hm : meetB p q with
            | true => exact .inl ⟨rfl, rfl⟩
            | false =>
              have l1 : 3 ≤ p.length := by
                simp only [closedB, Bool.and_eq_true, decide_eq_true_eq] at hcp; exact hcp.1
              have l2 : 3 ≤ q.length := by
                simp only [closedB, Bool.and_eq_true, decide_eq_true_eq] at hcq; exact hcq.1
              exact .inr ⟨W, H, a, b, hs, p, q, rfl, rfl, rfl, rfl, hg, hpw, hqw, l1, l2, rfl, rfl, by rw [closes_eq hk hg hpw.toPathN, c1, hcp], by rw [closes_eq hk hg hqw.toPathN, c2, hcq]⟩

/-! ### the first place to join -/

def ringAt (q : List Nat) (j : Nat) (back : Bool) (s : Nat) : Nat := q.getD (if back then (j + q.length - s) % q.length else (j + s) % q.length) 0
def joinB (W a b : Nat) (p q : List Nat) (i j : Nat) (back : Bool) : Bool := adj W a b (p.getD i 0) (q.getD j 0) && adj W a b (q.getD (if back then (j + 1) % q.length else (j + q.length - 1) % q.length) 0) (p.getD ((i + 1) % p.length) 0)
def joinL (p q : List Nat) (i j : Nat) (back : Bool) : List Nat := p.take (i + 1) ++ (List.range q.length).map (ringAt q j back) ++ p.drop (i + 1)
/-- What joining at a place yields, if it can be. -/
def joinAt (W a b : Nat) (p q : List Nat) (i j : Nat) : Option (List Nat) := if joinB W a b p q i j false = true then some (joinL p q i j false) else if joinB W a b p q i j true = true then some (joinL p q i j true) else none
def joinRow (W a b : Nat) (p q : List Nat) (i : Nat) : Option (List Nat) := (List.range q.length).findSome? (joinAt W a b p q i)
def joinAll (W a b : Nat) (p q : List Nat) : Option (List Nat) := (List.range p.length).findSome? (joinRow W a b p q)

/-- A loop that looks for the first thing. -/
theorem iter_some {A α β : Type} {F : (α → Option A) → α → Option A} {x0 : α} (mk : Nat → α) (n : Nat) (f : Nat → Option β) {yes : β → Option A} {no : Option A} {m : Nat} (hx : x0 = mk 0) (hm : n < m)
    (step : ∀ i, i < n → ∀ rec, F rec (mk i) = match f i with | some y => yes y | none => rec (mk (i + 1)))
    (exit : ∀ rec, F rec (mk n) = no) : iter m F x0 = match (List.range n).findSome? f with | some y => yes y | none => no := by
  subst hx
  have : ∀ d j, n - j = d → j ≤ n → (∀ i, i < j → f i = none) → ∀ m, d < m → iter m F (mk j) = match (List.range n).findSome? f with | some y => yes y | none => no := by
    intro d
    induction d with
    | zero =>
      intro j hd hj hb m hm
      obtain rfl : j = n := by omega
      cases m with
      | zero => omega
      | succ m =>
        have : (List.range j).findSome? f = none := by
          rw [List.findSome?_eq_none_iff]
          intro i hi
          exact hb i (List.mem_range.1 hi)
        rw [this]
        exact exit _
    | succ d ih =>
      intro j hd hj hb m hm
      cases m with
      | zero => omega
      | succ m =>
        show F (iter m F) (mk j) = _
        rw [step j (by omega)]
        cases hbj : f j with
        | some y =>
          have : (List.range n).findSome? f = some y := by
            obtain ⟨d', rfl⟩ : ∃ d', n = j + 1 + d' := ⟨n - j - 1, by omega⟩
            have e : List.range (j + 1 + d') = List.range j ++ j :: (List.range d').map (fun x => j + 1 + x) := by
              rw [List.range_add, List.range_succ]
              simp
            rw [e, List.findSome?_append, List.findSome?_eq_none_iff.2 (fun i hi => hb i (List.mem_range.1 hi)), List.findSome?_cons, hbj]
            rfl
          rw [this]
        | none =>
          exact ih (j + 1) (by omega) (by omega) (fun i hi => by
            by_cases h : i = j
            · rw [h]; exact hbj
            · exact hb i (by omega)) m (by omega)
  exact this n 0 (by omega) (Nat.zero_le _) (fun i hi => by omega) m hm

variable {p q : List Nat}

theorem joinL_length {i j : Nat} {back : Bool} (hi : i < p.length) : (joinL p q i j back).length = p.length + q.length := by
  unfold joinL
  simp only [List.length_append, List.length_take, List.length_map, List.length_range, List.length_drop]
  omega
theorem joinAll_length {l : List Nat} (h : joinAll W a b p q = some l) : l.length = p.length + q.length := by
  obtain ⟨i, hi, h⟩ := List.exists_of_findSome?_eq_some h
  obtain ⟨j, hj, h⟩ := List.exists_of_findSome?_eq_some h
  have hi := List.mem_range.1 hi
  unfold joinAt at h
  split at h
  · rw [← Option.some.inj h, joinL_length hi]
  · split at h
    · rw [← Option.some.inj h, joinL_length hi]
    · cases h

theorem implJoin (hk : K0 ≤ k) (hg : Gd W H hs) (hp : PathN W H hs a b p) (hq : PathN W H hs a b q) (r1 : Option GT × (Bool × Unit)) (hr : r1.1 = some (graph W H hs a b)) :
    go_impl_JoinClosed_L0 k (bd W H hs) (ld a b) (zs p) (zs q) r1 (0 : Int) = some (match joinAll W a b p q with | some l => (zs l, (true, ())) | none => ([], (false, ()))) := by
  have hp1 := hp.len1
  have hq1 := hq.len1
  have hp64 := hp.len64
  have hq64 := hq.len64
  have e3 : decide ((p.length : Int) ≠ 0) = true := decide_eq_true (by omega)
  have e4 : decide ((q.length : Int) ≠ 0) = true := decide_eq_true (by omega)
  have last : ∀ rec20 rec25 i j (on back : Bool), i < p.length → j < q.length → go_impl_JoinClosed_L2 k (bd W H hs) (ld a b) (zs p) (zs q) rec20 rec25 r1 (i : Int) (j : Int) (on, (back, ())) ((0 : Int), zs (p.take (i + 1))) = some (zs (joinL p q i j (!on)), (true, ())) := fun rec20 rec25 i j on back hi hj => by
    unfold go_impl_JoinClosed_L2
    refine iter_path (F := fun rec33 x32 => go_impl_JoinClosed_L2_G k (bd W H hs) (ld a b) (zs p) (zs q) r1 (i : Int) (j : Int) (on, (back, ())) rec20 rec25 rec33 x32) (fun s => ((s : Int), zs (p.take (i + 1) ++ (List.range s).map (ringAt q j (!on))))) q.length (by simp) (by unfold K0 at hk; omega) (fun s hs' rec => ?_) (fun rec => ?_)
    · unfold go_impl_JoinClosed_L2_G
      have e1 : decide ((s : Int) < (q.length : Int)) = true := by simpa using hs'
      have l0 : (p.take (i + 1) ++ (List.range s).map (ringAt q j (!on))).length ≤ 200 := by simp only [List.length_append, List.length_take, List.length_map, List.length_range]; omega
      have w1 : IntKind.i64.wrap ((j : Int) + (s : Int)) = ((j + s : Nat) : Int) := by rw [← Int.natCast_add]; exact wnat (by omega)
      have w2 : IntKind.i64.wrap (IntKind.i64.wrap ((j : Int) - (s : Int)) + (q.length : Int)) = ((j + q.length - s : Nat) : Int) := by rw [w64 (n := (j : Int) - (s : Int)) (by omega) (by omega), w64 (by omega) (by omega)]; omega
      have m1 := Nat.mod_lt (j + s) (show 0 < q.length by omega)
      have m2 := Nat.mod_lt (j + q.length - s) (show 0 < q.length by omega)
      simp only [zs_length, e1, e4, if_true, w1, w2, tmod_nat, inb_lt m1, inb_lt m2, Int.toNat_natCast, zs_getD, List.length_singleton, lim_le (show (p.take (i + 1) ++ (List.range s).map (ringAt q j (!on))).length + 1 ≤ 1099511627776 by omega), wsucc (show s < 9223372036854775807 by omega), zs_single, ← zs_append, List.range_succ, List.map_append, List.map_cons, List.map_nil, List.append_assoc, ringAt]
      cases on <;> simp
    · unfold go_impl_JoinClosed_L2_G
      have e1 : decide ((q.length : Int) < (q.length : Int)) = false := by simp
      have e2 : decide ((0 : Int) ≤ ((i + 1 : Nat) : Int) ∧ ((i + 1 : Nat) : Int) ≤ (p.length : Int) ∧ (p.length : Int) ≤ (p.length : Int)) = true := by rw [decide_eq_true_eq]; omega
      have l0 : (p.take (i + 1) ++ (List.range q.length).map (ringAt q j (!on))).length + (p.drop (i + 1)).length ≤ 200 := by simp only [List.length_append, List.length_take, List.length_map, List.length_range, List.length_drop]; omega
      simp only [zs_length, e1, Bool.false_eq_true, if_false, wsucc (show i < 9223372036854775807 by omega), e2, if_true, Int.toNat_natCast, zs_take, zs_drop, List.take_length, lim_le (show (p.take (i + 1) ++ (List.range q.length).map (ringAt q j (!on))).length + (p.drop (i + 1)).length ≤ 1099511627776 by omega), ← zs_append]
      rfl
  have row : ∀ rec20 i, i < p.length → go_impl_JoinClosed_L1 k (bd W H hs) (ld a b) (zs p) (zs q) rec20 r1 (i : Int) (0 : Int) = match joinRow W a b p q i with | some l => some (zs l, (true, ())) | none => rec20 ((i + 1 : Nat) : Int) := fun rec20 i hi => by
    unfold go_impl_JoinClosed_L1
    have := iter_some (F := fun rec25 x24 => go_impl_JoinClosed_L1_G k (bd W H hs) (ld a b) (zs p) (zs q) r1 (i : Int) (fun c0 c1 y => go_impl_JoinClosed_L2 k (bd W H hs) (ld a b) (zs p) (zs q) rec20 rec25 r1 (i : Int) c0 c1 y) rec20 rec25 x24) (fun j => (j : Int)) q.length (joinAt W a b p q i) (yes := fun l => some (zs l, (true, ()))) (no := rec20 ((i + 1 : Nat) : Int)) (m := k) (x0 := (0 : Int)) rfl (by unfold K0 at hk; omega)
      (fun j hj rec => by
        unfold go_impl_JoinClosed_L1_G go_impl_graph_joins
        have e1 : decide ((j : Int) < (q.length : Int)) = true := by simpa using hj
        have w1 : IntKind.i64.wrap ((j : Int) + (q.length : Int)) = ((j + q.length : Nat) : Int) := by rw [← Int.natCast_add]; exact wnat (by omega)
        have m0 := Nat.mod_lt (i + 1) (show 0 < p.length by omega)
        have m1 := Nat.mod_lt (j + 1) (show 0 < q.length by omega)
        have m2 := Nat.mod_lt (j + q.length - 1) (show 0 < q.length by omega)
        have e2 : decide ((0 : Int) ≤ (0 : Int) ∧ (0 : Int) ≤ ((i + 1 : Nat) : Int) ∧ ((i + 1 : Nat) : Int) ≤ (p.length : Int)) = true := by rw [decide_eq_true_eq]; omega
        have l0 : (p.take (i + 1)).length ≤ 200 := by simp only [List.length_take]; omega
        simp only [hr, zs_length, e1, if_true, inb_lt hi, inb_lt hj, Int.toNat_natCast, zs_getD, leapsW_eq hk hg (hp.hasJ hi) (hq.hasJ hj), Option.bind_some, e2, wsucc (show i < 9223372036854775807 by omega), wsucc (show j < 9223372036854775807 by omega), zs_take, Int.toNat_zero, List.drop_zero, CloneW_eq (show (zs (p.take (i + 1))).length ≤ 1099511627776 by rw [zs_length]; omega)]
        unfold joinAt joinB
        cases hA : adj W a b (p.getD i 0) (q.getD j 0) with
        | false => simp
        | true =>
          simp only [Bool.not_true, Bool.false_eq_true, if_false, e3, e4, if_true, tmod_nat, inb_lt m0, w1, wpred (show j + q.length < 9223372036854775807 by omega) (show 0 < j + q.length by omega), inb_lt m1, inb_lt m2, Int.toNat_natCast, zs_getD, leapsW_eq hk hg (hq.hasJ m2) (hp.hasJ m0), leapsW_eq hk hg (hq.hasJ m1) (hp.hasJ m0), Option.bind_some, Bool.true_and, last rec20 rec i j _ _ hi hj]
          cases adj W a b (q.getD ((j + q.length - 1) % q.length) 0) (p.getD ((i + 1) % p.length) 0) <;> cases adj W a b (q.getD ((j + 1) % q.length) 0) (p.getD ((i + 1) % p.length) 0) <;> simp)
      (fun rec => by
        unfold go_impl_JoinClosed_L1_G
        have e1 : decide ((q.length : Int) < (q.length : Int)) = false := by simp
        simp only [zs_length, e1, Bool.false_eq_true, if_false, wsucc (show i < 9223372036854775807 by omega)])
    refine Eq.trans this ?_
    unfold joinRow
    cases (List.range q.length).findSome? (joinAt W a b p q i) <;> rfl
  unfold go_impl_JoinClosed_L0
  have := iter_some (F := fun rec20 x19 => go_impl_JoinClosed_L0_G k (bd W H hs) (ld a b) (zs p) (zs q) r1 (fun c0 y => go_impl_JoinClosed_L1 k (bd W H hs) (ld a b) (zs p) (zs q) rec20 r1 c0 y) rec20 x19) (fun i => (i : Int)) p.length (joinRow W a b p q) (yes := fun l => some (zs l, (true, ()))) (no := some ([], (false, ()))) (m := k) (x0 := (0 : Int)) rfl (by unfold K0 at hk; omega)
    (fun i hi rec => by
      unfold go_impl_JoinClosed_L0_G
      have e1 : decide ((i : Int) < (p.length : Int)) = true := by simpa using hi
      simp only [zs_length, e1, if_true, row rec i hi]
      cases joinRow W a b p q i <;> rfl)
    (fun rec => by
      unfold go_impl_JoinClosed_L0_G
      rw [if_neg (by simp)])
  refine Eq.trans this ?_
  unfold joinAll
  cases (List.range p.length).findSome? (joinRow W a b p q) <;> rfl

theorem specJoin (hk : K0 ≤ k) (hg : Gd W H hs) (hp : PathN W H hs a b p) (hq : PathN W H hs a b q) :
    go_spec_JoinClosed_L0 k (bd W H hs) (ld a b) (zs p) (zs q) (0 : Int) = some (match joinAll W a b p q with | some l => (zs l, (true, ())) | none => ([], (false, ()))) := by
  have hp1 := hp.len1
  have hq1 := hq.len1
  have hp64 := hp.len64
  have hq64 := hq.len64
  have e3 : decide ((p.length : Int) ≠ 0) = true := decide_eq_true (by omega)
  have e4 : decide ((q.length : Int) ≠ 0) = true := decide_eq_true (by omega)
  have last : ∀ rec35 rec52 rec57 i j (kk : Nat), kk < 2 → i < p.length → j < q.length → go_spec_JoinClosed_L3 k (bd W H hs) (ld a b) (zs p) (zs q) rec35 rec52 rec57 (i : Int) (j : Int) (kk : Int) ((0 : Int), zs (p.take (i + 1))) = some (zs (joinL p q i j (decide (kk = 1))), (true, ())) := fun rec35 rec52 rec57 i j kk hkk hi hj => by
    unfold go_spec_JoinClosed_L3
    refine iter_path (F := fun rec65 x64 => go_spec_JoinClosed_L3_G k (bd W H hs) (ld a b) (zs p) (zs q) (i : Int) (j : Int) (kk : Int) rec35 rec52 rec57 rec65 x64) (fun s => ((s : Int), zs (p.take (i + 1) ++ (List.range s).map (ringAt q j (decide (kk = 1)))))) q.length (by simp) (by unfold K0 at hk; omega) (fun s hs' rec => ?_) (fun rec => ?_)
    · unfold go_spec_JoinClosed_L3_G
      have e1 : decide ((s : Int) < (q.length : Int)) = true := by simpa using hs'
      have l0 : (p.take (i + 1) ++ (List.range s).map (ringAt q j (decide (kk = 1)))).length ≤ 200 := by simp only [List.length_append, List.length_take, List.length_map, List.length_range]; omega
      have w1 : IntKind.i64.wrap ((j : Int) + (s : Int)) = ((j + s : Nat) : Int) := by rw [← Int.natCast_add]; exact wnat (by omega)
      have w2 : IntKind.i64.wrap (IntKind.i64.wrap ((j : Int) + (q.length : Int)) - (s : Int)) = ((j + q.length - s : Nat) : Int) := by rw [w64 (n := (j : Int) + (q.length : Int)) (by omega) (by omega), w64 (by omega) (by omega)]; omega
      have m1 := Nat.mod_lt (j + s) (show 0 < q.length by omega)
      have m2 := Nat.mod_lt (j + q.length - s) (show 0 < q.length by omega)
      simp only [zs_length, e1, e4, if_true, w1, w2, tmod_nat, inb_lt m1, inb_lt m2, Int.toNat_natCast, zs_getD, List.length_singleton, lim_le (show (p.take (i + 1) ++ (List.range s).map (ringAt q j (decide (kk = 1)))).length + 1 ≤ 1099511627776 by omega), wsucc (show s < 9223372036854775807 by omega), zs_single, ← zs_append, List.range_succ, List.map_append, List.map_cons, List.map_nil, List.append_assoc, ringAt]
      obtain rfl | rfl : kk = 0 ∨ kk = 1 := by omega
      · simp
      · simp
    · unfold go_spec_JoinClosed_L3_G
      have e1 : decide ((q.length : Int) < (q.length : Int)) = false := by simp
      have e2 : decide ((0 : Int) ≤ ((i + 1 : Nat) : Int) ∧ ((i + 1 : Nat) : Int) ≤ (p.length : Int) ∧ (p.length : Int) ≤ (p.length : Int)) = true := by rw [decide_eq_true_eq]; omega
      have l0 : (p.take (i + 1) ++ (List.range q.length).map (ringAt q j (decide (kk = 1)))).length + (p.drop (i + 1)).length ≤ 200 := by simp only [List.length_append, List.length_take, List.length_map, List.length_range, List.length_drop]; omega
      simp only [zs_length, e1, Bool.false_eq_true, if_false, wsucc (show i < 9223372036854775807 by omega), e2, if_true, Int.toNat_natCast, zs_take, zs_drop, List.take_length, lim_le (show (p.take (i + 1) ++ (List.range q.length).map (ringAt q j (decide (kk = 1)))).length + (p.drop (i + 1)).length ≤ 1099511627776 by omega), ← zs_append]
      rfl
  have two : ∀ rec35 rec52 i j, i < p.length → j < q.length → go_spec_JoinClosed_L2 k (bd W H hs) (ld a b) (zs p) (zs q) rec35 rec52 (i : Int) (j : Int) (0 : Int) = match joinAt W a b p q i j with | some l => some (zs l, (true, ())) | none => rec52 ((j + 1 : Nat) : Int) := fun rec35 rec52 i j hi hj => by
    unfold go_spec_JoinClosed_L2
    have := iter_some (F := fun rec57 x56 => go_spec_JoinClosed_L2_G k (bd W H hs) (ld a b) (zs p) (zs q) (i : Int) (j : Int) (fun c0 y => go_spec_JoinClosed_L3 k (bd W H hs) (ld a b) (zs p) (zs q) rec35 rec52 rec57 (i : Int) (j : Int) c0 y) rec35 rec52 rec57 x56) (fun kk => (kk : Int)) 2 (fun kk => if joinB W a b p q i j (decide (kk = 1)) = true then some (joinL p q i j (decide (kk = 1))) else none) (yes := fun l => some (zs l, (true, ()))) (no := rec52 ((j + 1 : Nat) : Int)) (m := k) (x0 := (0 : Int)) rfl (by unfold K0 at hk; omega)
      (fun kk hkk rec => by
        unfold go_spec_JoinClosed_L2_G go_spec_blJoin
        have e1 : decide ((kk : Int) < (2 : Int)) = true := by rw [decide_eq_true_eq]; omega
        have ek : decide ((kk : Int) = (1 : Int)) = decide (kk = 1) := by rw [decide_eq_decide]; omega
        have w1 : IntKind.i64.wrap ((j : Int) + (q.length : Int)) = ((j + q.length : Nat) : Int) := by rw [← Int.natCast_add]; exact wnat (by omega)
        have m0 := Nat.mod_lt (i + 1) (show 0 < p.length by omega)
        have m1 := Nat.mod_lt (j + 1) (show 0 < q.length by omega)
        have m2 := Nat.mod_lt (j + q.length - 1) (show 0 < q.length by omega)
        have e2 : decide ((0 : Int) ≤ (0 : Int) ∧ (0 : Int) ≤ ((i + 1 : Nat) : Int) ∧ ((i + 1 : Nat) : Int) ≤ (p.length : Int)) = true := by rw [decide_eq_true_eq]; omega
        have l0 : (p.take (i + 1)).length ≤ 200 := by simp only [List.length_take]; omega
        have hbp := hp.bdJ hg
        have hbq := hq.bdJ hg
        simp only [zs_length, e1, ek, if_true, inb_lt hi, inb_lt hj, Int.toNat_natCast, zs_getD, e3, e4, Bool.or_true, tmod_nat, inb_lt m0, inb_lt m1, inb_lt m2, w1, wpred (show j + q.length < 9223372036854775807 by omega) (show 0 < j + q.length by omega), boIs_eq hg (hbp i) (hbq j), boIs_eq hg (hbq ((j + 1) % q.length)) (hbp ((i + 1) % p.length)), boIs_eq hg (hbq ((j + q.length - 1) % q.length)) (hbp ((i + 1) % p.length)), Option.bind_some, e2, wsucc (show i < 9223372036854775807 by omega), wsucc (show j < 9223372036854775807 by omega), wsucc (show kk < 9223372036854775807 by omega), zs_take, Int.toNat_zero, List.drop_zero, l1Own_eq (show (zs (p.take (i + 1))).length ≤ 1099511627776 by rw [zs_length]; omega), last rec35 rec52 rec i j kk hkk hi hj]
        unfold joinB
        cases decide (kk = 1) <;> cases adj W a b (p.getD i 0) (q.getD j 0) <;> simp only [if_true, if_false, Bool.false_eq_true, Bool.true_and, Bool.false_and, Option.bind_some, Bool.not_true, Bool.not_false]
        · cases adj W a b (q.getD ((j + q.length - 1) % q.length) 0) (p.getD ((i + 1) % p.length) 0) <;> rfl
        · cases adj W a b (q.getD ((j + 1) % q.length) 0) (p.getD ((i + 1) % p.length) 0) <;> rfl)
      (fun rec => by
        unfold go_spec_JoinClosed_L2_G
        rw [if_neg (by decide)]
        rw [wsucc (show j < 9223372036854775807 by omega)])
    refine Eq.trans this ?_
    unfold joinAt
    rw [show List.range 2 = [0, 1] from rfl, List.findSome?_cons, List.findSome?_cons, List.findSome?_nil]
    rw [show decide ((0 : Nat) = 1) = false from rfl, show decide ((1 : Nat) = 1) = true from rfl]
    cases joinB W a b p q i j false <;> cases joinB W a b p q i j true <;> rfl
  have row : ∀ rec35 i, i < p.length → go_spec_JoinClosed_L1 k (bd W H hs) (ld a b) (zs p) (zs q) rec35 (i : Int) (0 : Int) = match joinRow W a b p q i with | some l => some (zs l, (true, ())) | none => rec35 ((i + 1 : Nat) : Int) := fun rec35 i hi => by
    unfold go_spec_JoinClosed_L1
    have := iter_some (F := fun rec52 x51 => go_spec_JoinClosed_L1_G k (bd W H hs) (ld a b) (zs p) (zs q) (i : Int) (fun c0 y => go_spec_JoinClosed_L2 k (bd W H hs) (ld a b) (zs p) (zs q) rec35 rec52 (i : Int) c0 y) rec35 rec52 x51) (fun j => (j : Int)) q.length (joinAt W a b p q i) (yes := fun l => some (zs l, (true, ()))) (no := rec35 ((i + 1 : Nat) : Int)) (m := k) (x0 := (0 : Int)) rfl (by unfold K0 at hk; omega)
      (fun j hj rec => by
        unfold go_spec_JoinClosed_L1_G
        have e1 : decide ((j : Int) < (q.length : Int)) = true := by simpa using hj
        simp only [zs_length, e1, if_true, two rec35 rec i j hi hj]
        cases joinAt W a b p q i j <;> rfl)
      (fun rec => by
        unfold go_spec_JoinClosed_L1_G
        have e1 : decide ((q.length : Int) < (q.length : Int)) = false := by simp
        simp only [zs_length, e1, Bool.false_eq_true, if_false, wsucc (show i < 9223372036854775807 by omega)])
    refine Eq.trans this ?_
    unfold joinRow
    cases (List.range q.length).findSome? (joinAt W a b p q i) <;> rfl
  unfold go_spec_JoinClosed_L0
  have := iter_some (F := fun rec35 x34 => go_spec_JoinClosed_L0_G k (bd W H hs) (ld a b) (zs p) (zs q) (fun c0 y => go_spec_JoinClosed_L1 k (bd W H hs) (ld a b) (zs p) (zs q) rec35 c0 y) rec35 x34) (fun i => (i : Int)) p.length (joinRow W a b p q) (yes := fun l => some (zs l, (true, ()))) (no := some ([], (false, ()))) (m := k) (x0 := (0 : Int)) rfl (by unfold K0 at hk; omega)
    (fun i hi rec => by
      unfold go_spec_JoinClosed_L0_G
      have e1 : decide ((i : Int) < (p.length : Int)) = true := by simpa using hi
      simp only [zs_length, e1, if_true, row rec i hi]
      cases joinRow W a b p q i <;> rfl)
    (fun rec => by
      unfold go_spec_JoinClosed_L0_G
      rw [if_neg (by simp)])
  refine Eq.trans this ?_
  unfold joinAll
  cases (List.range p.length).findSome? (joinRow W a b p q) <;> rfl

end

theorem JoinClosed_same (hk : K0 ≤ k) (B : BT) (L : LT) (p' q' : List Int) : ∃ r, go_spec_JoinClosed k B L p' q' = some r ∧ go_impl_JoinClosed k B L p' q' = some r ∧ r.1.length ≤ 200 := by
  unfold go_spec_JoinClosed go_spec_JoinClosed_T go_impl_JoinClosed go_impl_JoinClosed_T
  rcases two_join hk B L p' q' with ⟨h1, h2⟩ | ⟨W, H, a, b, hs, p, q, rfl, rfl, rfl, rfl, hg, hp, hq, hp3, hq3, h1, h2, h3, h4⟩
  · rw [h1]
    refine ⟨_, rfl, ?_, by simp⟩
    cases h : go_impl_apart k B L p' q' with
    | none => rw [h] at h2; cases h2
    | some r1 =>
      rw [h] at h2
      simp only [Option.bind_some] at h2 ⊢
      cases hr2 : (if (!(!r1.2.1)) = true then go_impl_graph_closes k r1.1 p' else some false) with
      | none => rw [hr2] at h2; cases h2
      | some r2 =>
        rw [hr2] at h2
        simp only [Option.bind_some] at h2 ⊢
        cases hr3 : (if (!((!r1.2.1) || (!r2))) = true then go_impl_graph_closes k r1.1 q' else some false) with
        | none => rw [hr3] at h2; cases h2
        | some r3 =>
          rw [hr3] at h2
          simp only [Option.bind_some, Option.map_some] at h2 ⊢
          rw [if_pos (Option.some.inj h2)]
  · rw [h1, h2]
    simp only [Option.bind_some, h3, h4, Bool.not_true, Bool.not_false, if_true, Bool.or_self, Bool.false_or, Bool.false_eq_true, if_false]
    rw [specJoin hk hg hp.toPathN hq.toPathN, implJoin hk hg hp.toPathN hq.toPathN _ rfl]
    refine ⟨_, rfl, rfl, ?_⟩
    have := hp.len64
    have := hq.len64
    cases h : joinAll W a b p q with
    | none => simp
    | some l =>
      have := joinAll_length h
      simp only [zs_length]
      omega

end Go.Lg
