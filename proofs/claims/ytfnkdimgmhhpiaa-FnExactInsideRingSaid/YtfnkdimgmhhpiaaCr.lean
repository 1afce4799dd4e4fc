/-
  Plain law: the program and the reference tell of two leaps in the same way whether they cross.
-/
import Derived.Test.YtfnkdimgmhhpiaaWk
import Derived.Test.YtfnkdimgmhhpiaaGeo
import Derived.Test.YtfnkdimgmhhpiaaGenR
set_option linter.unusedVariables false
set_option linter.unusedSimpArgs false
namespace Go.Lg
open Go.RowKit Go.IntWalk

variable {k : Nat}

/-! ### bounds -/

theorem mul_bd {x y : Int} (h1 : -1000 ≤ x) (h2 : x ≤ 1000) (h3 : -1000 ≤ y) (h4 : y ≤ 1000) : -1000000 ≤ x * y ∧ x * y ≤ 1000000 := by
  have a1 := Int.mul_nonneg (show 0 ≤ 1000 - x by omega) (show 0 ≤ 1000 + y by omega)
  have a2 := Int.mul_nonneg (show 0 ≤ 1000 + x by omega) (show 0 ≤ 1000 - y by omega)
  have a3 := Int.mul_nonneg (show 0 ≤ 1000 - x by omega) (show 0 ≤ 1000 - y by omega)
  have a4 := Int.mul_nonneg (show 0 ≤ 1000 + x by omega) (show 0 ≤ 1000 + y by omega)
  constructor <;> grind

theorem wsub {x y : Nat} (hx : x ≤ 1000) (hy : y ≤ 1000) : IntKind.i64.wrap ((x : Int) - (y : Int)) = (x : Int) - (y : Int) := w64 (by omega) (by omega)

theorem wmul_d {x y z u : Nat} (hx : x ≤ 1000) (hy : y ≤ 1000) (hz : z ≤ 1000) (hu : u ≤ 1000) : IntKind.i64.wrap (((x : Int) - (y : Int)) * ((z : Int) - (u : Int))) = ((x : Int) - (y : Int)) * ((z : Int) - (u : Int)) := by
  have := mul_bd (x := (x : Int) - y) (y := (z : Int) - u) (by omega) (by omega) (by omega) (by omega)
  exact w64 (by omega) (by omega)

theorem wtri {ax ay bx bz cx cy : Nat} (h1 : ax ≤ 1000) (h2 : ay ≤ 1000) (h3 : bx ≤ 1000) (h4 : bz ≤ 1000) (h5 : cx ≤ 1000) (h6 : cy ≤ 1000) :
    IntKind.i64.wrap (((bx : Int) - ax) * ((cy : Int) - ay) - ((bz : Int) - ay) * ((cx : Int) - ax)) = tri ax ay bx bz cx cy := by
  have e1 := mul_bd (x := (bx : Int) - ax) (y := (cy : Int) - ay) (by omega) (by omega) (by omega) (by omega)
  have e2 := mul_bd (x := (bz : Int) - ay) (y := (cx : Int) - ax) (by omega) (by omega) (by omega) (by omega)
  unfold tri
  exact w64 (by omega) (by omega)

/-! ### signs -/

def sg (n : Int) : Int := if 0 < n then 1 else if n < 0 then -1 else 0

theorem sg_zero {n : Int} : (sg n = 0) ↔ n = 0 := by unfold sg; split <;> (try split) <;> omega
theorem sg_cases (n : Int) : (sg n = 1 ∧ 0 < n) ∨ (sg n = -1 ∧ n < 0) ∨ (sg n = 0 ∧ n = 0) := by unfold sg; split <;> (try split) <;> omega
theorem sg_mul (p q : Int) : IntKind.i64.wrap (sg p * sg q) = sg p * sg q := by
  rcases sg_cases p with ⟨h, _⟩ | ⟨h, _⟩ | ⟨h, _⟩ <;> rcases sg_cases q with ⟨h', _⟩ | ⟨h', _⟩ | ⟨h', _⟩ <;> rw [h, h'] <;> decide
theorem sg_opp (p q : Int) : (sg p * sg q < 0) ↔ opp p q := by
  unfold opp
  rcases sg_cases p with ⟨h, h1⟩ | ⟨h, h1⟩ | ⟨h, h1⟩ <;> rcases sg_cases q with ⟨h', h2⟩ | ⟨h', h2⟩ | ⟨h', h2⟩ <;> rw [h, h'] <;> omega

theorem sign_eq (n : Int) : go_impl_sign k n = some (sg n) := by
  unfold go_impl_sign sg
  simp only [decide_eq_true_eq]
  split
  · rfl
  · split <;> rfl
theorem l1Sign_eq (n : Int) : go_spec_l1Sign k n = some (sg n) := by
  unfold go_spec_l1Sign sg
  simp only [decide_eq_true_eq]
  split
  · rfl
  · split <;> rfl

/-! ### the program's -/

abbrev PT : Type := Int × (Int × Unit)
def pt (x y : Nat) : PT := ((x : Int), ((y : Int), ()))

section
variable {ax ay bx bz cx cy dx dy : Nat}

theorem turn_eq (h1 : ax ≤ 1000) (h2 : ay ≤ 1000) (h3 : bx ≤ 1000) (h4 : bz ≤ 1000) (h5 : cx ≤ 1000) (h6 : cy ≤ 1000) : go_impl_turn k (pt ax ay) (pt bx bz) (pt cx cy) = some (tri ax ay bx bz cx cy) := by
  unfold go_impl_turn pt
  simp only [wsub h3 h1, wsub h6 h2, wsub h4 h2, wsub h5 h1, wmul_d h3 h1 h6 h2, wmul_d h4 h2 h5 h1, wtri h1 h2 h3 h4 h5 h6]

def betw (ax ay bx bz px py : Int) : Prop := (min ax bx ≤ px ∧ px ≤ max ax bx) ∧ (min ay bz ≤ py ∧ py ≤ max ay bz)
instance (ax ay bx bz px py : Int) : Decidable (betw ax ay bx bz px py) := by unfold betw; exact inferInstance

theorem betw_iff {ax ay bx bz px py : Int} : betw ax ay bx bz px py ↔ (ax - px) * (bx - px) ≤ 0 ∧ (ay - py) * (bz - py) ≤ 0 := by
  unfold betw
  rw [prod_le, prod_le]
  omega

theorem between_eq : go_impl_between k (pt ax ay) (pt bx bz) (pt cx cy) = some (decide (betw ax ay bx bz cx cy)) := by
  unfold go_impl_between pt betw
  congr 1
  rw [Bool.eq_iff_iff]
  simp only [Bool.and_eq_true, decide_eq_true_eq, and_assoc]

theorem place_eq (h1 : ax ≤ 1000) (h2 : ay ≤ 1000) (h3 : bx ≤ 1000) (h4 : bz ≤ 1000) (h5 : cx ≤ 1000) (h6 : cy ≤ 1000) : go_impl_inLine_1 k (pt cx cy) ((ax : Int), ((ay : Int), ())) ((bx : Int) - ax) ((bz : Int) - ay) = some (dotP ax ay bx bz cx cy) := by
  have e1 := mul_bd (x := (cx : Int) - ax) (y := (bx : Int) - ax) (by omega) (by omega) (by omega) (by omega)
  have e2 := mul_bd (x := (cy : Int) - ay) (y := (bz : Int) - ay) (by omega) (by omega) (by omega) (by omega)
  unfold go_impl_inLine_1 pt dotP
  simp only [wsub h5 h1, wsub h6 h2, wmul_d h5 h1 h3 h1, wmul_d h6 h2 h4 h2]
  rw [w64 (by omega) (by omega)]

theorem inLine_eq (h1 : ax ≤ 1000) (h2 : ay ≤ 1000) (h3 : bx ≤ 1000) (h4 : bz ≤ 1000) (h5 : cx ≤ 1000) (h6 : cy ≤ 1000) (h7 : dx ≤ 1000) (h8 : dy ≤ 1000) :
    go_impl_inLine k (pt ax ay) (pt bx bz) (pt cx cy) (pt dx dy) = some (decide (max (min (dotP ax ay bx bz cx cy) (dotP ax ay bx bz dx dy)) 0 < min (max (dotP ax ay bx bz cx cy) (dotP ax ay bx bz dx dy)) (dotP ax ay bx bz bx bz))) := by
  unfold go_impl_inLine
  have p1 : (pt ax ay).1 = (ax : Int) := rfl
  have p2 : (pt ax ay).2.1 = (ay : Int) := rfl
  have p3 : (pt bx bz).1 = (bx : Int) := rfl
  have p4 : (pt bx bz).2.1 = (bz : Int) := rfl
  simp only [p1, p2, p3, p4, wsub h3 h1, wsub h4 h2, place_eq h1 h2 h3 h4 h5 h6, place_eq h1 h2 h3 h4 h7 h8, place_eq h1 h2 h3 h4 h3 h4, Option.bind_some]

instance (ax ay bx bz cx cy dx dy : Int) : Decidable (ImplX ax ay bx bz cx cy dx dy) := by unfold ImplX; exact inferInstance
instance (ax ay bx bz cx cy dx dy : Int) : Decidable (SpecX ax ay bx bz cx cy dx dy) := by unfold SpecX; exact inferInstance

theorem crosses_eq (h1 : ax ≤ 1000) (h2 : ay ≤ 1000) (h3 : bx ≤ 1000) (h4 : bz ≤ 1000) (h5 : cx ≤ 1000) (h6 : cy ≤ 1000) (h7 : dx ≤ 1000) (h8 : dy ≤ 1000) :
    go_impl_crosses k (pt ax ay) (pt bx bz) (pt cx cy) (pt dx dy) = some (decide (ImplX ax ay bx bz cx cy dx dy)) := by
  unfold go_impl_crosses
  simp only [turn_eq h1 h2 h3 h4 h5 h6, turn_eq h1 h2 h3 h4 h7 h8, turn_eq h5 h6 h7 h8 h1 h2, turn_eq h5 h6 h7 h8 h3 h4, sign_eq, Option.bind_some, sg_mul, inLine_eq h1 h2 h3 h4 h5 h6 h7 h8, between_eq]
  have z : ∀ n : Int, decide (sg n = 0) = decide (n = 0) := fun n => by rw [decide_eq_decide]; exact sg_zero
  have o : ∀ p q : Int, decide (sg p * sg q < 0) = decide (opp p q) := fun p q => by rw [decide_eq_decide]; exact sg_opp p q
  simp only [z, o]
  have c1 : (pt ax ay).1 = (ax : Int) := rfl
  have c2 : (pt ax ay).2.1 = (ay : Int) := rfl
  have c3 : (pt bx bz).1 = (bx : Int) := rfl
  have c4 : (pt bx bz).2.1 = (bz : Int) := rfl
  have c5 : (pt cx cy).1 = (cx : Int) := rfl
  have c6 : (pt cx cy).2.1 = (cy : Int) := rfl
  have c7 : (pt dx dy).1 = (dx : Int) := rfl
  have c8 : (pt dx dy).2.1 = (dy : Int) := rfl
  simp only [c1, c2, c3, c4, c5, c6, c7, c8]
  unfold ImplX onSeg
  simp only [← betw_iff]
  generalize tri (ax : Int) ay bx bz cx cy = p
  generalize tri (ax : Int) ay bx bz dx dy = q
  generalize tri (cx : Int) cy dx dy ax ay = r
  generalize tri (cx : Int) cy dx dy bx bz = s
  by_cases hpq : p = 0 ∧ q = 0
  · rw [if_pos (by simp [hpq.1, hpq.2])]
    simp only [if_pos hpq]
  · have hb : (decide (p = 0) && decide (q = 0)) = false := by
      rw [← Bool.not_eq_true, Bool.and_eq_true, decide_eq_true_eq, decide_eq_true_eq]; exact hpq
    rw [hb, if_neg (by decide)]
    simp only [if_neg hpq]
    by_cases hsh : ((ax : Int) = cx ∧ (ay : Int) = cy) ∨ ((ax : Int) = dx ∧ (ay : Int) = dy) ∨ ((bx : Int) = cx ∧ (bz : Int) = cy) ∨ ((bx : Int) = dx ∧ (bz : Int) = dy)
    · rw [if_pos (by simp only [Bool.or_eq_true, Bool.and_eq_true, decide_eq_true_eq]; omega)]
      simp only [if_pos hsh, decide_false]
    · rw [if_neg (by simp only [Bool.or_eq_true, Bool.and_eq_true, decide_eq_true_eq]; omega)]
      simp only [if_neg hsh]
      by_cases ho : opp p q ∧ opp r s
      · rw [if_pos (by simp [ho.1, ho.2])]
        have : decide (((opp p q ∧ opp r s) ∨ (p = 0 ∧ betw ax ay bx bz cx cy) ∨ (q = 0 ∧ betw ax ay bx bz dx dy) ∨ (r = 0 ∧ betw cx cy dx dy ax ay) ∨ (s = 0 ∧ betw cx cy dx dy bx bz))) = true := decide_eq_true (.inl ho)
        rw [this]
      · have hb2 : (decide (opp p q) && decide (opp r s)) = false := by
          rw [← Bool.not_eq_true, Bool.and_eq_true, decide_eq_true_eq, decide_eq_true_eq]; exact ho
        rw [hb2, if_neg (by decide)]
        have e : decide (((opp p q ∧ opp r s) ∨ (p = 0 ∧ betw ax ay bx bz cx cy) ∨ (q = 0 ∧ betw ax ay bx bz dx dy) ∨ (r = 0 ∧ betw cx cy dx dy ax ay) ∨ (s = 0 ∧ betw cx cy dx dy bx bz))) =
            ((decide (p = 0) && decide (betw ax ay bx bz cx cy)) || ((decide (q = 0) && decide (betw ax ay bx bz dx dy)) || ((decide (r = 0) && decide (betw cx cy dx dy ax ay)) || (decide (s = 0) && decide (betw cx cy dx dy bx bz))))) := by
          rw [Bool.eq_iff_iff]
          simp only [decide_eq_true_eq, Bool.or_eq_true, Bool.and_eq_true]
          constructor
          · rintro (h | h)
            · exact absurd h ho
            · exact h
          · exact .inr
        rw [e]
        cases decide (p = 0) <;> cases decide (betw ax ay bx bz cx cy) <;> cases decide (q = 0) <;> cases decide (betw ax ay bx bz dx dy) <;> cases decide (r = 0) <;> cases decide (betw cx cy dx dy ax ay) <;> cases decide (s = 0) <;> cases decide (betw cx cy dx dy bx bz) <;> rfl

end

section
variable {W H a b : Nat} {hs : List Nat}

theorem cell_bd (hg : Gd W H hs) {c : Nat} (hc : c ≤ 1000) : c % W ≤ 1000 ∧ c / W ≤ 1000 := by
  have := hg.w1
  have := hg.w8
  exact ⟨by have := Nat.mod_lt c (show 0 < W by omega); omega, by have := Nat.div_le_self c W; omega⟩

theorem at_eq (hg : Gd W H hs) {c : Nat} (hc : c ≤ 1000) : go_impl_Board_at k (bd W H hs) (c : Int) = some (pt (c % W) (c / W)) := by
  have hW : decide ((bd W H hs).1 ≠ 0) = true := by have := hg.w1; simp [bd]; omega
  have h1 : (bd W H hs).1 = (W : Int) := rfl
  have hd := (cell_bd hg hc).2
  unfold go_impl_Board_at
  simp only [hW, if_true, h1, tmod_nat, tdiv_nat, wnat (show c / W < 9223372036854775808 by omega)]
  rfl

/-- Whether two leaps cross. -/
def crX (W p q r s : Nat) : Bool := decide (SpecX ((p % W : Nat) : Int) ((p / W : Nat) : Int) ((q % W : Nat) : Int) ((q / W : Nat) : Int) ((r % W : Nat) : Int) ((r / W : Nat) : Int) ((s % W : Nat) : Int) ((s / W : Nat) : Int))

theorem cell_same {p r : Nat} : p = r ↔ (((p % W : Nat) : Int) = ((r % W : Nat) : Int) ∧ ((p / W : Nat) : Int) = ((r / W : Nat) : Int)) := by
  constructor
  · rintro rfl; exact ⟨rfl, rfl⟩
  · rintro ⟨h1, h2⟩
    have h1' : p % W = r % W := by omega
    have h2' : p / W = r / W := by omega
    rw [← Nat.div_add_mod p W, ← Nat.div_add_mod r W, h1', h2']

theorem cross_eq (hg : Gd W H hs) {p q r s : Nat} (hp : p ≤ 1000) (hq : q ≤ 1000) (hr : r ≤ 1000) (hs' : s ≤ 1000) (hpq : p ≠ q) (hrs : r ≠ s) :
    go_impl_graph_cross k (some (graph W H hs a b)) (p : Int) (q : Int) (r : Int) (s : Int) = some (crX W p q r s) := by
  have hG : (graph W H hs a b).1 = bd W H hs := rfl
  unfold go_impl_graph_cross
  simp only [Option.isSome_some, if_true, Option.getD_some, hG, at_eq hg hp, at_eq hg hq, at_eq hg hr, at_eq hg hs', Option.bind_some,
    crosses_eq (cell_bd hg hp).1 (cell_bd hg hp).2 (cell_bd hg hq).1 (cell_bd hg hq).2 (cell_bd hg hr).1 (cell_bd hg hr).2 (cell_bd hg hs').1 (cell_bd hg hs').2]
  unfold crX
  congr 1
  rw [decide_eq_decide]
  exact cross_same (fun h => hpq (cell_same.2 h)) (fun h => hrs (cell_same.2 h))

theorem crCross_eq (hg : Gd W H hs) {p q r : Nat} (hp : p ≤ 1000) (hq : q ≤ 1000) (hr : r ≤ 1000) :
    go_spec_crCross k (bd W H hs) (p : Int) (q : Int) (r : Int) = some (tri ((p % W : Nat) : Int) ((p / W : Nat) : Int) ((q % W : Nat) : Int) ((q / W : Nat) : Int) ((r % W : Nat) : Int) ((r / W : Nat) : Int)) := by
  have hW : decide ((bd W H hs).1 ≠ 0) = true := by have := hg.w1; simp [bd]; omega
  have h1 : (bd W H hs).1 = (W : Int) := rfl
  obtain ⟨p1, p2⟩ := cell_bd hg hp
  obtain ⟨q1, q2⟩ := cell_bd hg hq
  obtain ⟨r1, r2⟩ := cell_bd hg hr
  unfold go_spec_crCross
  simp only [hW, if_true, h1, tmod_nat, tdiv_nat, wnat (show p / W < 9223372036854775808 by omega), wnat (show q / W < 9223372036854775808 by omega), wnat (show r / W < 9223372036854775808 by omega), wsub q1 p1, wsub r2 p2, wsub q2 p2, wsub r1 p1, wmul_d q1 p1 r2 p2, wmul_d q2 p2 r1 p1, wtri p1 p2 q1 q2 r1 r2]

def segX (W p q r : Nat) : Bool := decide (onSeg ((p % W : Nat) : Int) ((p / W : Nat) : Int) ((q % W : Nat) : Int) ((q / W : Nat) : Int) ((r % W : Nat) : Int) ((r / W : Nat) : Int))

theorem crOn_eq (hg : Gd W H hs) {p q r : Nat} (hp : p ≤ 1000) (hq : q ≤ 1000) (hr : r ≤ 1000) : go_spec_crOn k (bd W H hs) (p : Int) (q : Int) (r : Int) = some (segX W p q r) := by
  have hW : decide ((bd W H hs).1 ≠ 0) = true := by have := hg.w1; simp [bd]; omega
  have h1 : (bd W H hs).1 = (W : Int) := rfl
  obtain ⟨p1, p2⟩ := cell_bd hg hp
  obtain ⟨q1, q2⟩ := cell_bd hg hq
  obtain ⟨r1, r2⟩ := cell_bd hg hr
  unfold go_spec_crOn
  simp only [crCross_eq hg hp hq hr, Option.bind_some, hW, Bool.or_true, if_true, h1, tmod_nat, tdiv_nat, wnat (show p / W < 9223372036854775808 by omega), wnat (show q / W < 9223372036854775808 by omega), wnat (show r / W < 9223372036854775808 by omega), wsub p1 r1, wsub q1 r1, wsub p2 r2, wsub q2 r2, wmul_d p1 r1 q1 r1, wmul_d p2 r2 q2 r2]
  unfold segX onSeg
  congr 1
  rw [Bool.eq_iff_iff]
  simp only [Bool.and_eq_true, decide_eq_true_eq, and_assoc]
  exact decide_eq_true_iff.symm

theorem crDo_eq (hk : K0 ≤ k) (hg : Gd W H hs) {p q r s : Nat} (hp : p ≤ 1000) (hq : q ≤ 1000) (hr : r ≤ 1000) (hs' : s ≤ 1000) : go_spec_crDo k (bd W H hs) (p : Int) (q : Int) (r : Int) (s : Int) = some (crX W p q r s) := by
  have eqd : ∀ m n : Nat, decide ((m : Int) = (n : Int)) = decide (m = n) := fun m n => by rw [decide_eq_decide]; omega
  have hX : crX W p q r s = ((decide (p = r) && decide (q = s)) || (decide (p = s) && decide (q = r)) ||
      ((segX W p q r && !decide (r = p)) && !decide (r = q)) || ((segX W p q s && !decide (s = p)) && !decide (s = q)) || ((segX W r s p && !decide (p = r)) && !decide (p = s)) || ((segX W r s q && !decide (q = r)) && !decide (q = s)) ||
      (decide (opp (tri ((p % W : Nat) : Int) ((p / W : Nat) : Int) ((q % W : Nat) : Int) ((q / W : Nat) : Int) ((r % W : Nat) : Int) ((r / W : Nat) : Int)) (tri ((p % W : Nat) : Int) ((p / W : Nat) : Int) ((q % W : Nat) : Int) ((q / W : Nat) : Int) ((s % W : Nat) : Int) ((s / W : Nat) : Int))) &&
       decide (opp (tri ((r % W : Nat) : Int) ((r / W : Nat) : Int) ((s % W : Nat) : Int) ((s / W : Nat) : Int) ((p % W : Nat) : Int) ((p / W : Nat) : Int)) (tri ((r % W : Nat) : Int) ((r / W : Nat) : Int) ((s % W : Nat) : Int) ((s / W : Nat) : Int) ((q % W : Nat) : Int) ((q / W : Nat) : Int))))) := by
    unfold crX segX SpecX
    rw [Bool.eq_iff_iff]
    simp only [decide_eq_true_eq, Bool.or_eq_true, Bool.and_eq_true, Bool.not_eq_true', decide_eq_false_iff_not, ← cell_same (W := W)]
    constructor
    · rintro ((h | h) | ⟨h1, h2, h3⟩ | ⟨h1, h2, h3⟩ | ⟨h1, h2, h3⟩ | ⟨h1, h2, h3⟩ | h)
      · exact .inl (.inl (.inl (.inl (.inl (.inl h)))))
      · exact .inl (.inl (.inl (.inl (.inl (.inr h)))))
      · exact .inl (.inl (.inl (.inl (.inr ⟨⟨h1, h2⟩, h3⟩))))
      · exact .inl (.inl (.inl (.inr ⟨⟨h1, h2⟩, h3⟩)))
      · exact .inl (.inl (.inr ⟨⟨h1, h2⟩, h3⟩))
      · exact .inl (.inr ⟨⟨h1, h2⟩, h3⟩)
      · exact .inr h
    · rintro ((((((h | h) | ⟨⟨h1, h2⟩, h3⟩) | ⟨⟨h1, h2⟩, h3⟩) | ⟨⟨h1, h2⟩, h3⟩) | ⟨⟨h1, h2⟩, h3⟩) | h)
      · exact .inl (.inl h)
      · exact .inl (.inr h)
      · exact .inr (.inl ⟨h1, h2, h3⟩)
      · exact .inr (.inr (.inl ⟨h1, h2, h3⟩))
      · exact .inr (.inr (.inr (.inl ⟨h1, h2, h3⟩)))
      · exact .inr (.inr (.inr (.inr (.inl ⟨h1, h2, h3⟩))))
      · exact .inr (.inr (.inr (.inr (.inr h))))
  have last : go_spec_crDo_L1 k (bd W H hs) (p : Int) (q : Int) (r : Int) (s : Int) (0 : Int) = some (((segX W r s p && !decide (p = r)) && !decide (p = s)) || ((segX W r s q && !decide (q = r)) && !decide (q = s)) ||
      (decide (opp (tri ((p % W : Nat) : Int) ((p / W : Nat) : Int) ((q % W : Nat) : Int) ((q / W : Nat) : Int) ((r % W : Nat) : Int) ((r / W : Nat) : Int)) (tri ((p % W : Nat) : Int) ((p / W : Nat) : Int) ((q % W : Nat) : Int) ((q / W : Nat) : Int) ((s % W : Nat) : Int) ((s / W : Nat) : Int))) &&
       decide (opp (tri ((r % W : Nat) : Int) ((r / W : Nat) : Int) ((s % W : Nat) : Int) ((s / W : Nat) : Int) ((p % W : Nat) : Int) ((p / W : Nat) : Int)) (tri ((r % W : Nat) : Int) ((r / W : Nat) : Int) ((s % W : Nat) : Int) ((s / W : Nat) : Int) ((q % W : Nat) : Int) ((q / W : Nat) : Int))))) := by
    unfold go_spec_crDo_L1
    have := iter_find1 (F := fun rec11 x10 => go_spec_crDo_L1_G k (bd W H hs) (p : Int) (q : Int) (r : Int) (s : Int) rec11 x10) (fun i => (i : Int)) [p, q] (fun e => (segX W r s e && !decide (e = r)) && !decide (e = s))
      (yes := fun _ => some true) (no := some (decide (opp (tri ((p % W : Nat) : Int) ((p / W : Nat) : Int) ((q % W : Nat) : Int) ((q / W : Nat) : Int) ((r % W : Nat) : Int) ((r / W : Nat) : Int)) (tri ((p % W : Nat) : Int) ((p / W : Nat) : Int) ((q % W : Nat) : Int) ((q / W : Nat) : Int) ((s % W : Nat) : Int) ((s / W : Nat) : Int))) &&
       decide (opp (tri ((r % W : Nat) : Int) ((r / W : Nat) : Int) ((s % W : Nat) : Int) ((s / W : Nat) : Int) ((p % W : Nat) : Int) ((p / W : Nat) : Int)) (tri ((r % W : Nat) : Int) ((r / W : Nat) : Int) ((s % W : Nat) : Int) ((s / W : Nat) : Int) ((q % W : Nat) : Int) ((q / W : Nat) : Int))))) (m := k) (x0 := (0 : Int)) rfl (by unfold K0 at hk; simp; omega)
      (fun i e he rec => by
        have hi := length_lt he
        unfold go_spec_crDo_L1_G
        have e1 : [(p : Int), (q : Int)].getD i 0 = (e : Int) := zs_get (l := [p, q]) he
        have he' : e ≤ 1000 := by
          have := List.mem_of_getElem? he
          simp at this
          rcases this with rfl | rfl <;> assumption
        have e2 : decide ((i : Int) < ([(p : Int), (q : Int)].length : Int)) = true := by simp at hi ⊢; omega
        simp only [e2, inb_lt (show i < [(p : Int), (q : Int)].length by simpa using hi), if_true, Int.toNat_natCast, e1, crOn_eq hg hr hs' he', Option.bind_some, eqd, wsucc (show i < 9223372036854775807 by simp at hi; omega)])
      (fun rec => by
        unfold go_spec_crDo_L1_G
        rw [if_neg (by simp)]
        simp only [crCross_eq hg hp hq hr, crCross_eq hg hp hq hs', crCross_eq hg hr hs' hp, crCross_eq hg hr hs' hq, l1Sign_eq, Option.bind_some, sg_mul]
        generalize tri ((p % W : Nat) : Int) ((p / W : Nat) : Int) ((q % W : Nat) : Int) ((q / W : Nat) : Int) ((r % W : Nat) : Int) ((r / W : Nat) : Int) = A
        generalize tri ((p % W : Nat) : Int) ((p / W : Nat) : Int) ((q % W : Nat) : Int) ((q / W : Nat) : Int) ((s % W : Nat) : Int) ((s / W : Nat) : Int) = B
        generalize tri ((r % W : Nat) : Int) ((r / W : Nat) : Int) ((s % W : Nat) : Int) ((s / W : Nat) : Int) ((p % W : Nat) : Int) ((p / W : Nat) : Int) = D
        generalize tri ((r % W : Nat) : Int) ((r / W : Nat) : Int) ((s % W : Nat) : Int) ((s / W : Nat) : Int) ((q % W : Nat) : Int) ((q / W : Nat) : Int) = E
        have o : ∀ p q : Int, decide (sg p * sg q < 0) = decide (opp p q) := fun p q => by rw [decide_eq_decide]; exact sg_opp p q
        rw [o A B]
        cases decide (opp A B) with
        | false => rfl
        | true =>
          simp only [if_true, Option.bind_some, l1Sign_eq, sg_mul, o])
    refine Eq.trans this ?_
    simp only [List.find?_cons, List.find?_nil]
    cases ((segX W r s p && !decide (p = r)) && !decide (p = s)) <;> cases ((segX W r s q && !decide (q = r)) && !decide (q = s)) <;> simp
  rw [hX]
  unfold go_spec_crDo go_spec_crDo_T
  simp only [eqd]
  cases hsame : ((decide (p = r) && decide (q = s)) || (decide (p = s) && decide (q = r))) with
  | true => simp
  | false =>
    rw [if_neg (by decide)]
    unfold go_spec_crDo_L0
    have := iter_find1 (F := fun rec5 x4 => go_spec_crDo_L0_G k (bd W H hs) (p : Int) (q : Int) (r : Int) (s : Int) (fun y => go_spec_crDo_L1 k (bd W H hs) (p : Int) (q : Int) (r : Int) (s : Int) y) rec5 x4) (fun i => (i : Int)) [r, s] (fun e => (segX W p q e && !decide (e = p)) && !decide (e = q))
      (yes := fun _ => some true) (no := go_spec_crDo_L1 k (bd W H hs) (p : Int) (q : Int) (r : Int) (s : Int) (0 : Int)) (m := k) (x0 := (0 : Int)) rfl (by unfold K0 at hk; simp; omega)
      (fun i e he rec => by
        have hi := length_lt he
        unfold go_spec_crDo_L0_G
        have e1 : [(r : Int), (s : Int)].getD i 0 = (e : Int) := zs_get (l := [r, s]) he
        have he' : e ≤ 1000 := by
          have := List.mem_of_getElem? he
          simp at this
          rcases this with rfl | rfl <;> assumption
        have e2 : decide ((i : Int) < ([(r : Int), (s : Int)].length : Int)) = true := by simp at hi ⊢; omega
        simp only [e2, inb_lt (show i < [(r : Int), (s : Int)].length by simpa using hi), if_true, Int.toNat_natCast, e1, crOn_eq hg hp hq he', Option.bind_some, eqd, wsucc (show i < 9223372036854775807 by simp at hi; omega)])
      (fun rec => by
        unfold go_spec_crDo_L0_G
        rw [if_neg (by simp)])
    refine Eq.trans this ?_
    rw [last]
    simp only [List.find?_cons, List.find?_nil, Bool.false_or]
    cases ((segX W p q r && !decide (r = p)) && !decide (r = q)) <;> cases ((segX W p q s && !decide (s = p)) && !decide (s = q)) <;> simp

end
end Go.Lg
