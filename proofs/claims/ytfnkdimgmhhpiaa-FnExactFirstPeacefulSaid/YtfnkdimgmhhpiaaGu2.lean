/-
  Plain law: the reference's search over all sets.
-/
import Derived.Test.YtfnkdimgmhhpiaaPl7
import Derived.Test.YtfnkdimgmhhpiaaOnes
import Derived.Test.YtfnkdimgmhhpiaaGu1
set_option linter.unusedVariables false
set_option linter.unusedSimpArgs false
namespace Go.Lg
open Go.RowKit Go.IntWalk

variable {k : Nat}

section
variable {W H a b : Nat} {hs : List Nat}

theorem hasN_lt0 {c : Nat} (h : hasN W H hs c = true) : c < W * H := by simp [hasN] at h; exact h.1

theorem adj_irr0 {c : Nat} (hab : a ≤ b) (hb1 : 1 ≤ b) : adj W a b c c = false := by
  have h0 : ∀ x, dist1 x x = 0 := fun x => by unfold dist1; omega
  have hb0 : ¬ 0 = b := by omega
  simp [adj, h0, hb0]

/-- The bits of the cells before j to which one leaps from the cell i. -/
def mk1 (W a b : Nat) (cs : List Nat) (i : Nat) : Nat → Nat
  | 0 => 0
  | j + 1 => if adj W a b (cs.getD i 0) (cs.getD j 0) = true then mk1 W a b cs i j ||| 2 ^ j else mk1 W a b cs i j

theorem mk1_bit (W a b : Nat) (cs : List Nat) (i t : Nat) : ∀ j, (mk1 W a b cs i j).testBit t = (decide (t < j) && adj W a b (cs.getD i 0) (cs.getD t 0))
  | 0 => by simp [mk1]
  | j + 1 => by
    unfold mk1
    by_cases htj : j = t
    · subst htj
      have h1 : ¬ j < j := by omega
      split
      · rename_i h
        rw [Nat.testBit_or, mk1_bit W a b cs i j j, Nat.testBit_two_pow, h]
        simp
      · rename_i h
        rw [mk1_bit W a b cs i j j]
        simp only [Bool.not_eq_true] at h
        rw [h]; simp
    · have e : decide (t < j + 1) = decide (t < j) := by
        by_cases h : t < j
        · have : t < j + 1 := by omega
          simp [h, this]
        · have : ¬ t < j + 1 := by omega
          simp [h, this]
      rw [e]
      split
      · rw [Nat.testBit_or, mk1_bit W a b cs i t j, Nat.testBit_two_pow]
        simp [htj]
      · exact mk1_bit W a b cs i t j

theorem mk1_lt (W a b : Nat) (cs : List Nat) (i : Nat) : ∀ j, mk1 W a b cs i j < 2 ^ j
  | 0 => by simp [mk1]
  | j + 1 => by
    have ih := mk1_lt W a b cs i j
    have h2 : 2 ^ (j + 1) = 2 * 2 ^ j := by rw [Nat.pow_succ]; omega
    unfold mk1
    split
    · exact Nat.or_lt_two_pow (by omega) (by omega)
    · omega

def nearM (W H : Nat) (hs : List Nat) (a b i : Nat) : Nat := mk1 W a b (cells W H hs) i (cells W H hs).length

theorem nearM_lt (i : Nat) : nearM W H hs a b i < 2 ^ (cells W H hs).length := mk1_lt _ _ _ _ _ _
theorem nearM_irr (hab : a ≤ b) (hb1 : 1 ≤ b) (i : Nat) : (nearM W H hs a b i).testBit i = false := by
  unfold nearM
  rw [mk1_bit, adj_irr0 hab hb1, Bool.and_false]
theorem nearM_sym {i j : Nat} (hi : i < (cells W H hs).length) (hj : j < (cells W H hs).length) : (nearM W H hs a b i).testBit j = (nearM W H hs a b j).testBit i := by
  unfold nearM
  rw [mk1_bit, mk1_bit, adj_comm, decide_eq_true hi, decide_eq_true hj]

theorem cellsD_le (hg : Gd W H hs) (i : Nat) : (cells W H hs).getD i 0 ≤ 1000 := by
  rw [List.getD_eq_getElem?_getD]
  cases h : (cells W H hs)[i]? with
  | none => simp
  | some c =>
    have := hasN_lt0 (mem_cells.1 (List.mem_of_getElem? h))
    have := hg.n64
    simp; omega

theorem guNew_eq (hk : K0 ≤ k) (hg : Gd W H hs) (hfew : (cells W H hs).length ≤ 16) : go_spec_guNew k (bd W H hs) (ld a b) = some (zs (cells W H hs), (zs ((List.range (cells W H hs).length).map fun i => 2 ^ i ||| nearM W H hs a b i), ())) := by
  unfold go_spec_guNew go_spec_guNew_T
  rw [boCells_eq hk hg]
  simp only [Option.bind_some]
  unfold go_spec_guNew_L0
  refine iter_path (F := fun rec36 x35 => go_spec_guNew_L0_G k (bd W H hs) (ld a b) (zs (cells W H hs)) (fun c0 y => go_spec_guNew_L1 k (bd W H hs) (ld a b) rec36 (zs (cells W H hs)) c0 y) rec36 x35)
    (fun i => ((i : Int), zs ((List.range i).map fun i => 2 ^ i ||| nearM W H hs a b i))) (cells W H hs).length rfl (by unfold K0 at hk; omega) (fun i hi rec => ?_) (fun rec => ?_)
  · unfold go_spec_guNew_L0_G
    have h0 : decide ((0 : Int) ≤ (i : Int)) = true := by simp
    have h1 : decide ((i : Int) < ((cells W H hs).length : Int)) = true := by simpa using hi
    have h2 : 2 ^ i < 2 ^ 16 := Nat.pow_lt_pow_right (by omega) (by omega)
    simp only [zs_length, h0, h1, inb_lt hi, if_true, Int.toNat_natCast, wpow (show i < 62 by omega)]
    unfold go_spec_guNew_L1
    refine iter_path (F := fun rec44 x43 => go_spec_guNew_L1_G k (bd W H hs) (ld a b) (zs (cells W H hs)) ((i : Int), zs ((List.range i).map fun i => 2 ^ i ||| nearM W H hs a b i)) rec rec44 x43)
      (fun j => (((2 ^ i ||| mk1 W a b (cells W H hs) i j : Nat) : Int), (j : Int))) (cells W H hs).length (by simp [mk1]) (by unfold K0 at hk; omega) (fun j hj rec2 => ?_) (fun rec2 => ?_)
    · unfold go_spec_guNew_L1_G
      have h4 : decide ((0 : Int) ≤ (j : Int)) = true := by simp
      have h3 : decide ((j : Int) < ((cells W H hs).length : Int)) = true := by simpa using hj
      have h5 : 2 ^ j < 2 ^ 16 := Nat.pow_lt_pow_right (by omega) (by omega)
      have h6 := mk1_lt W a b (cells W H hs) i j
      have h7 : 2 ^ i ||| mk1 W a b (cells W H hs) i j < 2 ^ 16 := Nat.or_lt_two_pow h2 (by omega)
      simp only [zs_length, h3, h4, inb_lt hj, if_true, Int.toNat_natCast, wpow (show j < 62 by omega), zs_getD, boIs_eq hg (cellsD_le hg i) (cellsD_le hg j), Option.bind_some, wor (show 2 ^ i ||| mk1 W a b (cells W H hs) i j < 4611686018427387904 by omega) (show 2 ^ j < 4611686018427387904 by omega), wsucc (show j < 9223372036854775807 by omega)]
      cases h : adj W a b ((cells W H hs).getD i 0) ((cells W H hs).getD j 0) with
      | true => simp only [if_true, mk1, h, Nat.or_assoc]
      | false => simp only [mk1, h, Bool.false_eq_true, if_false]
    · unfold go_spec_guNew_L1_G
      have h3 : decide (((cells W H hs).length : Int) < ((cells W H hs).length : Int)) = false := by simp
      simp only [zs_length, h3, Bool.false_eq_true, if_false, List.length_map, List.length_range, List.length_singleton, lim_le (show i + 1 ≤ 1099511627776 by omega), if_true, wsucc (show i < 9223372036854775807 by omega), zs_single, ← zs_append]
      rw [List.range_succ, List.map_append]
      rfl
  · unfold go_spec_guNew_L0_G
    have h3 : decide (((cells W H hs).length : Int) < ((cells W H hs).length : Int)) = false := by simp
    simp only [zs_length, h3, Bool.false_eq_true, if_false]

theorem guBefore_eq {x y : List Nat} (hk : K0 ≤ k) (h : x.length = y.length) (hl : x.length ≤ 1048576) : go_spec_guBefore k (zs x) (zs y) = some (lexLt x y) := by
  unfold go_spec_guBefore go_spec_guBefore_T go_spec_guBefore_L0
  have hz : (x.zip y).length = x.length := by rw [List.length_zip, ← h, Nat.min_self]
  have := iter_find1 (F := fun rec4 x3 => go_spec_guBefore_L0_G k (zs x) (zs y) rec4 x3) (fun i => (i : Int)) (x.zip y) (fun p => decide (p.1 ≠ p.2))
    (yes := fun p => some (decide (p.1 < p.2))) (no := some false) (m := k) (x0 := (0 : Int)) rfl (by unfold K0 at hk; omega)
    (fun i p hp rec => by
      have hi := length_lt hp
      rw [hz] at hi
      have e : x[i]? = some p.1 ∧ y[i]? = some p.2 := List.getElem?_zip_eq_some.1 hp
      unfold go_spec_guBefore_L0_G
      have h1 : decide ((i : Int) < (x.length : Int)) = true := by simpa using hi
      simp only [zs_length, h1, inb_lt hi, inb_lt (show i < y.length by omega), if_true, Int.toNat_natCast, zs_get e.1, zs_get e.2, wsucc (show i < 9223372036854775807 by omega)]
      by_cases e1 : p.1 = p.2
      · simp [e1]
      · have : ¬ (p.1 : Int) = (p.2 : Int) := by omega
        simp [e1, this])
    (fun rec => by
      unfold go_spec_guBefore_L0_G
      rw [hz, if_neg (by simp)])
  refine Eq.trans this ?_
  unfold lexLt
  cases (x.zip y).find? (fun p => decide (p.1 ≠ p.2)) <;> rfl

theorem look_eq (hk : K0 ≤ k) {cs : List Nat} (hfew : cs.length ≤ 16) (st : GS) (m : Nat) (least : Bool) (S nr : List Int) (hc : st.2.1 ≤ 65536) (hs1 : st.1 ≤ 16) (hf : 0 < st.2.1 → st.2.2.length = st.1) :
    go_spec_guBest_look k ((st.1 : Int), ((st.2.1 : Int), (zs st.2.2, (S, ())))) (zs cs, (nr, ())) (m : Int) ((bits cs.length m : Nat) : Int) least =
      some ((), ((((updG cs cs.length least st m).1 : Int), (((updG cs cs.length least st m).2.1 : Int), (zs (updG cs cs.length least st m).2.2, (S, ())))), ((zs cs, (nr, ())), ((m : Int), (((bits cs.length m : Nat) : Int), (least, ())))))) := by
  obtain ⟨s, c, f⟩ := st
  have hb := bits_le cs.length m
  have hsl := sel_length cs m cs.length
  have hsl' := fun i => sel_length cs m i
  have hbl := fun i => bits_le i m
  simp only at hc hs1 hf ⊢
  have c1 : ((decide ((0 : Int) < (c : Int)) && ((decide ((s : Int) < ((bits cs.length m : Nat) : Int))) == least)) && !decide (((bits cs.length m : Nat) : Int) = (s : Int))) = decide (0 < c ∧ worse least (bits cs.length m) s = true) := by
    unfold worse
    generalize bits cs.length m = z
    rw [Bool.eq_iff_iff]
    cases least <;> simp <;> omega
  have c2 : (decide ((0 : Int) < (c : Int)) && decide (((bits cs.length m : Nat) : Int) = (s : Int))) = decide (0 < c ∧ bits cs.length m = s) := by
    generalize bits cs.length m = z
    rw [Bool.eq_iff_iff]
    simp; omega
  unfold go_spec_guBest_look go_spec_guBest_look_T
  simp only [c1, c2]
  unfold updG
  simp only [decide_eq_true_eq]
  by_cases h1 : 0 < c ∧ worse least (bits cs.length m) s = true
  · rw [if_pos h1, if_pos h1]
  · rw [if_neg h1, if_neg h1]
    by_cases h2 : 0 < c ∧ bits cs.length m = s
    · rw [if_pos h2, if_pos h2]
      unfold go_spec_guBest_look_L0
      refine iter_path (F := fun rec8 x7 => go_spec_guBest_look_L0_G k ((s : Int), ((c : Int), (zs f, (S, ())))) (zs cs, (nr, ())) (m : Int) ((bits cs.length m : Nat) : Int) least rec8 x7)
        (fun i => ((i : Int), zs (sel cs m i))) cs.length rfl (by unfold K0 at hk; omega) (fun i hi rec => ?_) (fun rec => ?_)
      · unfold go_spec_guBest_look_L0_G
        have e1 : decide ((i : Int) < (cs.length : Int)) = true := by simpa using hi
        have e0 : decide ((0 : Int) ≤ (i : Int)) = true := by simp
        have e2 := hbl i
        simp only [zs_length, e0, e1, inb_lt hi, if_true, Int.toNat_natCast, bit1 (show i < 64 by omega), zs_getD, List.length_singleton, hsl', lim_le (show bits i m + 1 ≤ 1099511627776 by omega), wsucc (show i < 9223372036854775807 by omega), zs_single, ← zs_append]
        cases ht : m.testBit i with
        | true => simp [sel, ht]
        | false => simp [sel, ht]
      · unfold go_spec_guBest_look_L0_G
        have e1 : decide ((cs.length : Int) < (cs.length : Int)) = false := by simp
        have e3 : decide (((c + 1 : Nat) : Int) = (1 : Int)) = false := by
          have := h2.1
          simp; omega
        simp only [zs_length, e1, Bool.false_eq_true, if_false, wsucc (show c < 9223372036854775807 by omega), e3, Bool.not_false, if_true, Bool.false_or, guBefore_eq hk (show (sel cs m cs.length).length = f.length by rw [hf h2.1, hsl, h2.2]) (by omega), Option.bind_some]
        cases lexLt (sel cs m cs.length) f <;> simp
    · rw [if_neg h2, if_neg h2]
      unfold go_spec_guBest_look_L1
      refine iter_path (F := fun rec15 x14 => go_spec_guBest_look_L1_G k ((s : Int), ((c : Int), (zs f, (S, ())))) (zs cs, (nr, ())) (m : Int) ((bits cs.length m : Nat) : Int) least rec15 x14)
        (fun i => ((i : Int), zs (sel cs m i))) cs.length rfl (by unfold K0 at hk; omega) (fun i hi rec => ?_) (fun rec => ?_)
      · unfold go_spec_guBest_look_L1_G
        have e1 : decide ((i : Int) < (cs.length : Int)) = true := by simpa using hi
        have e0 : decide ((0 : Int) ≤ (i : Int)) = true := by simp
        have e2 := hbl i
        simp only [zs_length, e0, e1, inb_lt hi, if_true, Int.toNat_natCast, bit1 (show i < 64 by omega), zs_getD, List.length_singleton, hsl', lim_le (show bits i m + 1 ≤ 1099511627776 by omega), wsucc (show i < 9223372036854775807 by omega), zs_single, ← zs_append]
        cases ht : m.testBit i with
        | true => simp [sel, ht]
        | false => simp [sel, ht]
      · unfold go_spec_guBest_look_L1_G
        have e1 : decide ((cs.length : Int) < (cs.length : Int)) = false := by simp
        simp only [zs_length, e1, Bool.false_eq_true, if_false]
        simp

theorem guAll_eq (hk : K0 ≤ k) (hg : Gd W H hs) (hab : a ≤ b) (hb1 : 1 ≤ b) (hfew : (cells W H hs).length ≤ 16) (guards peace least : Bool) :
    go_spec_guAll k (bd W H hs) (ld a b) guards peace least =
      some (((stG (nearM W H hs a b) (cells W H hs) (cells W H hs).length guards peace least (2 ^ (cells W H hs).length)).1 : Int), (((stG (nearM W H hs a b) (cells W H hs) (cells W H hs).length guards peace least (2 ^ (cells W H hs).length)).2.1 : Int), (zs (stG (nearM W H hs a b) (cells W H hs) (cells W H hs).length guards peace least (2 ^ (cells W H hs).length)).2.2, (zs (szs (nearM W H hs a b) (cells W H hs).length guards peace (2 ^ (cells W H hs).length)), ())))) := by
  have hlt := fun i => nearM_lt (W := W) (H := H) (hs := hs) (a := a) (b := b) i
  have hirr := fun i => nearM_irr (W := W) (H := H) (hs := hs) (a := a) (b := b) hab hb1 i
  have h16 := pow16 hfew
  unfold go_spec_guAll go_spec_guAll_T
  rw [guNew_eq hk hg hfew]
  generalize hN : nearM W H hs a b = N at hlt hirr ⊢
  generalize hcs : cells W H hs = cs at hfew hlt h16 ⊢
  simp only [Option.bind_some, zs_length, wsucc (show cs.length < 9223372036854775807 by omega), Int.toNat_natCast]
  rw [if_pos (by simp only [decide_eq_true_eq]; constructor; omega; simp [LIM]; omega)]
  unfold go_spec_guAll_L0
  have hnr : (zs ((List.range cs.length).map fun i => 2 ^ i ||| N i)).length = cs.length := by simp
  have hget : ∀ i, i < cs.length → (zs ((List.range cs.length).map fun i => 2 ^ i ||| N i)).getD i 0 = ((2 ^ i ||| N i : Nat) : Int) := fun i hi => zs_get (by simp [List.getElem?_range hi])
  generalize zs ((List.range cs.length).map fun i => 2 ^ i ||| N i) = nr at hnr hget
  refine iter_path (F := fun rec92 x91 => go_spec_guAll_L0_G k (bd W H hs) (ld a b) guards peace least (zs cs, (nr, ())) (fun c0 y => go_spec_guAll_L1 k (bd W H hs) (ld a b) guards peace least rec92 (zs cs, (nr, ())) c0 y) rec92 x91)
    (fun m => ((m : Int), ((stG N cs cs.length guards peace least m).1 : Int), ((stG N cs cs.length guards peace least m).2.1 : Int), zs (stG N cs cs.length guards peace least m).2.2, zs (szs N cs.length guards peace m))) (2 ^ cs.length) (by simp [stG, szs_zero, zs]) (by unfold K0 at hk; omega) (fun m hm rec => ?_) (fun rec => ?_)
  · unfold go_spec_guAll_L0_G
    have e0 : decide ((0 : Int) ≤ (cs.length : Int)) = true := by simp
    have e1 : decide ((m : Int) < ((2 ^ cs.length : Nat) : Int)) = true := by rw [decide_eq_true_eq]; omega
    simp only [zs_length, e0, if_true, Int.toNat_natCast, wpow (show cs.length < 62 by omega), e1]
    unfold go_spec_guAll_L1
    refine iter_path (F := fun rec102 x101 => go_spec_guAll_L1_G k (bd W H hs) (ld a b) guards peace least (zs cs, (nr, ())) ((m : Int), ((stG N cs cs.length guards peace least m).1 : Int), ((stG N cs cs.length guards peace least m).2.1 : Int), zs (stG N cs cs.length guards peace least m).2.2, zs (szs N cs.length guards peace m)) rec rec102 x101)
      (fun i => ((gC N m i : Int), (bits i m : Int), qC N m i, (i : Int))) cs.length rfl (by unfold K0 at hk; omega) (fun i hi rec2 => ?_) (fun rec2 => ?_)
    · unfold go_spec_guAll_L1_G
      have f0 : decide ((0 : Int) ≤ (i : Int)) = true := by simp
      have f1 : decide ((i : Int) < (cs.length : Int)) = true := by simpa using hi
      have f2 : 2 ^ i < 2 ^ 16 := Nat.pow_lt_pow_right (by omega) (by omega)
      have f3 := hlt i
      have f4 : 2 ^ i ||| N i < 2 ^ 16 := Nat.or_lt_two_pow f2 (by omega)
      have f5 := gC_lt (m := m) (fun j _ => hlt j) i (by omega)
      have f6 := bits_le i m
      simp only [zs_length, hnr, f0, f1, inb_lt hi, if_true, Int.toNat_natCast, Bool.or_true, bit0 (show i < 64 by omega), hget i hi, wor (show gC N m i < 4611686018427387904 by omega) (show 2 ^ i ||| N i < 4611686018427387904 by omega), wand (show 2 ^ i ||| N i < 4611686018427387904 by omega) (show m < 4611686018427387904 by omega), wpow (show i < 62 by omega), wsucc (show i < 9223372036854775807 by omega), wsucc (show bits i m < 9223372036854775807 by omega)]
      cases ht : m.testBit i with
      | true =>
        have hq : decide ((((2 ^ i ||| N i) &&& m : Nat) : Int) = ((2 ^ i : Nat) : Int)) = decide (N i &&& m = 0) := by
          rw [decide_eq_decide, Int.ofNat_inj]
          exact quiet_iff ht (hirr i)
        simp only [Bool.not_true, Bool.false_eq_true, if_false, hq, gC, qC, bits_succ, ht, if_true]
      | false =>
        simp only [Bool.not_false, if_true, gC, qC, bits_succ, ht, Bool.false_eq_true, if_false, Nat.add_zero]
    · unfold go_spec_guAll_L1_G
      have f0 : decide ((0 : Int) ≤ (cs.length : Int)) = true := by simp
      have f1 : decide ((cs.length : Int) < (cs.length : Int)) = false := by simp
      have f2 := Nat.two_pow_pos cs.length
      have f3 : IntKind.i64.wrap (((2 ^ cs.length : Nat) : Int) - 1) = ((2 ^ cs.length - 1 : Nat) : Int) := wpred (by omega) f2
      have f4 : decide ((gC N m cs.length : Int) = ((2 ^ cs.length - 1 : Nat) : Int)) = decide (gC N m cs.length = 2 ^ cs.length - 1) := by
        rw [decide_eq_decide, Int.ofNat_inj]
      have f5 := bits_le cs.length m
      obtain ⟨i1, i2, i3, i4⟩ := stG_inv N cs cs.length guards peace least m
      have f6 : (szs N cs.length guards peace m).length = cs.length + 1 := by simp [szs]
      have f7 := szG_le N cs.length guards peace m (bits cs.length m)
      simp only [zs_length, f0, f1, Bool.false_eq_true, if_false, Bool.or_true, if_true, Int.toNat_natCast, wpow (show cs.length < 62 by omega), f3, f4, f6, inb_lt (show bits cs.length m < cs.length + 1 by omega), wsucc (show m < 9223372036854775807 by omega), zs_getD, szs_get f5, wsucc (show szG N cs.length guards peace m (bits cs.length m) < 9223372036854775807 by omega), zs_set]
      cases hok : okG N cs.length guards peace m with
      | false =>
        have : ((guards && !decide (gC N m cs.length = 2 ^ cs.length - 1)) || (peace && !qC N m cs.length)) = true := by
          unfold okG at hok; rwa [Bool.not_eq_false'] at hok
        rw [if_pos this, szs_no hok]
        simp only [stG, hok, Bool.false_eq_true, if_false]
      | true =>
        have : ((guards && !decide (gC N m cs.length = 2 ^ cs.length - 1)) || (peace && !qC N m cs.length)) = false := by
          unfold okG at hok; rwa [Bool.not_eq_true'] at hok
        rw [if_neg (by rw [this]; decide), look_eq hk hfew (stG N cs cs.length guards peace least m) m least _ _ (by omega) (by omega) i3, szs_yes hok]
        simp only [Option.bind_some, stG, hok, if_true]
  · unfold go_spec_guAll_L0_G
    have e0 : decide ((0 : Int) ≤ (cs.length : Int)) = true := by simp
    have e1 : decide (((2 ^ cs.length : Nat) : Int) < ((2 ^ cs.length : Nat) : Int)) = false := by simp
    simp only [zs_length, e0, if_true, Int.toNat_natCast, wpow (show cs.length < 62 by omega), e1, Bool.false_eq_true, if_false]

end
end Go.Lg
