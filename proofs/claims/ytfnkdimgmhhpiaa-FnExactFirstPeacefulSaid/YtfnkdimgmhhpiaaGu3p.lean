/-
  (As Gu3, without the counts of calm sets.)
  Plain law: the program's search over all sets.
-/
import Derived.Test.YtfnkdimgmhhpiaaGu2
set_option linter.unusedVariables false
set_option linter.unusedSimpArgs false
namespace Go.Lg
open Go.RowKit Go.IntWalk

variable {k : Nat}

section
variable {W H a b : Nat} {hs : List Nat}

theorem g_cells : (graph W H hs a b).2.2.1 = zs (cells W H hs) := rfl
theorem g_near : (graph W H hs a b).2.2.2.1 = near W H hs a b := rfl

theorem tourGraph_eq (hk : K0 ≤ k) (hg : Gd W H hs) (hG : isGood (bd W H hs) = true) (hL : isGoodL (ld a b) = true) (hab : a ≤ b) (hb5 : b ≤ 5) (most : Int) :
    go_impl_tourGraph k (bd W H hs) (ld a b) most = if ((cells W H hs).length : Int) ≤ most then some (some (graph W H hs a b), (true, ())) else some (none, (false, ())) := by
  unfold go_impl_tourGraph
  rw [graphOf_eq hk hg hG hL hab hb5]
  simp only [Option.bind_some, Option.getD_some, Option.isSome_some, g_cells, zs_length, Bool.or_true, if_true, Bool.not_true, Bool.false_or, decide_eq_true_eq]
  by_cases h : most < ((cells W H hs).length : Int)
  · rw [if_pos h, if_neg (by omega)]
  · rw [if_neg h, if_pos (by omega)]

theorem tourGraph_none (hk : K0 ≤ k) {B : BT} {L : LT} (h : (isGood B && isGoodL L) = false) (most : Int) : go_impl_tourGraph k B L most = some (none, (false, ())) := by
  unfold go_impl_tourGraph
  rw [graphOf_none hk h]
  rfl

theorem leapsG_eq (hk : K0 ≤ k) (hg : Gd W H hs) {c d : Nat} (hc : hasN W H hs c = true) (hd : hasN W H hs d = true) : go_impl_graph_leaps k (some (graph W H hs a b)) (c : Int) (d : Int) = some (adj W a b c d) := by
  have hcN := hasN_lt0 hc
  have h64 := hg.n64
  have hl : (leaps W H hs a b c).length ≤ 1048576 := by
    have h1 := List.length_filter_le (fun d => adj W a b c d) (cells W H hs)
    have h2 := cells_length (W := W) (H := H) (hs := hs)
    have h3 : (leaps W H hs a b c).length ≤ (cells W H hs).length := h1
    omega
  unfold go_impl_graph_leaps
  simp only [Option.isSome_some, if_true, Option.getD_some, g_near, near_length, inb_lt hcN, Int.toNat_natCast, near_get hc, Contains_eq hk hl, Option.bind_some]
  congr 1
  rw [Bool.eq_iff_iff, decide_eq_true_eq, mem_leaps]
  simp [hd]

theorem cellsD_has {i : Nat} (h : i < (cells W H hs).length) : hasN W H hs ((cells W H hs).getD i 0) = true := by
  rw [List.getD_eq_getElem?_getD, List.getElem?_eq_getElem h]
  exact mem_cells.1 (List.getElem_mem h)

theorem masks_eq (hk : K0 ≤ k) (hg : Gd W H hs) (hfew : (cells W H hs).length ≤ 16) : go_impl_graph_masks k (some (graph W H hs a b)) = some (zs ((List.range (cells W H hs).length).map (nearM W H hs a b))) := by
  unfold go_impl_graph_masks go_impl_graph_masks_T
  simp only [Option.isSome_some, if_true]
  unfold go_impl_graph_masks_L0
  refine iter_path (F := fun rec35 x34 => go_impl_graph_masks_L0_G k (some (graph W H hs a b)) (fun c0 y => go_impl_graph_masks_L1 k (some (graph W H hs a b)) rec35 c0 y) rec35 x34)
    (fun i => ((i : Int), zs ((List.range i).map (nearM W H hs a b)))) (cells W H hs).length rfl (by unfold K0 at hk; omega) (fun i hi rec => ?_) (fun rec => ?_)
  · unfold go_impl_graph_masks_L0_G
    have h1 : decide ((i : Int) < ((cells W H hs).length : Int)) = true := by simpa using hi
    simp only [Option.getD_some, Option.isSome_some, g_cells, zs_length, h1, inb_lt hi, if_true]
    unfold go_impl_graph_masks_L1
    refine iter_path (F := fun rec43 x42 => go_impl_graph_masks_L1_G k (some (graph W H hs a b)) ((i : Int), zs ((List.range i).map (nearM W H hs a b))) rec rec43 x42)
      (fun j => ((mk1 W a b (cells W H hs) i j : Int), (j : Int))) (cells W H hs).length rfl (by unfold K0 at hk; omega) (fun j hj rec2 => ?_) (fun rec2 => ?_)
    · unfold go_impl_graph_masks_L1_G
      have h4 : decide ((0 : Int) ≤ (j : Int)) = true := by simp
      have h3 : decide ((j : Int) < ((cells W H hs).length : Int)) = true := by simpa using hj
      have h5 : 2 ^ j < 2 ^ 16 := Nat.pow_lt_pow_right (by omega) (by omega)
      have h6 := mk1_lt W a b (cells W H hs) i j
      simp only [Option.getD_some, g_cells, zs_length, h3, h4, inb_lt hj, if_true, Int.toNat_natCast, wpow (show j < 62 by omega), zs_getD, leapsG_eq hk hg (cellsD_has hi) (cellsD_has hj), Option.bind_some, wor (show mk1 W a b (cells W H hs) i j < 4611686018427387904 by omega) (show 2 ^ j < 4611686018427387904 by omega), wsucc (show j < 9223372036854775807 by omega)]
      cases h : adj W a b ((cells W H hs).getD i 0) ((cells W H hs).getD j 0) with
      | true => simp only [if_true, mk1, h]
      | false => simp only [mk1, h, Bool.false_eq_true, if_false]
    · unfold go_impl_graph_masks_L1_G
      have h3 : decide (((cells W H hs).length : Int) < ((cells W H hs).length : Int)) = false := by simp
      simp only [Option.getD_some, g_cells, zs_length, h3, Bool.false_eq_true, if_false, List.length_map, List.length_range, List.length_singleton, lim_le (show i + 1 ≤ 1099511627776 by omega), if_true, wsucc (show i < 9223372036854775807 by omega), zs_single, ← zs_append]
      rw [List.range_succ, List.map_append]
      rfl
  · unfold go_impl_graph_masks_L0_G
    have h3 : decide (((cells W H hs).length : Int) < ((cells W H hs).length : Int)) = false := by simp
    simp only [Option.getD_some, g_cells, zs_length, h3, Bool.false_eq_true, if_false]

theorem Clone_eq {l : List Int} (hl : l.length ≤ 1099511627776) : go_slices_Clone_int k l = some l := by
  unfold go_slices_Clone_int
  cases l with
  | nil => simp [both, LIM]
  | cons x l =>
    simp only [List.isEmpty_cons, Bool.false_eq_true, if_false, List.length_nil, Nat.zero_add, lim_le hl, if_true, List.nil_append]

theorem some_eq (hk : K0 ≤ k) {cs : List Nat} {m : Nat} (hfew : cs.length ≤ 16) (hm : m < 4611686018427387904) : go_impl_some k (zs cs) (m : Int) = some (zs (sel cs m cs.length)) := by
  have hsl := fun i => sel_length cs m i
  have hbl := fun i => bits_le i m
  unfold go_impl_some go_impl_some_T go_impl_some_L0
  refine iter_path (F := fun rec8 x7 => go_impl_some_L0_G k (zs cs) (m : Int) rec8 x7) (fun i => ((i : Int), zs (sel cs m i))) cs.length rfl (by unfold K0 at hk; omega) (fun i hi rec => ?_) (fun rec => ?_)
  · unfold go_impl_some_L0_G
    have e1 : decide ((i : Int) < (cs.length : Int)) = true := by simpa using hi
    have e0 : decide ((0 : Int) ≤ (i : Int)) = true := by simp
    have e2 := hbl i
    simp only [zs_length, e0, e1, inb_lt hi, if_true, Int.toNat_natCast, bitA1 hm (show i < 64 by omega), zs_getD, List.length_singleton, hsl, lim_le (show bits i m + 1 ≤ 1099511627776 by omega), wsucc (show i < 9223372036854775807 by omega), zs_single, ← zs_append]
    cases ht : m.testBit i with
    | true => simp [sel, ht]
    | false => simp [sel, ht]
  · unfold go_impl_some_L0_G
    have e1 : decide ((cs.length : Int) < (cs.length : Int)) = false := by simp
    have e2 := hbl cs.length
    simp only [zs_length, e1, Bool.false_eq_true, if_false]
    rw [Clone_eq (by rw [zs_length, hsl]; omega)]
    rfl

theorem Compare_eq {x y : List Nat} (hk : K0 ≤ k) (h : x.length = y.length) (hl : x.length ≤ 1048576) : ∃ r, go_slices_Compare_int k (zs x) (zs y) = some r ∧ decide (r < 0) = lexLt x y := by
  have hz : (x.zip y).length = x.length := by rw [List.length_zip, ← h, Nat.min_self]
  have := iter_find1 (F := fun rec5 x4 => go_slices_Compare_int_L0_G k (zs x) (zs y) rec5 x4) (fun i => (i : Int)) (x.zip y) (fun p => decide (p.1 ≠ p.2))
    (yes := fun p => some (if p.1 < p.2 then -1 else 1)) (no := some 0) (m := k) (x0 := (0 : Int)) rfl (by unfold K0 at hk; omega)
    (fun i p hp rec => by
      have hi := length_lt hp
      rw [hz] at hi
      have e : x[i]? = some p.1 ∧ y[i]? = some p.2 := List.getElem?_zip_eq_some.1 hp
      unfold go_slices_Compare_int_L0_G go_cmp_Compare_int go_cmp_isNaN_int
      have h1 : decide ((i : Int) < (x.length : Int)) = true := by simpa using hi
      have h2 : decide ((y.length : Int) ≤ (i : Int)) = false := by simp; omega
      simp only [zs_length, h1, h2, inb_lt hi, inb_lt (show i < y.length by omega), if_true, Int.toNat_natCast, zs_get e.1, zs_get e.2, wsucc (show i < 9223372036854775807 by omega), Bool.false_eq_true, if_false, decide_true, Bool.not_true, Option.bind_some, decide_eq_true_eq]
      by_cases e1 : p.1 = p.2
      · have h3 : ¬ (p.1 : Int) < (p.2 : Int) := by omega
        have h4 : ¬ (p.2 : Int) < (p.1 : Int) := by omega
        simp [e1]
      · by_cases e2 : p.1 < p.2
        · have h3 : (p.1 : Int) < (p.2 : Int) := by omega
          simp [e1, e2]
        · have h3 : ¬ (p.1 : Int) < (p.2 : Int) := by omega
          have h4 : (p.2 : Int) < (p.1 : Int) := by omega
          have h5 : p.2 < p.1 := by omega
          simp [e1, e2, h5])
    (fun rec => by
      unfold go_slices_Compare_int_L0_G
      have h1 : ¬ (x.length : Int) < (y.length : Int) := by omega
      rw [hz, if_neg (by simp), if_neg (by simp only [zs_length, decide_eq_true_eq]; exact h1)])
  unfold go_slices_Compare_int go_slices_Compare_int_T go_slices_Compare_int_L0
  unfold lexLt
  cases hf : (x.zip y).find? (fun p => decide (p.1 ≠ p.2)) with
  | none => rw [hf] at this; exact ⟨_, this, rfl⟩
  | some p =>
    rw [hf] at this
    refine ⟨_, this, ?_⟩
    by_cases e2 : p.1 < p.2 <;> simp [e2]

def isz (st : GS) : Int := if st.2.1 = 0 then -1 else (st.1 : Int)

theorem add_eq (hk : K0 ≤ k) {m : Nat} (hfew : (cells W H hs).length ≤ 16) (hm : m < 4611686018427387904) (s : Int) (c : Nat) (f : List Nat) (hc : c ≤ 65536) (hf : 0 < c → f.length = bits (cells W H hs).length m) :
    go_impl_found_add k (s, ((c : Int), (zs f, ()))) (some (graph W H hs a b)) (m : Int) =
      some ((), ((s, (((c + 1 : Nat) : Int), (zs (if c = 0 ∨ lexLt (sel (cells W H hs) m (cells W H hs).length) f = true then sel (cells W H hs) m (cells W H hs).length else f), ()))), (some (graph W H hs a b), ((m : Int), ())))) := by
  have hsl := sel_length (cells W H hs) m (cells W H hs).length
  have hb := bits_le (cells W H hs).length m
  unfold go_impl_found_add
  simp only [Option.isSome_some, if_true, Option.getD_some, g_cells, some_eq hk hfew hm, Option.bind_some, wsucc (show c < 9223372036854775807 by omega)]
  rcases Nat.eq_zero_or_pos c with h0 | h0
  · subst h0
    simp
  · have e : decide (((c + 1 : Nat) : Int) = (1 : Int)) = false := by simp; omega
    obtain ⟨r, h1, h2⟩ := Compare_eq (k := k) (x := sel (cells W H hs) m (cells W H hs).length) (y := f) hk (by rw [hsl, hf h0]) (by omega)
    have hc0 : ¬ c = 0 := by omega
    simp only [e, Bool.not_false, if_true, h1, Option.bind_some, Bool.false_or, h2, hc0, false_or]
    cases lexLt (sel (cells W H hs) m (cells W H hs).length) f <;> simp

theorem search_eq (hk : K0 ≤ k) (hg : Gd W H hs) (hab : a ≤ b) (hb1 : 1 ≤ b) (hfew : (cells W H hs).length ≤ 16) (guards peace least : Bool) :
    go_impl_graph_search k (some (graph W H hs a b)) guards peace (!least) =
      some (isz (stG (nearM W H hs a b) (cells W H hs) (cells W H hs).length guards peace least (2 ^ (cells W H hs).length)), (((stG (nearM W H hs a b) (cells W H hs) (cells W H hs).length guards peace least (2 ^ (cells W H hs).length)).2.1 : Int), (zs (stG (nearM W H hs a b) (cells W H hs) (cells W H hs).length guards peace least (2 ^ (cells W H hs).length)).2.2, ()))) := by
  have hlt := fun i => nearM_lt (W := W) (H := H) (hs := hs) (a := a) (b := b) i
  have h16 := pow16 hfew
  have hadd := fun (m : Nat) (hm : m < 4611686018427387904) => add_eq (k := k) (a := a) (b := b) hk hfew hm
  unfold go_impl_graph_search go_impl_graph_search_T
  rw [masks_eq hk hg hfew]
  generalize hN : nearM W H hs a b = N at hlt ⊢
  generalize hcs : cells W H hs = cs at hfew hlt h16 hadd ⊢
  simp only [Option.bind_some]
  have hnr : (zs ((List.range cs.length).map N)).length = cs.length := by simp
  have hget : ∀ i, i < cs.length → (zs ((List.range cs.length).map N)).getD i 0 = (N i : Int) := fun i hi => zs_get (by simp [List.getElem?_range hi])
  generalize zs ((List.range cs.length).map N) = nr at hnr hget
  rw [if_pos (by simp)]
  unfold go_impl_graph_search_L0
  refine iter_path (F := fun rec57 x56 => go_impl_graph_search_L0_G k (some (graph W H hs a b)) guards peace (!least) nr (fun c0 c1 y => go_impl_graph_search_L1 k (some (graph W H hs a b)) guards peace (!least) rec57 nr c0 c1 y) rec57 x56)
    (fun m => ((m : Int), isz (stG N cs cs.length guards peace least m), ((stG N cs cs.length guards peace least m).2.1 : Int), zs (stG N cs cs.length guards peace least m).2.2)) (2 ^ cs.length) rfl (by unfold K0 at hk; omega) (fun m hm rec => ?_) (fun rec => ?_)
  · unfold go_impl_graph_search_L0_G
    have hone : bits 16 m = bits cs.length m := by
      have := bits_more hm (16 - cs.length)
      rwa [show cs.length + (16 - cs.length) = 16 by omega] at this
    have e1 : decide ((m : Int) < ((2 ^ cs.length : Nat) : Int)) = true := by rw [decide_eq_true_eq]; omega
    obtain ⟨i1, i2, i3, i4⟩ := stG_inv N cs cs.length guards peace least m
    have hb := bits_le cs.length m
    simp only [hnr, Int.toNat_natCast, wpow (show cs.length < 62 by omega), e1, if_true, u64_nat (show m < 18446744073709551616 by omega), OnesCount_nat (show m < 65536 by omega), ones_bits (show m < 65536 by omega), hone, Option.bind_some, wsucc (show m < 9223372036854775807 by omega)]
    have c1 : (decide ((0 : Int) ≤ isz (stG N cs cs.length guards peace least m)) && ((!least && decide (((bits cs.length m : Nat) : Int) < isz (stG N cs cs.length guards peace least m))) || (!!least && decide (isz (stG N cs cs.length guards peace least m) < ((bits cs.length m : Nat) : Int))))) =
        decide (0 < (stG N cs cs.length guards peace least m).2.1 ∧ worse least (bits cs.length m) (stG N cs cs.length guards peace least m).1 = true) := by
      generalize bits cs.length m = z
      generalize stG N cs cs.length guards peace least m = st
      unfold isz worse
      rw [Bool.eq_iff_iff]
      by_cases h0 : st.2.1 = 0
      · simp [h0]
      · simp only [h0, if_false]
        cases least <;> simp <;> omega
    simp only [c1, decide_eq_true_eq]
    have hst : stG N cs cs.length guards peace least (m + 1) = if okG N cs.length guards peace m = true then updG cs cs.length least (stG N cs cs.length guards peace least m) m else stG N cs cs.length guards peace least m := rfl
    by_cases hw : 0 < (stG N cs cs.length guards peace least m).2.1 ∧ worse least (bits cs.length m) (stG N cs cs.length guards peace least m).1 = true
    · rw [if_pos hw]
      have : stG N cs cs.length guards peace least (m + 1) = stG N cs cs.length guards peace least m := by
        rw [hst]; unfold updG; rw [if_pos hw]; split <;> rfl
      rw [this]
    · rw [if_neg hw]
      unfold go_impl_graph_search_L1
      refine iter_path (F := fun rec66 x65 => go_impl_graph_search_L1_G k (some (graph W H hs a b)) guards peace (!least) nr ((m : Int), isz (stG N cs cs.length guards peace least m), ((stG N cs cs.length guards peace least m).2.1 : Int), zs (stG N cs cs.length guards peace least m).2.2) ((bits cs.length m : Nat) : Int) rec rec66 x65)
        (fun i => ((iC N m i : Int), qC N m i, (i : Int))) cs.length rfl (by unfold K0 at hk; omega) (fun i hi rec2 => ?_) (fun rec2 => ?_)
      · unfold go_impl_graph_search_L1_G
        have f0 : decide ((0 : Int) ≤ (i : Int)) = true := by simp
        have f1 : decide ((i : Int) < (cs.length : Int)) = true := by simpa using hi
        have f3 := hlt i
        have f5 := iC_lt (m := m) hm (fun j _ => hlt j) i (by omega)
        have hq : decide (((N i &&& m : Nat) : Int) = (0 : Int)) = decide (N i &&& m = 0) := by
          rw [decide_eq_decide]; omega
        simp only [hnr, f0, f1, inb_lt hi, if_true, Int.toNat_natCast, Bool.or_true, bitA1 (show m < 4611686018427387904 by omega) (show i < 64 by omega), hget i hi, wor (show iC N m i < 4611686018427387904 by omega) (show N i < 4611686018427387904 by omega), wand (show N i < 4611686018427387904 by omega) (show m < 4611686018427387904 by omega), wsucc (show i < 9223372036854775807 by omega), hq]
        cases ht : m.testBit i with
        | true => simp only [iC, qC, ht, if_true]
        | false => simp only [iC, qC, ht, Bool.false_eq_true, if_false]
      · unfold go_impl_graph_search_L1_G
        have f0 : decide ((0 : Int) ≤ (cs.length : Int)) = true := by simp
        have f1 : decide ((cs.length : Int) < (cs.length : Int)) = false := by simp
        have f2 := Nat.two_pow_pos cs.length
        have f3 : IntKind.i64.wrap (((2 ^ cs.length : Nat) : Int) - 1) = ((2 ^ cs.length - 1 : Nat) : Int) := wpred (by omega) f2
        have f4 : decide ((gC N m cs.length : Int) = ((2 ^ cs.length - 1 : Nat) : Int)) = decide (gC N m cs.length = 2 ^ cs.length - 1) := by
          rw [decide_eq_decide, Int.ofNat_inj]
        simp only [hnr, f0, f1, Bool.false_eq_true, if_false, Bool.or_true, if_true, Int.toNat_natCast, wpow (show cs.length < 62 by omega), f3, iC_all hm, f4]
        cases hok : okG N cs.length guards peace m with
        | false =>
          have : ((guards && !decide (gC N m cs.length = 2 ^ cs.length - 1)) || (peace && !qC N m cs.length)) = true := by
            unfold okG at hok; rwa [Bool.not_eq_false'] at hok
          rw [if_pos this, hst, hok, wsucc (show m < 9223372036854775807 by omega)]
          simp only [Bool.false_eq_true, if_false]
        | true =>
          have : ((guards && !decide (gC N m cs.length = 2 ^ cs.length - 1)) || (peace && !qC N m cs.length)) = false := by
            unfold okG at hok; rwa [Bool.not_eq_true'] at hok
          rw [if_neg (by rw [this]; decide), hst, hok, if_pos rfl]
          unfold updG
          rw [if_neg hw]
          generalize stG N cs cs.length guards peace least m = st at i1 i2 i3 i4 hw ⊢
          obtain ⟨s, c, f⟩ := st
          simp only at i1 i2 i3 i4 hw ⊢
          by_cases hn : 0 < c ∧ bits cs.length m = s
          · have e : decide (((bits cs.length m : Nat) : Int) = isz (s, c, f)) = true := by
              unfold isz
              have : ¬ c = 0 := by omega
              simp [this, hn.2]
            have hc0 : ¬ c = 0 := by omega
            rw [if_pos hn, if_neg (by rw [e]; decide), hadd m (by omega) _ c f (by omega) (fun h => by rw [i3 h, hn.2])]
            simp only [Option.bind_some, wsucc (show m < 9223372036854775807 by omega), hc0, false_or]
            unfold isz
            simp only [hc0, if_false, Nat.succ_ne_zero]
          · have e : decide (((bits cs.length m : Nat) : Int) = isz (s, c, f)) = false := by
              unfold isz
              by_cases hc0 : c = 0
              · simp [hc0]
              · simp only [hc0, if_false, decide_eq_false_iff_not]
                intro h
                exact hn ⟨by omega, by omega⟩
            rw [if_neg hn, if_pos (by rw [e]; decide)]
            have := hadd m (by omega) ((bits cs.length m : Nat) : Int) 0 [] (by omega) (fun h => absurd h (by omega))
            rw [zs_nil] at this
            rw [show ((0 : Nat) : Int) = (0 : Int) from rfl] at this
            rw [this]
            simp only [Option.bind_some, wsucc (show m < 9223372036854775807 by omega), true_or, if_true]
            unfold isz
            simp only [Nat.succ_ne_zero, if_false]
  · unfold go_impl_graph_search_L0_G
    have e1 : decide (((2 ^ cs.length : Nat) : Int) < ((2 ^ cs.length : Nat) : Int)) = false := by simp
    simp only [hnr, Int.toNat_natCast, wpow (show cs.length < 62 by omega), e1, Bool.false_eq_true, if_false]

end
end Go.Lg
