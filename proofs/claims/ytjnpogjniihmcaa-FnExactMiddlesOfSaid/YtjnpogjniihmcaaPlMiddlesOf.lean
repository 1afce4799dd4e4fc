/-
  Plain law: FnExactMiddlesOf.
-/
import Derived.Test.YtjnpogjniihmcaaPl14
import Derived.Test.YtjnpogjniihmcaaRow
set_option linter.unusedVariables false
set_option linter.unusedSimpArgs false
namespace Go.Lg
open Go.RowKit Go.IntWalk

variable {k : Nat}

section
variable {W H a b : Nat} {hs : List Nat}

def ecc (W H : Nat) (hs : List Nat) (a b c : Nat) : Int := lmax (bfs (leaps W H hs a b) (W * H) c)

theorem bfs_pos {c : Nat} (hc : hasN W H hs c = true) : (bfs (leaps W H hs a b) (W * H) c).length = W * H ∧ c < (bfs (leaps W H hs a b) (W * H) c).length ∧ 0 ≤ (bfs (leaps W H hs a b) (W * H) c).getD c 0 := by
  have hcN := hasN_lt hc
  have hF := bfs_far (nb := leaps W H hs a b) leaps_lt hcN
  exact ⟨hF.len, by rw [hF.len]; exact hcN, by rw [hF.start]; omega⟩

theorem ecc_nonneg {c : Nat} (hc : hasN W H hs c = true) : 0 ≤ ecc W H hs a b c := by
  obtain ⟨_, h2, h3⟩ := bfs_pos (a := a) (b := b) hc
  have := lmax_ge (getD_mem h2)
  unfold ecc
  omega

/-- The least so far. -/
def leastTo (f : Nat → Int) (cs : List Nat) (i : Nat) : Int := (cs.take i).foldl (fun m c => if m < 0 ∨ f c < m then f c else m) (-1)

def middles (f : Nat → Int) (cs : List Nat) : List Nat := cs.filter fun c => decide (f c = lmin (cs.map f))

theorem leastTo_facts (f : Nat → Int) (cs : List Nat) (hf : ∀ c ∈ cs, 0 ≤ f c) : ∀ i, i ≤ cs.length → (i = 0 ∧ leastTo f cs i = -1) ∨ (0 < i ∧ 0 ≤ leastTo f cs i ∧ (∀ c ∈ cs.take i, leastTo f cs i ≤ f c) ∧ ∃ c ∈ cs.take i, f c = leastTo f cs i)
  | 0, _ => .inl ⟨rfl, by simp [leastTo]⟩
  | i + 1, hi => by
    have hlt : i < cs.length := by omega
    have e : leastTo f cs (i + 1) = if leastTo f cs i < 0 ∨ f cs[i] < leastTo f cs i then f cs[i] else leastTo f cs i := by
      unfold leastTo
      rw [List.take_succ_eq_append_getElem hlt, List.foldl_append]
      rfl
    have h0 := hf cs[i] (List.getElem_mem hlt)
    rw [e, List.take_succ_eq_append_getElem hlt]
    refine .inr ⟨by omega, ?_⟩
    rcases leastTo_facts f cs hf i (by omega) with ⟨h1, h2⟩ | ⟨h1, h2, h3, c, hc, h4⟩
    · subst h1
      rw [if_pos (.inl (by omega))]
      exact ⟨h0, fun c hc => by simp at hc; rw [hc]; exact Int.le_refl _, cs[0], by simp, rfl⟩
    · by_cases h : f cs[i] < leastTo f cs i
      · rw [if_pos (.inr h)]
        refine ⟨h0, fun c hc => ?_, cs[i], List.mem_append.2 (.inr (List.mem_singleton.2 rfl)), rfl⟩
        rcases List.mem_append.1 hc with hc | hc
        · have := h3 c hc; omega
        · simp at hc; rw [hc]; exact Int.le_refl _
      · rw [if_neg fun h' => by rcases h' with h' | h' <;> omega]
        refine ⟨h2, fun c hc => ?_, c, List.mem_append.2 (.inl hc), h4⟩
        rcases List.mem_append.1 hc with hc | hc
        · exact h3 c hc
        · simp at hc; rw [hc]; omega

theorem leastTo_lmin (f : Nat → Int) (cs : List Nat) (hf : ∀ c ∈ cs, 0 ≤ f c) (hne : 0 < cs.length) : leastTo f cs cs.length = lmin (cs.map f) := by
  rcases leastTo_facts f cs hf cs.length (Nat.le_refl _) with ⟨h, _⟩ | ⟨_, _, h3, c, hc, h4⟩
  · omega
  · rw [List.take_length] at h3 hc
    refine Int.le_antisymm ?_ ?_
    · obtain ⟨d, hd, he⟩ := List.mem_map.1 (lmin_mem (l := cs.map f) (by simpa using hne))
      rw [← he]; exact h3 d hd
    · rw [← h4]; exact lmin_le (List.mem_map.2 ⟨c, hc, rfl⟩)

theorem spec_Middles (hk : K0 ≤ k) (hg : Gd W H hs) (hG : isGood (bd W H hs) = true) (hL : isGoodL (ld a b) = true) (hone : (partsOf (leaps W H hs a b) (W * H) (cells W H hs)).length = 1) (hne : 0 < (cells W H hs).length) :
    go_spec_MiddlesOf k (bd W H hs) (ld a b) = some (zs (middles (ecc W H hs a b) (cells W H hs)), (true, ())) := by
  have h64 := hg.n64
  have hcl := cells_length (W := W) (H := H) (hs := hs)
  unfold go_spec_MiddlesOf go_spec_MiddlesOf_T
  simp only [boTwo_eq hk, hG, hL, Bool.and_self, Option.bind_some, Bool.not_true, Bool.not_false, if_true, faParts_eq hk hg, zzs_length, hone, Bool.false_or]
  rw [if_neg (by simp), boCells_eq hk hg]
  simp only [Option.bind_some]
  unfold go_spec_MiddlesOf_L0
  have hec : ∀ c ∈ cells W H hs, 0 ≤ ecc W H hs a b c := fun c hc => ecc_nonneg (mem_cells.1 hc)
  refine iter_path (F := fun rec21 x20 => go_spec_MiddlesOf_L0_G k (bd W H hs) (ld a b) (zs (cells W H hs)) rec21 x20)
    (fun i => (leastTo (ecc W H hs a b) (cells W H hs) i, (i : Int), zs (((cells W H hs).take i).filter fun c => decide (ecc W H hs a b c = leastTo (ecc W H hs a b) (cells W H hs) i)))) (cells W H hs).length (by simp [leastTo]) (by unfold K0 at hk; omega) (fun i hi rec => ?_) (fun rec => ?_)
  · have hget := List.getElem?_eq_getElem hi
    generalize hcc : (cells W H hs)[i] = c at hget
    have hch := mem_cells.1 (List.mem_of_getElem? hget)
    obtain ⟨hb1, hb2, hb3⟩ := bfs_pos (a := a) (b := b) hch
    have htk : (cells W H hs).take (i + 1) = (cells W H hs).take i ++ [c] := by rw [List.take_succ_eq_append_getElem hi, hcc]
    have hle : leastTo (ecc W H hs a b) (cells W H hs) (i + 1) = if leastTo (ecc W H hs a b) (cells W H hs) i < 0 ∨ ecc W H hs a b c < leastTo (ecc W H hs a b) (cells W H hs) i then ecc W H hs a b c else leastTo (ecc W H hs a b) (cells W H hs) i := by
      unfold leastTo
      rw [htk, List.foldl_append]
      rfl
    have hfacts := leastTo_facts (ecc W H hs a b) (cells W H hs) hec i (by omega)
    have hec0 := hec c (List.mem_of_getElem? hget)
    unfold go_spec_MiddlesOf_L0_G
    simp only [zs_length, Int.toNat_natCast, zs_get hget, faFrom_eq hk hg hch, Option.bind_some, faMost_eq hk (show (bfs (leaps W H hs a b) (W * H) c).length ≤ 1048576 by omega) ⟨c, hb2, hb3⟩]
    rw [if_pos (by simpa using hi), inb_lt hi, if_pos rfl, hle, htk, wsucc (by omega)]
    have hE : lmax (bfs (leaps W H hs a b) (W * H) c) = ecc W H hs a b c := rfl
    rw [hE]
    generalize leastTo (ecc W H hs a b) (cells W H hs) i = m at hfacts
    generalize hee : ecc W H hs a b c = e at hec0
    by_cases h : m < 0 ∨ e < m
    · rw [if_pos (by simp only [Bool.or_eq_true, decide_eq_true_eq]; exact h), if_pos (by simp), if_pos (lim_le (by simp)), if_pos h, zs_single, List.filter_append]
      congr 3
      have e1 : ([c].filter fun d => decide (ecc W H hs a b d = e)) = [c] := by simp [hee]
      rw [e1]
      have e2 : (((cells W H hs).take i).filter fun d => decide (ecc W H hs a b d = e)) = [] := by
        rw [List.filter_eq_nil_iff]
        intro d hd
        rw [decide_eq_true_eq]
        rcases hfacts with ⟨h1, _⟩ | ⟨_, h2, h3, _⟩
        · subst h1; simp at hd
        · have := h3 d hd; omega
      rw [e2, List.nil_append]
    · rw [if_neg (by simp only [Bool.or_eq_true, decide_eq_true_eq]; exact h), if_neg h, List.filter_append]
      by_cases hem : e = m
      · have e1 : ([c].filter fun d => decide (ecc W H hs a b d = m)) = [c] := by simp [hee, hem]
        have hfl := List.length_filter_le (fun d => decide (ecc W H hs a b d = m)) ((cells W H hs).take i)
        rw [List.length_take] at hfl
        rw [if_pos (by simpa using hem), if_pos (lim_le (by simp only [List.length_singleton, zs_length]; omega)), e1, zs_single, ← zs_append]
      · have e1 : ([c].filter fun d => decide (ecc W H hs a b d = m)) = [] := by simp [hee, hem]
        rw [if_neg (by simpa using hem), e1, List.append_nil]
  · unfold go_spec_MiddlesOf_L0_G
    rw [if_neg (by simp), List.take_length, leastTo_lmin _ _ hec hne]
    rfl

theorem impl_Middles (hk : K0 ≤ k) (hg : Gd W H hs) (hG : isGood (bd W H hs) = true) (hL : isGoodL (ld a b) = true) (hab : a ≤ b) (hb5 : b ≤ 5) (hone : (partsOf (leaps W H hs a b) (W * H) (cells W H hs)).length = 1) (hne : 0 < (cells W H hs).length) :
    go_impl_MiddlesOf k (bd W H hs) (ld a b) = some (zs (middles (ecc W H hs a b) (cells W H hs)), (true, ())) := by
  have h64 := hg.n64
  have hcl := cells_length (W := W) (H := H) (hs := hs)
  have hc3 : (graph W H hs a b).2.2.1 = zs (cells W H hs) := rfl
  have hgr : go_impl_greatest k (bd W H hs) (ld a b) = some (some (graph W H hs a b), ((cells W H hs).map (ecc W H hs a b), (true, ()))) := by
    unfold go_impl_greatest go_impl_greatest_T
    rw [graphOf_eq hk hg hG hL hab hb5]
    simp only [Option.bind_some, Bool.not_true, Bool.not_false, if_true, parts_eq hk hg, zzs_length, hone, Bool.false_or]
    rw [if_neg (by simp)]
    simp only [Option.isSome_some, if_true]
    unfold go_impl_greatest_L0
    refine iter_path (F := fun rec16 x15 => go_impl_greatest_L0_G k (bd W H hs) (ld a b) (some (graph W H hs a b), (true, ())) rec16 x15) (fun i => ((i : Int), ((cells W H hs).take i).map (ecc W H hs a b))) (cells W H hs).length (by simp) (by unfold K0 at hk; omega) (fun i hi rec => ?_) (fun rec => ?_)
    · have hget := List.getElem?_eq_getElem hi
      generalize hcc : (cells W H hs)[i] = c at hget
      have hch := mem_cells.1 (List.mem_of_getElem? hget)
      obtain ⟨hb1, hb2, hb3⟩ := bfs_pos (a := a) (b := b) hch
      have htk : (cells W H hs).take (i + 1) = (cells W H hs).take i ++ [c] := by rw [List.take_succ_eq_append_getElem hi, hcc]
      unfold go_impl_greatest_L0_G
      simp only [Option.getD_some, hc3, zs_length, Int.toNat_natCast, zs_get hget, far_eq hk hg hch, Option.bind_some, Max_eq hk (show 0 < (bfs (leaps W H hs a b) (W * H) c).length by omega) (show (bfs (leaps W H hs a b) (W * H) c).length ≤ 1048576 by omega)]
      rw [if_pos (by simpa using hi), inb_lt hi, if_pos rfl, if_pos (lim_le (by simp only [List.length_map, List.length_take, List.length_singleton]; omega)), htk, List.map_append, wsucc (by omega)]
      rfl
    · unfold go_impl_greatest_L0_G
      simp only [Option.getD_some, hc3, zs_length]
      rw [if_neg (by simp), List.take_length]
  unfold go_impl_MiddlesOf go_impl_MiddlesOf_T
  rw [hgr]
  simp only [Option.bind_some, Bool.not_true, Bool.false_eq_true, if_false, Option.isSome_some, if_true]
  unfold go_impl_MiddlesOf_L0
  refine iter_path (F := fun rec12 x11 => go_impl_MiddlesOf_L0_G k (bd W H hs) (ld a b) (some (graph W H hs a b), ((cells W H hs).map (ecc W H hs a b), (true, ()))) rec12 x11)
    (fun i => ((i : Int), zs (((cells W H hs).take i).filter fun c => decide (ecc W H hs a b c = lmin ((cells W H hs).map (ecc W H hs a b)))))) (cells W H hs).length (by simp) (by unfold K0 at hk; omega) (fun i hi rec => ?_) (fun rec => ?_)
  · have hget := List.getElem?_eq_getElem hi
    generalize hcc : (cells W H hs)[i] = c at hget
    have htk : (cells W H hs).take (i + 1) = (cells W H hs).take i ++ [c] := by rw [List.take_succ_eq_append_getElem hi, hcc]
    have hgm : ((cells W H hs).map (ecc W H hs a b)).getD i 0 = ecc W H hs a b c := by simp [List.getD_eq_getElem?_getD, hget]
    unfold go_impl_MiddlesOf_L0_G
    simp only [Option.getD_some, hc3, zs_length, Int.toNat_natCast, zs_get hget, hgm, Min_eq hk (show 0 < ((cells W H hs).map (ecc W H hs a b)).length by simpa using hne) (show ((cells W H hs).map (ecc W H hs a b)).length ≤ 1048576 by rw [List.length_map]; omega), Option.bind_some, List.length_map]
    rw [if_pos (by simpa using hi), inb_lt hi, if_pos rfl, if_pos rfl, htk, List.filter_append, wsucc (by omega)]
    generalize lmin ((cells W H hs).map (ecc W H hs a b)) = m
    by_cases hem : ecc W H hs a b c = m
    · have e1 : ([c].filter fun d => decide (ecc W H hs a b d = m)) = [c] := by simp [hem]
      have hfl := List.length_filter_le (fun d => decide (ecc W H hs a b d = m)) ((cells W H hs).take i)
      rw [List.length_take] at hfl
      rw [if_pos (by simpa using hem), if_pos (lim_le (by simp only [List.length_singleton, zs_length]; omega)), e1, zs_single, ← zs_append]
    · have e1 : ([c].filter fun d => decide (ecc W H hs a b d = m)) = [] := by simp [hem]
      rw [if_neg (by simpa using hem), e1, List.append_nil]
  · unfold go_impl_MiddlesOf_L0_G
    simp only [Option.getD_some, hc3, zs_length]
    rw [if_neg (by simp), List.take_length]
    rfl

theorem cells_ne (hg : Gd W H hs) : 0 < (cells W H hs).length := by
  rcases Nat.eq_zero_or_pos (cells W H hs).length with h | h
  · exfalso
    have hnil : cells W H hs = [] := List.length_eq_zero_iff.1 h
    have hall : ∀ x, x ∈ List.range (W * H) → x ∈ hs := fun x hx => by
      have : x ∉ cells W H hs := by rw [hnil]; simp
      rw [mem_cells] at this
      simp [hasN, List.mem_range.1 hx] at this
      exact this
    have := nodup_length_le List.nodup_range hall
    have := hg.few
    simp at *
    omega
  · exact h

end

theorem MiddlesOf_same (hk : K0 ≤ k) (B : BT) (L : LT) : ∃ r, go_spec_MiddlesOf k B L = some r ∧ go_impl_MiddlesOf k B L = some r ∧ r.1.length ≤ 64 := by
  cases hB : isGood B && isGoodL L with
  | false =>
    refine ⟨([], (false, ())), ?_, ?_, by simp⟩
    · unfold go_spec_MiddlesOf go_spec_MiddlesOf_T
      rw [boTwo_eq hk, hB]
      rfl
    · unfold go_impl_MiddlesOf go_impl_MiddlesOf_T go_impl_greatest go_impl_greatest_T
      rw [graphOf_none hk hB]
      rfl
  | true =>
    simp only [Bool.and_eq_true] at hB
    obtain ⟨hB, hL⟩ := hB
    obtain ⟨W, H, hs, rfl, hg⟩ := Good.nat (by simpa [isGood] using hB)
    obtain ⟨a, b, rfl, hab, hb1, hb5⟩ := GoodL.nat (by simpa [isGoodL] using hL)
    have hne := cells_ne hg
    have h64 := hg.n64
    have hcl := cells_length (W := W) (H := H) (hs := hs)
    by_cases hone : (partsOf (leaps W H hs a b) (W * H) (cells W H hs)).length = 1
    · refine ⟨_, spec_Middles hk hg hB hL hone hne, impl_Middles hk hg hB hL hab hb5 hone hne, ?_⟩
      show (zs (middles (ecc W H hs a b) (cells W H hs))).length ≤ 64
      rw [zs_length]
      have := List.length_filter_le (fun c => decide (ecc W H hs a b c = lmin ((cells W H hs).map (ecc W H hs a b)))) (cells W H hs)
      unfold middles
      omega
    · have hd : decide (((partsOf (leaps W H hs a b) (W * H) (cells W H hs)).length : Int) = 1) = false := by
        rw [decide_eq_false_iff_not]; omega
      refine ⟨([], (false, ())), ?_, ?_, by simp⟩
      · unfold go_spec_MiddlesOf go_spec_MiddlesOf_T
        simp only [boTwo_eq hk, hB, hL, Bool.and_self, Option.bind_some, Bool.not_true, Bool.not_false, if_true, faParts_eq hk hg, zzs_length, hd, Bool.or_true]
      · unfold go_impl_MiddlesOf go_impl_MiddlesOf_T go_impl_greatest go_impl_greatest_T
        rw [graphOf_eq hk hg hB hL hab hb5]
        simp only [Option.bind_some, Bool.not_true, Bool.not_false, if_true, parts_eq hk hg, zzs_length, hd, Bool.or_true]

theorem law_MiddlesOf (hk : K0 ≤ k) (B : BT) (L : LT) (hB : B.2.2.1.length ≤ 140737488351232) : go_laws_FnExactMiddlesOf k B L = some true := by
  unfold go_laws_FnExactMiddlesOf go_laws_szBoard
  rw [szIntS_eq hB (by omega) (by omega)]
  simp only [Option.bind_some]
  by_cases hlen : (1048576 : Int) < B.2.2.1.length
  · simp [hlen]
  · have hl : B.2.2.1.length ≤ 1048576 := by omega
    rw [if_neg hlen, if_neg (by simp only [decide_eq_true_eq]; omega)]
    simp only [Option.bind_some]
    rw [if_neg (by simp only [decide_eq_true_eq]; omega)]
    have htb : go_laws_toBoard k B = some B := by unfold go_laws_toBoard; rw [toIntS_eq hk hl]; rfl
    have htl : go_laws_toLeaper k L = some L := rfl
    have hB' : (B.1, (B.2.1, (B.2.2.1, ()))) = B := rfl
    obtain ⟨r, hr1, hr2, hrl⟩ := MiddlesOf_same hk B L
    obtain ⟨m, hm1, hm2⟩ := markBoard_eq hk (B := B) hl
    simp only [htb, htl, Option.bind_some, hB', hr1, hr2, eqIntS_eq hk (show r.1.length ≤ 1048576 by omega), eqBoard_refl hk hl, hm1, markIntS_eq hk (show r.1.length ≤ 1048576 by omega) (show (0 : Int) ≤ 1 by omega) (show (1 : Int) ≤ 1099511627776 by omega), heldIntS_eq hk (show r.1.length ≤ 1048576 by omega) (show (0 : Int) ≤ 1 by omega) (show (1 : Int) ≤ 1099511627776 by omega)]
    have h1 : decide (m.1 < 0) = false := by simp; omega
    have h2 : decide (1 + (r.1.length : Int) < 0) = false := by simp; omega
    simp [h1, h2]

theorem law_FnExactMiddlesOf_pure (x : (insOf [.pair I (.pair I (.pair (.sl I) .unit)), .pair I (.pair I .unit)]).T) (h : insOk _ x) : ∃ k, go_laws_FnExactMiddlesOf k x.1 x.2.1 = some true :=
  ⟨K0, law_MiddlesOf (Nat.le_refl _) x.1 x.2.1 (by have := h.1.2.2.1.1; simpa [reachBytes] using this)⟩

end Go.Lg
