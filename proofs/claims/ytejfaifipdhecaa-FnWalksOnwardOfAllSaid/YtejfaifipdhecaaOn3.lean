/-
  Plain law: walks of numbers; colours that forbid walks.
-/
import Derived.Test.YtejfaifipdhecaaOn2
set_option linter.unusedVariables false
set_option linter.unusedSimpArgs false
namespace Go.Lg
open Go.RowKit Go.IntWalk

variable {k : Nat}

theorem nodup_of_cover : ∀ {l q : List Nat}, q.Nodup → (∀ x ∈ q, x ∈ l) → l.length ≤ q.length → l.Nodup
  | [], _, _, _, _ => by simp
  | x :: l, q, hn, hs, hl => by
    rw [List.length_cons] at hl
    by_cases hx : x ∈ l
    · have := nodup_length_le (q := q) (l := l) hn fun y hy => by
        rcases List.mem_cons.1 (hs y hy) with h | h
        · rw [h]; exact hx
        · exact h
      omega
    · have h1 := List.length_erase (l := q) (a := x)
      have ih := nodup_of_cover (l := l) (q := q.erase x) (hn.erase x) (fun y hy => by
        have hy' := List.mem_of_mem_erase hy
        rcases List.mem_cons.1 (hs y hy') with h | h
        · subst h
          exact absurd hy (List.Nodup.not_mem_erase hn)
        · exact h) (by rw [h1]; split <;> omega)
      exact List.nodup_cons.2 ⟨hx, ih⟩

section
variable {W H a b : Nat} {hs : List Nat}

theorem WalkN.walkB {q : List Nat} (hq : WalkN W H hs a b q) : walkB W H hs a b (zs q) = true := by
  have h1 := hq.len1
  have h64 := hq.len64
  unfold Go.Lg.walkB pathB
  rw [zs_length, toNat_zs]
  have b1 : (List.range q.length).any (badP W H hs a b (zs q)) = false := by
    rw [List.any_eq_false]
    intro i hi
    have hi := List.mem_range.1 hi
    unfold badP
    rw [zs_getD, zs_getD, hasI_nat, hq.toPathN.hasJ hi, Int.toNat_natCast, Int.toNat_natCast]
    rcases Nat.eq_zero_or_pos i with h0 | h0
    · subst h0; simp
    · have := hq.adj (i - 1) (by omega)
      rw [show i - 1 + 1 = i by omega] at this
      rw [this]; simp
  have b2 : (List.range q.length).any (seenB q) = false := by
    rw [List.any_eq_false]
    intro i hi
    have hi := List.mem_range.1 hi
    unfold seenB
    simp only [decide_eq_true_eq]
    intro hm
    have hn := hq.nodup
    rw [List.Nodup, List.pairwise_iff_getElem] at hn
    rw [List.getD_eq_getElem?_getD, List.getElem?_eq_getElem hi, Option.getD_some] at hm
    obtain ⟨j, hj⟩ := List.getElem?_of_mem hm
    have hjl := length_lt hj
    rw [List.length_take] at hjl
    rw [List.getElem?_take_of_lt (by omega), List.getElem?_eq_getElem (by omega)] at hj
    exact hn j i (by omega) hi (by omega) (Option.some.inj hj)
  rw [b1, b2]
  simp [h1, h64]

/-! ### the last place of a number -/

def lastI (z : List Nat) (v : Nat) : Nat → Int
  | 0 => -1
  | i + 1 => if z.getD i 0 = v then (i : Int) else lastI z v i
def lastC (z : List Nat) (v : Nat) : Nat → Nat
  | 0 => 0
  | i + 1 => if z.getD i 0 = v then i else lastC z v i

theorem last_cases (z : List Nat) (v : Nat) : ∀ i, (lastI z v i = -1 ∧ lastC z v i = 0 ∧ ∀ c, c < i → z.getD c 0 ≠ v) ∨ (∃ c, c < i ∧ lastI z v i = (c : Int) ∧ lastC z v i = c ∧ z.getD c 0 = v)
  | 0 => .inl ⟨rfl, rfl, fun c hc => by omega⟩
  | i + 1 => by
    unfold lastI lastC
    by_cases h : z.getD i 0 = v
    · rw [if_pos h, if_pos h]
      exact .inr ⟨i, by omega, rfl, rfl, h⟩
    · rw [if_neg h, if_neg h]
      rcases last_cases z v i with ⟨h1, h2, h3⟩ | ⟨c, h1, h2, h3, h4⟩
      · refine .inl ⟨h1, h2, fun c hc => ?_⟩
        by_cases e : c = i
        · rw [e]; exact h
        · exact h3 c (by omega)
      · exact .inr ⟨c, by omega, h2, h3, h4⟩

def pI (z : List Nat) (n i : Nat) : List Int := (List.range n).map fun j => lastI z (j + 1) i
def pS (z : List Nat) (n i : Nat) : List Nat := (List.range n).map fun j => lastC z (j + 1) i

theorem pI_len (z : List Nat) (n i : Nat) : (pI z n i).length = n := by simp [pI]
theorem pS_len (z : List Nat) (n i : Nat) : (pS z n i).length = n := by simp [pS]
theorem pI_getD (z : List Nat) (i : Nat) {n j : Nat} (h : j < n) : (pI z n i).getD j 0 = lastI z (j + 1) i := by
  unfold pI; rw [List.getD_eq_getElem?_getD, List.getElem?_map, List.getElem?_range h]; rfl
theorem pS_getD (z : List Nat) (i : Nat) {n j : Nat} (h : j < n) : (pS z n i).getD j 0 = lastC z (j + 1) i := by
  unfold pS; rw [List.getD_eq_getElem?_getD, List.getElem?_map, List.getElem?_range h]; rfl

theorem pS_zero (z : List Nat) (n i : Nat) (h : z.getD i 0 = 0) : pS z n (i + 1) = pS z n i := by
  unfold pS
  refine List.map_congr_left fun j _ => ?_
  rw [lastC, if_neg (by omega)]
theorem pI_zero (z : List Nat) (n i : Nat) (h : z.getD i 0 = 0) : pI z n (i + 1) = pI z n i := by
  unfold pI
  refine List.map_congr_left fun j _ => ?_
  rw [lastI, if_neg (by omega)]
theorem pS_set (z : List Nat) (n i : Nat) (h : 0 < z.getD i 0) : pS z n (i + 1) = (pS z n i).set (z.getD i 0 - 1) i := by
  refine List.ext_getElem (by simp [pS_len]) fun j h1 h2 => ?_
  simp only [pS, List.getElem_set, List.getElem_map, List.getElem_range, lastC]
  by_cases e : z.getD i 0 = j + 1
  · rw [if_pos e, if_pos (by omega)]
  · rw [if_neg e, if_neg (by omega)]
theorem pI_set (z : List Nat) (n i : Nat) (h : 0 < z.getD i 0) : pI z n (i + 1) = (pI z n i).set (z.getD i 0 - 1) (i : Int) := by
  refine List.ext_getElem (by simp [pI_len]) fun j h1 h2 => ?_
  simp only [pI, List.getElem_set, List.getElem_map, List.getElem_range, lastI]
  by_cases e : z.getD i 0 = j + 1
  · rw [if_pos e, if_pos (by omega)]
  · rw [if_neg e, if_neg (by omega)]

def big (z : List Nat) (n N : Nat) : Bool := (List.range N).any fun c => decide (n < z.getD c 0)
def dup (z : List Nat) (n N : Nat) : Bool := (List.range N).any fun c => decide (0 < z.getD c 0) && (decide (n < z.getD c 0) || decide (0 ≤ lastI z (z.getD c 0) c))
def miss (z : List Nat) (n N : Nat) : Bool := (List.range n).any fun j => !decide (z.getD (lastC z (j + 1) N) 0 = j + 1)

theorem big_dup {z : List Nat} {n N : Nat} (h : big z n N = true) : dup z n N = true := by
  unfold big at h
  unfold dup
  obtain ⟨c, h1, h2⟩ := List.any_eq_true.1 h
  simp only [decide_eq_true_eq] at h2
  refine List.any_eq_true.2 ⟨c, h1, ?_⟩
  have e1 : decide (0 < z.getD c 0) = true := decide_eq_true (by omega)
  have e2 : decide (n < z.getD c 0) = true := decide_eq_true h2
  rw [e1, e2]; rfl

theorem big_false {z : List Nat} {n N : Nat} (h : big z n N = false) {c : Nat} (hc : c < N) : z.getD c 0 ≤ n := by
  unfold big at h
  rw [List.any_eq_false] at h
  have := h c (List.mem_range.2 hc)
  simp only [decide_eq_true_eq] at this
  omega

theorem dup_false {z : List Nat} {n N : Nat} (h : dup z n N = false) : big z n N = false ∧ ∀ c c', c < N → c' < c → 0 < z.getD c 0 → z.getD c' 0 ≠ z.getD c 0 := by
  have hbf : big z n N = false := by
    cases hb : big z n N with
    | false => rfl
    | true => rw [big_dup hb] at h; cases h
  refine ⟨hbf, fun c c' hc hc' h0 e => ?_⟩
  unfold dup at h
  rw [List.any_eq_false] at h
  have := h c (List.mem_range.2 hc)
  simp only [Bool.and_eq_true, Bool.or_eq_true, decide_eq_true_eq, not_and, not_or] at this
  have h2 := (this h0).2
  rcases last_cases z (z.getD c 0) c with ⟨h3, _, h5⟩ | ⟨d, h3, h4, _, _⟩
  · exact h5 c' hc' e
  · omega

theorem dup_iff_miss {z : List Nat} {n N : Nat} (hN : z.length = N) (hn : n = z.countP fun x => decide (0 < x)) (hb : big z n N = false) : dup z n N = miss z n N := by
  have hP : (z.filter fun x => decide (0 < x)).length = n := by rw [hn, List.countP_eq_length_filter]
  have hmemP : ∀ v, v ∈ z.filter (fun x => decide (0 < x)) → 0 < v ∧ v ≤ n ∧ ∃ c, c < N ∧ z.getD c 0 = v := fun v hv => by
    rw [List.mem_filter] at hv
    obtain ⟨hv1, hv2⟩ := hv
    obtain ⟨c, hc⟩ := List.getElem?_of_mem hv1
    have hcl := length_lt hc
    have e : z.getD c 0 = v := by rw [List.getD_eq_getElem?_getD, hc]; rfl
    refine ⟨by simpa using hv2, ?_, c, by omega, e⟩
    rw [← e]
    exact big_false hb (by omega)
  have hinP : ∀ c, c < N → 0 < z.getD c 0 → z.getD c 0 ∈ z.filter (fun x => decide (0 < x)) := fun c hc h0 => by
    rw [List.mem_filter]
    refine ⟨?_, by simpa using h0⟩
    rw [List.getD_eq_getElem?_getD, List.getElem?_eq_getElem (by omega)]
    exact List.getElem_mem _
  have nd : ((List.range n).map (· + 1)).Nodup := by
    rw [List.Nodup, List.pairwise_map]
    exact List.nodup_range.imp fun h e => h (by omega)
  cases hd : dup z n N with
  | false =>
    obtain ⟨_, hinj⟩ := dup_false hd
    have hnd : (z.filter fun x => decide (0 < x)).Nodup := by
      rw [List.Nodup, List.pairwise_filter, List.pairwise_iff_getElem]
      intro i j hi hj hij h1 h2 e
      have := hinj j i (by omega) hij
      rw [List.getD_eq_getElem?_getD, List.getD_eq_getElem?_getD, List.getElem?_eq_getElem hi, List.getElem?_eq_getElem hj] at this
      simp only [Option.getD_some] at this
      simp only [decide_eq_true_eq] at h2
      exact this h2 e
    symm
    unfold miss
    rw [List.any_eq_false]
    intro j hj
    have hj := List.mem_range.1 hj
    rcases last_cases z (j + 1) N with ⟨h1, h2, h3⟩ | ⟨c, h1, h2, h3, h4⟩
    · exfalso
      have := nodup_length_le (q := z.filter fun x => decide (0 < x)) (l := ((List.range n).map (· + 1)).erase (j + 1)) hnd (fun v hv => by
        obtain ⟨v1, v2, c, hc, e⟩ := hmemP v hv
        have hne : v ≠ j + 1 := fun e2 => h3 c hc (by rw [e, e2])
        refine (List.mem_erase_of_ne hne).2 ?_
        rw [List.mem_map]
        exact ⟨v - 1, List.mem_range.2 (by omega), by omega⟩)
      rw [hP, List.length_erase_of_mem (by rw [List.mem_map]; exact ⟨j, List.mem_range.2 hj, rfl⟩), List.length_map, List.length_range] at this
      omega
    · rw [h3, h4]; simp
  | true =>
    symm
    cases hm : miss z n N with
    | true => rfl
    | false =>
      exfalso
      unfold miss at hm
      rw [List.any_eq_false] at hm
      have hnd : (z.filter fun x => decide (0 < x)).Nodup := nodup_of_cover nd (fun v hv => by
        rw [List.mem_map] at hv
        obtain ⟨j, hj, rfl⟩ := hv
        have hj' := hm j hj
        simp only [Bool.not_eq_true, Bool.not_eq_false', decide_eq_true_eq] at hj'
        rcases last_cases z (j + 1) N with ⟨h1, h2, h3⟩ | ⟨c, h1, h2, h3, h4⟩
        · rw [h2] at hj'
          rcases Nat.eq_zero_or_pos N with hN0 | hN0
          · have : z.getD 0 0 = 0 := getD_out (by omega)
            omega
          · exact absurd hj' (h3 0 hN0)
        · rw [← h4]; exact hinP c h1 (by omega)) (by rw [hP, List.length_map, List.length_range]; exact Nat.le_refl _)
      rw [List.Nodup, List.pairwise_filter, List.pairwise_iff_getElem] at hnd
      unfold dup at hd
      obtain ⟨c, hc, hcd⟩ := List.any_eq_true.1 hd
      have hc := List.mem_range.1 hc
      have hcb := big_false hb hc
      simp only [Bool.and_eq_true, Bool.or_eq_true, decide_eq_true_eq] at hcd
      obtain ⟨h0, h1⟩ := hcd
      rcases last_cases z (z.getD c 0) c with ⟨h3, _, h5⟩ | ⟨d, h3, h4, _, h6⟩
      · omega
      · have := hnd d c (by omega) (by omega) h3
        have e1 : z.getD d 0 = z[d] := by rw [List.getD_eq_getElem?_getD, List.getElem?_eq_getElem (by omega)]; rfl
        have e2 : z.getD c 0 = z[c] := by rw [List.getD_eq_getElem?_getD, List.getElem?_eq_getElem (by omega)]; rfl
        rw [e1, e2] at h6
        exact this (by simp; omega) (by simp; omega) h6

/-- Numbers of no walk. -/
theorem NumInv.no_dup {z q : List Nat} {n N : Nat} (h : NumInv N z q) (hn : n = z.countP fun x => decide (0 < x)) : dup z n N = false := by
  rw [h.count] at hn
  unfold dup
  rw [List.any_eq_false]
  intro c hc
  have hc := List.mem_range.1 hc
  simp only [Bool.and_eq_true, Bool.or_eq_true, decide_eq_true_eq, not_and, not_or]
  intro h0
  rcases h.bw c hc with e | ⟨e1, e2, e3⟩
  · omega
  · refine ⟨by omega, ?_⟩
    rcases last_cases z (z.getD c 0) c with ⟨h3, _, h5⟩ | ⟨d, h3, h4, _, h6⟩
    · omega
    · exfalso
      rcases h.bw d (by omega) with f | ⟨f1, f2, f3⟩
      · omega
      · rw [h6] at f3
        omega

theorem inv_of {z : List Nat} {n N : Nat} (hN : z.length = N) (hn : n = z.countP fun x => decide (0 < x)) (hd : dup z n N = false) : NumInv N z (pS z n N) ∧ pI z n N = zs (pS z n N) := by
  obtain ⟨hb, hinj⟩ := dup_false hd
  have hm := dup_iff_miss hN hn hb
  rw [hd] at hm
  have hm := hm.symm
  unfold miss at hm
  rw [List.any_eq_false] at hm
  have all : ∀ j, j < n → ∃ c, c < N ∧ lastI z (j + 1) N = (c : Int) ∧ lastC z (j + 1) N = c ∧ z.getD c 0 = j + 1 := fun j hj => by
    have hj' := hm j (List.mem_range.2 hj)
    simp only [Bool.not_eq_true, Bool.not_eq_false', decide_eq_true_eq] at hj'
    rcases last_cases z (j + 1) N with ⟨h1, h2, h3⟩ | h
    · exfalso
      rw [h2] at hj'
      rcases Nat.eq_zero_or_pos N with hN0 | hN0
      · have : z.getD 0 0 = 0 := getD_out (by omega)
        omega
      · exact absurd hj' (h3 0 hN0)
    · exact h
  refine ⟨⟨hN, fun j hj => ?_, fun c hc => ?_⟩, ?_⟩
  · rw [pS_len] at hj
    obtain ⟨c, h1, h2, h3, h4⟩ := all j hj
    rw [pS_getD _ _ hj, h3]
    exact ⟨h1, h4⟩
  · rcases Nat.eq_zero_or_pos (z.getD c 0) with h0 | h0
    · exact .inl h0
    · have hle := big_false hb hc
      obtain ⟨d, h1, h2, h3, h4⟩ := all (z.getD c 0 - 1) (by omega)
      rw [show z.getD c 0 - 1 + 1 = z.getD c 0 by omega] at h3 h4
      refine .inr ⟨h0, by rw [pS_len]; exact hle, ?_⟩
      rw [pS_getD _ _ (by omega), show z.getD c 0 - 1 + 1 = z.getD c 0 by omega, h3]
      by_cases e : d = c
      · exact e
      · exfalso
        by_cases hlt : d < c
        · exact hinj c d hc hlt h0 h4
        · exact hinj d c h1 (by omega) (by omega) h4.symm
  · unfold pI pS zs
    rw [List.map_map]
    refine List.map_congr_left fun j hj => ?_
    obtain ⟨c, h1, h2, h3, h4⟩ := all j (List.mem_range.1 hj)
    simp only [Function.comp]
    rw [h2, h3]
    rfl

end
end Go.Lg
