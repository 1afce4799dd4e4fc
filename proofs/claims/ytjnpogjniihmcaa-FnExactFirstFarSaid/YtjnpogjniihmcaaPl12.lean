/-
  Plain law: both searches for a painting at one and two leaps.
-/
import Derived.Test.YtjnpogjniihmcaaPl11
set_option linter.unusedVariables false
set_option linter.unusedSimpArgs false
namespace Go.Lg
open Go.RowKit Go.IntWalk

variable {k : Nat}

theorem iter_try {A σ α β : Type} {F : (α → Option A) → α → Option A} (mk : Nat → σ → α) (Q : σ → Prop) (f : Nat → Option β) (n : Nat) (R : Option β → A → Prop)
    (step : ∀ i s, i < n → Q s → (∃ r b, f i = some b ∧ R (some b) r ∧ ∀ rec, F rec (mk i s) = some r) ∨ (f i = none ∧ ∃ s', Q s' ∧ ∀ rec, F rec (mk i s) = rec (mk (i + 1) s')))
    (exit : ∀ s, Q s → ∃ r, R none r ∧ ∀ rec, F rec (mk n s) = some r) {s : σ} (hs : Q s) {m : Nat} (hm : n < m) {x0 : α} (hx : x0 = mk 0 s) :
    ∃ r, iter m F x0 = some r ∧ R ((List.range n).findSome? f) r := by
  subst hx
  have : ∀ d i s m, i + d = n → Q s → d < m → ∃ r, iter m F (mk i s) = some r ∧ R ((List.range' i d).findSome? f) r := by
    intro d
    induction d with
    | zero =>
      intro i s m hi hs hm
      have : i = n := by omega
      subst this
      obtain ⟨r, h1, h2⟩ := exit s hs
      cases m with
      | zero => omega
      | succ m => exact ⟨r, h2 _, by simpa using h1⟩
    | succ d ih =>
      intro i s m hi hs hm
      cases m with
      | zero => omega
      | succ m =>
        rw [List.range'_succ, List.findSome?_cons]
        rcases step i s (by omega) hs with ⟨r, b, h1, h2, h3⟩ | ⟨h1, s', h2, h3⟩
        · rw [h1]
          exact ⟨r, h3 _, h2⟩
        · rw [h1]
          obtain ⟨r, h4, h5⟩ := ih (i + 1) s' m (by omega) h2 (by omega)
          exact ⟨r, by show F (iter m F) (mk i s) = _; rw [h3]; exact h4, h5⟩
  rw [List.range_eq_range']
  exact this n 0 s m (by omega) hs hm

section
variable {W H a b : Nat} {hs : List Nat}

def holeN (W H : Nat) (hs : List Nat) (c : Nat) : Bool := !hasN W H hs c

theorem all_range (p : Nat → Bool) (n : Nat) : (List.range n).all p = true ↔ ∀ y, y < n → p y = true := by
  simp [List.all_eq_true]

theorem getD_take {l : List Int} {i n : Nat} (h : i < n) : (l.take n).getD i 0 = l.getD i 0 := by
  rw [List.getD_eq_getElem?_getD, List.getElem?_take_of_lt h, ← List.getD_eq_getElem?_getD]

/-- The test of a colour, made over a list of the near cells. -/
theorem okx_list {l : List Nat} {c : Nat} {C : List Int} {x : Int} (hmem : ∀ y, y < c → (y ∈ l ↔ twoNear W H hs a b c y = true)) (hcl : c ≤ C.length) (hself : ∀ y ∈ l, y ≠ c) :
    l.all (fun d => decide ((c : Int) < (d : Int)) || !decide (C.getD d 0 = x)) = okx (twoNear W H hs a b) (C.take c) x := by
  unfold okx
  have hlen : (C.take c).length = c := by rw [List.length_take]; omega
  rw [hlen, Bool.eq_iff_iff, List.all_eq_true, all_range]
  constructor
  · intro h y hy
    cases ht : twoNear W H hs a b c y with
    | false => simp
    | true =>
      have := h y ((hmem y hy).2 ht)
      rw [getD_take hy]
      have hn : ¬ (c : Int) < (y : Int) := by omega
      rw [decide_eq_false hn] at this
      simpa using this
  · intro h d hd
    rcases Nat.lt_or_ge d c with hlt | hge
    · have := h d hlt
      rw [(hmem d hlt).1 hd, getD_take hlt] at this
      rw [Bool.not_true, Bool.false_or] at this
      rw [this, Bool.or_true]
    · have hne := hself d hd
      have : (c : Int) < (d : Int) := by omega
      rw [decide_eq_true this, Bool.true_or]

theorem paFirst_sr (hk : K0 ≤ k) (hg : Gd W H hs) (hab : a ≤ b) (hb1 : 1 ≤ b) {most : Nat} (hmost : most ≤ 9) : ∀ (d n c : Nat) (C : List Int), c + d = W * H → d < n → C.length = W * H →
    ∃ r, go_spec_paFirst_r k n (bd W H hs) (ld a b) (most : Int) (c : Int) C = some r ∧ r.2.2.2.2.2.1.length = W * H ∧ r.2.2.2.2.2.1.take c = C.take c ∧
      ((r.1 = true ∧ srS (holeN W H hs) (twoNear W H hs a b) most d (C.take c) = some r.2.2.2.2.2.1) ∨ (r.1 = false ∧ srS (holeN W H hs) (twoNear W H hs a b) most d (C.take c) = none)) := by
  have h64 := hg.n64
  have hm := wmul (show W ≤ 100 by have := hg.w8; omega) (show H ≤ 100 by have := hg.h8; omega)
  intro d
  induction d with
  | zero =>
    intro n c C hc hn hC
    cases n with
    | zero => omega
    | succ n =>
      show ∃ r, go_spec_paFirst_b (go_spec_paFirst_r k n) k (bd W H hs) (ld a b) (most : Int) (c : Int) C = some r ∧ _
      unfold go_spec_paFirst_b go_spec_paFirst_T
      simp only [hm]
      rw [if_pos (by simp only [decide_eq_true_eq]; omega)]
      refine ⟨_, rfl, hC, rfl, .inl ⟨rfl, ?_⟩⟩
      unfold srS
      rw [List.take_of_length_le (by omega)]
  | succ d ih =>
    intro n c C hc hn hC
    cases n with
    | zero => omega
    | succ n =>
      have hcN : c < W * H := by omega
      have hPl : (C.take c).length = c := by rw [List.length_take]; omega
      show ∃ r, go_spec_paFirst_b (go_spec_paFirst_r k n) k (bd W H hs) (ld a b) (most : Int) (c : Int) C = some r ∧ _
      unfold go_spec_paFirst_b go_spec_paFirst_T
      simp only [hm]
      rw [if_neg (by simp only [decide_eq_true_eq]; omega), boHas_eq hk hg, hasI_nat]
      simp only [Option.bind_some, hC, inb_lt hcN, if_true, Int.toNat_natCast]
      have hset : ∀ v : Int, (C.set c v).take (c + 1) = C.take c ++ [v] := fun v => by
        rw [List.take_succ_eq_append_getElem (by rw [List.length_set]; omega), List.take_set_of_le (Nat.le_refl c)]
        simp
      have hback : ∀ (v : Int) (D : List Int), D.take (c + 1) = C.take c ++ [v] → D.take c = C.take c := fun v D h => by
        have : D.take c = (D.take (c + 1)).take c := by rw [List.take_take, Nat.min_eq_left (by omega)]
        rw [this, h, List.take_left' hPl]
      cases hh : hasN W H hs c with
      | false =>
        simp only [Bool.not_false, if_true]
        rw [wsucc (by omega)]
        obtain ⟨r, h1, h2, h3, h4⟩ := ih n (c + 1) (C.set c (-1)) (by omega) (by omega) (by rw [List.length_set]; exact hC)
        rw [h1]
        rw [hset] at h3 h4
        refine ⟨_, rfl, h2, hback _ _ h3, ?_⟩
        unfold srS
        rw [hPl, if_pos (by unfold holeN; rw [hh]; rfl)]
        exact h4
      | true =>
        simp only [Bool.not_true, Bool.false_eq_true, if_false]
        unfold go_spec_paFirst_L0
        have hsr : srS (holeN W H hs) (twoNear W H hs a b) most (d + 1) (C.take c) = (List.range most).findSome? fun (x : Nat) => if okx (twoNear W H hs a b) (C.take c) (x : Int) = true then srS (holeN W H hs) (twoNear W H hs a b) most d (C.take c ++ [(x : Int)]) else none := by
          conv => lhs; unfold srS
          rw [hPl, if_neg (by unfold holeN; rw [hh]; decide)]
        rw [hsr]
        have hnl := nearList_length (W := W) (H := H) (a := a) (b := b) (hs := hs) hcN
        refine (iter_try (F := fun rec24 x23 => go_spec_paFirst_L0_G (go_spec_paFirst_r k n) k (bd W H hs) (ld a b) (most : Int) (c : Int) C (fun c0 c1 y => go_spec_paFirst_L1 (go_spec_paFirst_r k n) k (bd W H hs) (ld a b) (most : Int) (c : Int) C rec24 c0 c1 y) rec24 x23)
          (fun x D => ((x : Int), D)) (fun D => D.length = W * H ∧ D.take c = C.take c) (fun (x : Nat) => if okx (twoNear W H hs a b) (C.take c) (x : Int) = true then srS (holeN W H hs) (twoNear W H hs a b) most d (C.take c ++ [(x : Int)]) else none) most
          (fun o r => r.2.2.2.2.2.1.length = W * H ∧ r.2.2.2.2.2.1.take c = C.take c ∧ ((r.1 = true ∧ o = some r.2.2.2.2.2.1) ∨ (r.1 = false ∧ o = none)))
          (fun x D hx hD => ?_) (fun D hD => ?_) (s := C) ⟨hC, rfl⟩ (by unfold K0 at hk; omega) rfl)
        · obtain ⟨hDl, hDt⟩ := hD
          have hok : ∀ rec, go_spec_paFirst_L0_G (go_spec_paFirst_r k n) k (bd W H hs) (ld a b) (most : Int) (c : Int) C (fun c0 c1 y => go_spec_paFirst_L1 (go_spec_paFirst_r k n) k (bd W H hs) (ld a b) (most : Int) (c : Int) C rec c0 c1 y) rec ((x : Int), D) =
              if okx (twoNear W H hs a b) (C.take c) (x : Int) = true then
                (go_spec_paFirst_r k n (bd W H hs) (ld a b) (most : Int) ((c + 1 : Nat) : Int) (D.set c (x : Int))).bind fun r32 =>
                if r32.1 = true then some (true, (bd W H hs, (ld a b, ((most : Int), ((c : Int), (r32.2.2.2.2.2.1, ())))))) else rec (((x + 1 : Nat) : Int), r32.2.2.2.2.2.1)
              else rec (((x + 1 : Nat) : Int), D) := fun rec => by
            unfold go_spec_paFirst_L0_G
            rw [if_pos (by simp only [decide_eq_true_eq]; omega), paNear_eq hk hg hcN]
            simp only [Option.bind_some]
            unfold go_spec_paFirst_L1
            have hol := okx_list (W := W) (H := H) (hs := hs) (a := a) (b := b) (l := nearList (leaps W H hs a b) c (leaps W H hs a b c)) (c := c) (C := D) (x := (x : Int)) (fun y hy => mem_nearList hcN hab hb1) (by omega) (fun y hy => (twoNear_iff.1 ((mem_nearList hcN hab hb1).1 hy)).1)
            rw [hDt] at hol
            have hnlt := fun y hy => nearList_lt (W := W) (H := H) (a := a) (b := b) (hs := hs) (y := y) hcN hy
            generalize nearList (leaps W H hs a b) c (leaps W H hs a b c) = l at hol hnlt hnl
            refine iter_path (F := fun rec31 x30 => go_spec_paFirst_L1_G (go_spec_paFirst_r k n) k (bd W H hs) (ld a b) (most : Int) (c : Int) C ((x : Int), D) (zs l) rec rec31 x30)
              (fun j => ((l.take j).all (fun d => decide ((c : Int) < (d : Int)) || !decide (D.getD d 0 = (x : Int))), (j : Int))) l.length (by simp) (by unfold K0 at hk; omega) (fun j hj rec2 => ?_) (fun rec2 => ?_)
            · unfold go_spec_paFirst_L1_G
              have hgd := List.getElem?_eq_getElem hj
              generalize hdd : l[j] = y at hgd
              have hyN := hnlt y (List.mem_of_getElem? hgd)
              have htk : l.take (j + 1) = l.take j ++ [y] := by rw [List.take_succ_eq_append_getElem hj, hdd]
              simp only [zs_length, Int.toNat_natCast, zs_get hgd, hDl, inb_lt hyN, inb_lt hj, wsucc (show j < 9223372036854775807 by omega), Bool.or_true, if_true]
              rw [if_pos (by simpa using hj), htk, List.all_append]
              simp
            · unfold go_spec_paFirst_L1_G
              rw [if_neg (by simp), List.take_length, hol]
              simp only [hDl, inb_lt hcN, if_true, Int.toNat_natCast, wsucc (show c < 9223372036854775807 by omega), wsucc (show x < 9223372036854775807 by omega)]
          by_cases hx1 : okx (twoNear W H hs a b) (C.take c) (x : Int) = true
          · simp only [if_pos hx1] at hok ⊢
            obtain ⟨r, h1, h2, h3, h4⟩ := ih n (c + 1) (D.set c (x : Int)) (by omega) (by omega) (by rw [List.length_set]; exact hDl)
            have hsetD : (D.set c (x : Int)).take (c + 1) = C.take c ++ [(x : Int)] := by
              rw [List.take_succ_eq_append_getElem (by rw [List.length_set]; omega), List.take_set_of_le (Nat.le_refl c), hDt]
              simp
            rw [hsetD] at h3 h4
            rw [h1] at hok
            rcases h4 with ⟨e1, e2⟩ | ⟨e1, e2⟩
            · refine .inl ⟨(true, (bd W H hs, (ld a b, ((most : Int), ((c : Int), (r.2.2.2.2.2.1, ())))))), _, e2, ⟨h2, hback _ _ h3, .inl ⟨rfl, rfl⟩⟩, fun rec => ?_⟩
              rw [hok rec]
              simp only [Option.bind_some, e1, if_true]
            · refine .inr ⟨e2, r.2.2.2.2.2.1, ⟨h2, hback _ _ h3⟩, fun rec => ?_⟩
              rw [hok rec]
              simp only [Option.bind_some, e1, Bool.false_eq_true, if_false]
          · simp only [if_neg hx1] at hok ⊢
            exact .inr ⟨trivial, D, ⟨hDl, hDt⟩, hok⟩
        · refine ⟨(false, (bd W H hs, (ld a b, ((most : Int), ((c : Int), (D, ())))))), ⟨hD.1, hD.2, .inr ⟨rfl, rfl⟩⟩, fun rec => ?_⟩
          unfold go_spec_paFirst_L0_G
          rw [if_neg (by simp)]

end
end Go.Lg
