/-
  Plain law: walks by fewest leaps onward.
-/
import Derived.Test.YtejfaifipdhecaaWk
import Derived.Test.YtejfaifipdhecaaGenO
set_option linter.unusedVariables false
set_option linter.unusedSimpArgs false
namespace Go.Lg
open Go.RowKit Go.IntWalk

variable {k : Nat}

/-- A board and a leaper are good, or not. -/
theorem two_casesJ (hk : K0 ≤ k) (B : BT) (L : LT) :
    (go_spec_boTwo k B L = some false ∧ go_impl_graphOf k B L = some (none, (false, ()))) ∨
    (go_spec_boTwo k B L = some true ∧ ∃ (W H a b : Nat) (hs : List Nat), B = bd W H hs ∧ L = ld a b ∧ Gd W H hs ∧ isGood (bd W H hs) = true ∧ isGoodL (ld a b) = true ∧ a ≤ b ∧ 1 ≤ b ∧ b ≤ 5 ∧ go_impl_graphOf k B L = some (some (graph W H hs a b), (true, ()))) := by
  rw [boTwo_eq hk]
  cases hB : isGood B && isGoodL L with
  | false => exact .inl ⟨rfl, graphOf_none hk hB⟩
  | true =>
    simp only [Bool.and_eq_true] at hB
    obtain ⟨hB, hL⟩ := hB
    obtain ⟨W, H, hs, rfl, hg⟩ := Good.nat (by simpa [isGood] using hB)
    obtain ⟨a, b, rfl, hab, hb1, hb5⟩ := GoodL.nat (by simpa [isGoodL] using hL)
    exact .inr ⟨rfl, W, H, a, b, hs, rfl, rfl, hg, hB, hL, hab, hb1, hb5, graphOf_eq hk hg hB hL hab hb5⟩

section
variable {W H a b : Nat} {hs : List Nat}
/-- A loop that looks for the first thing. -/
theorem iter_some {A α β : Type} {F : (α → Option A) → α → Option A} {x0 : α} (mk : Nat → α) (n : Nat) (f : Nat → Option β) {yes : β → Option A} {no : Option A} {m : Nat} (hx : x0 = mk 0) (hm : n < m)
    (step : ∀ i, i < n → ∀ rec, F rec (mk i) = match f i with | some y => yes y | none => rec (mk (i + 1)))
    (exit : ∀ rec, F rec (mk n) = no) : iter m F x0 = match (List.range n).findSome? f with | some y => yes y | none => no := by
  subst hx
  have : ∀ d j, n - j = d → j ≤ n → (∀ i, i < j → f i = none) → ∀ m, d < m → iter m F (mk j) = match (List.range n).findSome? f with | some y => yes y | none => no := by
    intro d
    induction d with
    | zero =>
      intro j hd hj hb m hm
      obtain rfl : j = n := by omega
      cases m with
      | zero => omega
      | succ m =>
        have : (List.range j).findSome? f = none := by
          rw [List.findSome?_eq_none_iff]
          intro i hi
          exact hb i (List.mem_range.1 hi)
        rw [this]
        exact exit _
    | succ d ih =>
      intro j hd hj hb m hm
      cases m with
      | zero => omega
      | succ m =>
        show F (iter m F) (mk j) = _
        rw [step j (by omega)]
        cases hbj : f j with
        | some y =>
          have : (List.range n).findSome? f = some y := by
            obtain ⟨d', rfl⟩ : ∃ d', n = j + 1 + d' := ⟨n - j - 1, by omega⟩
            have e : List.range (j + 1 + d') = List.range j ++ j :: (List.range d').map (fun x => j + 1 + x) := by
              rw [List.range_add, List.range_succ]
              simp
            rw [e, List.findSome?_append, List.findSome?_eq_none_iff.2 (fun i hi => hb i (List.mem_range.1 hi)), List.findSome?_cons, hbj]
            rfl
          rw [this]
        | none =>
          exact ih (j + 1) (by omega) (by omega) (fun i hi => by
            by_cases h : i = j
            · rw [h]; exact hbj
            · exact hb i (by omega)) m (by omega)
  exact this n 0 (by omega) (Nat.zero_le _) (fun i hi => by omega) m hm

end

theorem getD_drop' (q : List Nat) (n i : Nat) : (q.drop n).getD i 0 = q.getD (n + i) 0 := by
  rw [List.getD_eq_getElem?_getD, List.getElem?_drop, ← List.getD_eq_getElem?_getD]
theorem getD_rev (q : List Nat) {i : Nat} (h : i < q.length) : q.reverse.getD i 0 = q.getD (q.length - 1 - i) 0 := by
  rw [List.getD_eq_getElem?_getD, List.getElem?_reverse h, ← List.getD_eq_getElem?_getD]
theorem getD_app (p q : List Nat) (i : Nat) : (p ++ q).getD i 0 = if i < p.length then p.getD i 0 else q.getD (i - p.length) 0 := by
  split
  · next h => rw [List.getD_eq_getElem?_getD, List.getElem?_append_left h, ← List.getD_eq_getElem?_getD]
  · next h => rw [List.getD_eq_getElem?_getD, List.getElem?_append_right (by omega), ← List.getD_eq_getElem?_getD]
theorem getD_take' (q : List Nat) {n i : Nat} (h : i < n) : (q.take n).getD i 0 = q.getD i 0 := by
  rw [List.getD_eq_getElem?_getD, List.getElem?_take_of_lt h, ← List.getD_eq_getElem?_getD]
theorem ext_getD {p q : List Nat} (h : p.length = q.length) (h' : ∀ i, i < p.length → p.getD i 0 = q.getD i 0) : p = q := by
  refine List.ext_getElem h fun i h1 h2 => ?_
  have := h' i h1
  rw [List.getD_eq_getElem?_getD, List.getD_eq_getElem?_getD, List.getElem?_eq_getElem h1, List.getElem?_eq_getElem h2] at this
  exact this
theorem getD_set (q : List Nat) (i j x : Nat) (hi : i < q.length) : (q.set i x).getD j 0 = if i = j then x else q.getD j 0 := by
  rw [List.getD_eq_getElem?_getD, List.getElem?_set]
  split
  · next h => subst h; simp [hi]
  · rw [← List.getD_eq_getElem?_getD]

theorem nodup_length_le {α : Type} [DecidableEq α] : ∀ {q l : List α}, q.Nodup → (∀ x ∈ q, x ∈ l) → q.length ≤ l.length
  | [], _, _, _ => by simp
  | a :: q, l, hn, hs => by
    have ⟨h1, h2⟩ := List.nodup_cons.1 hn
    have ha := hs a (List.mem_cons_self ..)
    have := nodup_length_le (q := q) (l := l.erase a) h2 fun x hx => by
      have hne : x ≠ a := fun e => h1 (e ▸ hx)
      exact (List.mem_erase_of_ne hne).2 (hs x (List.mem_cons_of_mem _ hx))
    rw [List.length_erase_of_mem ha] at this
    have hpos : 0 < l.length := List.length_pos_of_mem ha
    simp only [List.length_cons]
    omega

theorem length_le_of_nodup {N : Nat} {q : List Nat} (hn : q.Nodup) (hb : ∀ x ∈ q, x < N) : q.length ≤ N := by
  have := nodup_length_le hn (l := List.range N) fun x hx => List.mem_range.2 (hb x hx)
  simpa using this


theorem ySame_eq {l m : List Int} (hk : K0 ≤ k) (hl : l.length ≤ 1048576) : go_laws_ySame k l m = some (decide (l = m)) := by
  unfold go_laws_ySame go_laws_ySame_T
  by_cases hlen : l.length = m.length
  · rw [if_neg (by simp; omega)]
    unfold go_laws_ySame_L0
    have := iter_find (F := fun rec4 x3 => go_laws_ySame_L0_G k l m rec4 x3) (fun i => (i : Int)) (List.range l.length) (fun i => !decide (l.getD i 0 = m.getD i 0)) (yes := fun _ _ => some false) (no := some true) (m := k) rfl (by simp; unfold K0 at hk; omega)
      (fun i x hx rec => by
        have hi := length_lt hx
        simp at hi
        rw [List.getElem?_range hi] at hx; simp at hx; subst hx
        unfold go_laws_ySame_L0_G
        rw [if_pos (by simpa using hi)]
        simp only [inb_lt hi, inb_lt (hlen ▸ hi : i < m.length), if_true, Int.toNat_natCast, wsucc (show i < 9223372036854775807 by omega)])
      (fun rec => by
        unfold go_laws_ySame_L0_G
        rw [if_neg (by simp)])
    refine this.trans ?_
    cases hf : (List.range l.length).findIdx? (fun i => !decide (l.getD i 0 = m.getD i 0)) with
    | none =>
      rw [List.findIdx?_eq_none_iff] at hf
      have : l = m := List.ext_getElem hlen fun i h1 h2 => by
        have := hf i (by simpa using h1)
        simpa [List.getD_eq_getElem?_getD, List.getElem?_eq_getElem h1, List.getElem?_eq_getElem h2] using this
      simp [this]
    | some i =>
      rw [List.findIdx?_eq_some_iff_getElem] at hf
      obtain ⟨hi, hp, _⟩ := hf
      have hne : l ≠ m := by rintro rfl; simp at hp
      have hi' : i < l.length := by simpa using hi
      simp only [List.getElem?_range hi', hne, decide_false]
  · rw [if_pos (by simp; omega)]
    have : l ≠ m := by rintro rfl; exact hlen rfl
    simp [this]

theorem ySame_self {l : List Int} (hk : K0 ≤ k) (hl : l.length ≤ 1048576) : go_laws_ySame k l l = some true := by rw [ySame_eq hk hl]; simp

theorem yHas_eq {hs : List Nat} {c : Nat} (hk : K0 ≤ k) (hl : hs.length ≤ 1048576) : go_laws_yHas k (zs hs) (c : Int) = some (decide (c ∈ hs)) := by
  unfold go_laws_yHas go_laws_yHas_T go_laws_yHas_L0
  have := iter_find1 (F := fun rec4 x3 => go_laws_yHas_L0_G k (zs hs) (c : Int) rec4 x3) (fun i => (i : Int)) hs
    (fun x => decide (x = c)) (yes := fun _ => some true) (no := some false) (m := k) (x0 := (0 : Int)) rfl (by unfold K0 at hk; omega)
    (fun i x hx rec => by
      have hi := length_lt hx
      unfold go_laws_yHas_L0_G
      have e : decide ((x : Int) = (c : Int)) = decide (x = c) := by rw [decide_eq_decide]; omega
      rw [if_pos (by simpa using hi)]
      simp only [zs_length, inb_lt hi, if_true, Int.toNat_natCast, wsucc (show i < 9223372036854775807 by omega), zs_get hx, e])
    (fun rec => by
      unfold go_laws_yHas_L0_G
      rw [if_neg (by simp)])
  refine Eq.trans this ?_
  cases hf : hs.find? (fun x => decide (x = c)) with
  | none =>
    have : c ∉ hs := fun h => by have := List.find?_eq_none.1 hf c h; simp at this
    simp [this]
  | some x =>
    have h1 := List.find?_some hf
    have h2 := List.mem_of_find?_eq_some hf
    have : c ∈ hs := by have e : x = c := by simpa using h1
                        rw [← e]; exact h2
    simp [this]

section
variable {W H a b : Nat} {hs : List Nat}

theorem PathN.hasJ {q : List Nat} (hq : PathN W H hs a b q) {i : Nat} (hi : i < q.length) : hasN W H hs (q.getD i 0) = true := by
  rw [List.getD_eq_getElem?_getD, List.getElem?_eq_getElem hi]
  exact hq.has _ (List.getElem_mem hi)
theorem PathN.bdJ {q : List Nat} (hg : Gd W H hs) (hq : PathN W H hs a b q) (i : Nat) : q.getD i 0 ≤ 1000 := by
  have := hg.n64
  by_cases hi : i < q.length
  · have := hasW_lt (hq.hasJ hi); omega
  · rw [List.getD_eq_getElem?_getD, List.getElem?_eq_none (by omega)]; simp

theorem WalkN.snoc {q : List Nat} {d : Nat} (hq : WalkN W H hs a b q) (hg : Gd W H hs) (hd : d ∈ leaps W H hs a b (q.getD (q.length - 1) 0)) (hn : d ∉ q) : WalkN W H hs a b (q ++ [d]) := by
  have hh := mem_leaps.1 hd
  have h64 := hg.n64
  have hhas : ∀ c ∈ q ++ [d], hasN W H hs c = true := fun c hc => by
    rcases List.mem_append.1 hc with h | h
    · exact hq.has c h
    · rw [List.mem_singleton.1 h]; exact hh.1
  have hnd : (q ++ [d]).Nodup := by
    rw [List.nodup_append]
    refine ⟨hq.nodup, by simp, fun x hx y hy => ?_⟩
    rw [List.mem_singleton.1 hy]
    rintro rfl
    exact hn hx
  have hl := length_le_of_nodup hnd (fun c hc => hasW_lt (hhas c hc))
  refine ⟨⟨by simp, by omega, hhas, fun i hi => ?_⟩, hnd⟩
  rw [List.length_append, List.length_singleton] at hi
  rw [getD_app, getD_app, if_pos (by omega)]
  by_cases h : i + 1 < q.length
  · rw [if_pos h]; exact hq.adj i h
  · rw [if_neg h, show i + 1 - q.length = 0 by omega, show i = q.length - 1 by omega]
    exact hh.2

/-! ### the next leap -/

def onC (q l : List Nat) : Nat := l.countP fun c => !decide (c ∈ q)
def pickO (W H : Nat) (hs : List Nat) (a b : Nat) (q : List Nat) (st : Int × Int) (d : Nat) : Int × Int :=
  if d ∈ q then st else if (decide (st.1 < 0) || decide ((onC q (leaps W H hs a b d) : Int) < st.2)) = true then ((d : Int), (onC q (leaps W H hs a b d) : Int)) else st
def bestO (W H : Nat) (hs : List Nat) (a b : Nat) (q l : List Nat) : Int × Int := (List.range l.length).foldl (fun st i => pickO W H hs a b q st (l.getD i 0)) (-1, 0)

theorem best_inv (W H : Nat) (hs : List Nat) (a b : Nat) (q l : List Nat) : ∀ n, n ≤ l.length → ((((List.range n).foldl (fun st i => pickO W H hs a b q st (l.getD i 0)) (-1, 0)).1 = -1 ∧ ∀ i, i < n → l.getD i 0 ∈ q) ∨ ∃ d : Nat, ((List.range n).foldl (fun st i => pickO W H hs a b q st (l.getD i 0)) (-1, 0)).1 = (d : Int) ∧ d ∈ l ∧ d ∉ q)
  | 0, _ => .inl ⟨rfl, fun i hi => by omega⟩
  | n + 1, hn => by
    rw [List.range_succ, List.foldl_append]
    simp only [List.foldl_cons, List.foldl_nil]
    have hmem : l.getD n 0 ∈ l := by
      rw [List.getD_eq_getElem?_getD, List.getElem?_eq_getElem (by omega)]
      exact List.getElem_mem _
    have ih := best_inv W H hs a b q l n (by omega)
    generalize (List.range n).foldl (fun st i => pickO W H hs a b q st (l.getD i 0)) (-1, 0) = st at ih
    unfold pickO
    by_cases h : l.getD n 0 ∈ q
    · rw [if_pos h]
      rcases ih with ⟨h1, h2⟩ | ih
      · refine .inl ⟨h1, fun i hi => ?_⟩
        by_cases e : i = n
        · rw [e]; exact h
        · exact h2 i (by omega)
      · exact .inr ih
    · rw [if_neg h]
      split
      · exact .inr ⟨_, rfl, hmem, h⟩
      · next hc =>
        rcases ih with ⟨h1, h2⟩ | ih
        · rw [h1] at hc; simp at hc
        · exact .inr ih

theorem best_cases (W H : Nat) (hs : List Nat) (a b : Nat) (q l : List Nat) : ((bestO W H hs a b q l).1 = -1 ∧ ∀ d ∈ l, d ∈ q) ∨ ∃ d : Nat, (bestO W H hs a b q l).1 = (d : Int) ∧ d ∈ l ∧ d ∉ q := by
  rcases best_inv W H hs a b q l l.length (Nat.le_refl _) with ⟨h1, h2⟩ | h
  · refine .inl ⟨h1, fun d hd => ?_⟩
    obtain ⟨i, hi⟩ := List.getElem?_of_mem hd
    have := h2 i (length_lt hi)
    rw [List.getD_eq_getElem?_getD, hi] at this
    exact this
  · exact .inr h

theorem leaps_len (hg : Gd W H hs) (c : Nat) : (leaps W H hs a b c).length ≤ 64 := by
  have h64 := hg.n64
  have h1 := List.length_filter_le (fun d => adj W a b c d) (cells W H hs)
  have h2 := cells_length (W := W) (H := H) (hs := hs)
  have h3 : (leaps W H hs a b c).length ≤ (cells W H hs).length := h1
  omega

theorem onC_succ (q l : List Nat) {j : Nat} (hj : j < l.length) : onC q (l.take (j + 1)) = onC q (l.take j) + if l.getD j 0 ∈ q then 0 else 1 := by
  unfold onC
  rw [List.take_succ_eq_append_getElem hj, List.countP_append, List.getD_eq_getElem?_getD, List.getElem?_eq_getElem hj]
  simp only [List.countP_cons, List.countP_nil, Option.getD_some]
  by_cases h : l[j] ∈ q <;> simp [h]
theorem onC_le (q l : List Nat) (j : Nat) : onC q (l.take j) ≤ l.length := by
  have h1 : onC q (l.take j) ≤ (l.take j).length := List.countP_le_length
  have h2 := List.length_take_le' j l
  omega

theorem toOnward_eq (hk : K0 ≤ k) (hg : Gd W H hs) {q : List Nat} (hq : q.length ≤ 64) {d : Nat} (hd : d ≤ 1000) : go_spec_toOnward k (bd W H hs) (ld a b) (d : Int) (zs q) = some (onC q (leaps W H hs a b d) : Int) := by
  unfold go_spec_toOnward go_spec_toOnward_T
  rw [boLeaps_eq hk hg hd]
  simp only [Option.bind_some]
  have hll := leaps_len (a := a) (b := b) hg d
  generalize leaps W H hs a b d = l at hll
  unfold go_spec_toOnward_L0
  refine iter_path (F := fun rec9 x8 => go_spec_toOnward_L0_G k (bd W H hs) (ld a b) (d : Int) (zs q) (zs l) rec9 x8) (fun j => ((onC q (l.take j) : Int), (j : Int))) l.length rfl (by unfold K0 at hk; omega) (fun j hj rec => ?_) (fun rec => ?_)
  · unfold go_spec_toOnward_L0_G
    have e1 : decide ((j : Int) < (l.length : Int)) = true := by simpa using hj
    have hc := onC_le q l j
    simp only [zs_length, e1, inb_lt hj, if_true, Int.toNat_natCast, zs_getD, l1Has_eq hk (show q.length ≤ 1048576 by omega), Option.bind_some, wsucc (show j < 9223372036854775807 by omega), wsucc (show onC q (l.take j) < 9223372036854775807 by omega), onC_succ q l hj]
    by_cases h : l.getD j 0 ∈ q
    · simp only [h, decide_true, Bool.not_true, Bool.false_eq_true, if_false, if_true, Nat.add_zero]
    · simp only [h, decide_false, Bool.not_false, if_true, if_false]
  · unfold go_spec_toOnward_L0_G
    have e1 : decide ((l.length : Int) < (l.length : Int)) = false := by simp
    simp only [zs_length, e1, Bool.false_eq_true, if_false, List.take_length]

theorem lastZ {q : List Nat} (h : 1 ≤ q.length) (h' : q.length ≤ 1000) : IntKind.i64.wrap ((q.length : Int) - (1 : Int)) = ((q.length - 1 : Nat) : Int) := wpred (by omega) h

theorem hasD {q : List Nat} {i : Nat} (hq : PathN W H hs a b q) (hi : i < q.length) : q.getD i 0 < W * H := hasW_lt (hq.hasJ hi)

theorem implStep (hk : K0 ≤ k) (hg : Gd W H hs) (start : Int) {q : List Nat} (hq : WalkN W H hs a b q) (rec43 : List Int → Option (List Int)) :
    go_impl_graph_onward_L0_G k (some (graph W H hs a b)) start (fun c0 y => go_impl_graph_onward_L1 k (some (graph W H hs a b)) start rec43 c0 y) rec43 (zs q) =
      if (bestO W H hs a b q (leaps W H hs a b (q.getD (q.length - 1) 0))).1 < 0 then some (zs q) else rec43 (zs q ++ [(bestO W H hs a b q (leaps W H hs a b (q.getD (q.length - 1) 0))).1]) := by
  have h1 := hq.len1
  have h64 := hq.len64
  have hn64 := hg.n64
  have hlast := hq.toPathN.hasJ (show q.length - 1 < q.length by omega)
  have hlt := hasW_lt hlast
  have hnl := near_length (W := W) (H := H) (hs := hs) (a := a) (b := b)
  unfold go_impl_graph_onward_L0_G
  simp only [Option.isSome_some, if_true, zs_length, lastZ h1 (show q.length ≤ 1000 by omega), inb_lt (show q.length - 1 < q.length by omega), Int.toNat_natCast, zs_getD, Option.getD_some, gW_near, near_length, inb_lt hlt]
  generalize hc : q.getD (q.length - 1) 0 = c at hlast hlt
  have hll := leaps_len (a := a) (b := b) hg c
  have hmemh : ∀ d ∈ leaps W H hs a b c, hasN W H hs d = true := fun d hd => (mem_leaps.1 hd).1
  generalize hL : leaps W H hs a b c = l at hll hmemh
  unfold go_impl_graph_onward_L1 bestO
  refine iter_list (F := fun rec72 x71 => go_impl_graph_onward_L1_G k (some (graph W H hs a b)) start (zs q) (fun c0 y => go_impl_graph_onward_L2 k (some (graph W H hs a b)) start rec43 rec72 (zs q) c0 y) rec43 rec72 x71) (fun i s => (s.1, s.2, (i : Int))) (fun st i => pickO W H hs a b q st (l.getD i 0)) l.length (out := fun s => if s.1 < 0 then some (zs q) else rec43 (zs q ++ [s.1])) (-1, 0) rfl (by unfold K0 at hk; omega) (fun _ _ => True) trivial (fun i s hi _ => ⟨fun rec72 => ?_, trivial⟩) (fun s _ rec72 => ?_)
  · have hmem : l.getD i 0 ∈ l := by
      rw [List.getD_eq_getElem?_getD, List.getElem?_eq_getElem hi]
      exact List.getElem_mem _
    have hdh := hmemh _ hmem
    have hdl := hasW_lt hdh
    have e1 : decide ((i : Int) < (l.length : Int)) = true := by simpa using hi
    unfold go_impl_graph_onward_L1_G
    simp only [zs_length, lastZ h1 (show q.length ≤ 1000 by omega), Int.toNat_natCast, zs_getD, Option.getD_some, Option.isSome_some, gW_near, hc, near_get hlast, hL, e1, if_true, inb_lt hi, Contains_eq hk (show q.length ≤ 1048576 by omega), Option.bind_some, wsucc (show i < 9223372036854775807 by omega), near_length, inb_lt hdl]
    unfold pickO
    by_cases h : l.getD i 0 ∈ q
    · simp only [h, decide_true, if_true]
    · simp only [h, decide_false, Bool.false_eq_true, if_false]
      generalize hde : l.getD i 0 = d at hdh hdl h
      have hll2 := leaps_len (a := a) (b := b) hg d
      have hnd := near_get (a := a) (b := b) hdh
      generalize leaps W H hs a b d = l2 at hll2 hnd
      unfold go_impl_graph_onward_L2
      refine iter_path (F := fun rec81 x80 => go_impl_graph_onward_L2_G k (some (graph W H hs a b)) start (zs q) (s.1, s.2, (i : Int)) rec43 rec72 rec81 x80) (fun j => ((onC q (l2.take j) : Int), (j : Int))) l2.length rfl (by unfold K0 at hk; omega) (fun j hj rec => ?_) (fun rec => ?_)
      · unfold go_impl_graph_onward_L2_G
        have e2 : decide ((j : Int) < (l2.length : Int)) = true := by simpa using hj
        have hcn := onC_le q l2 j
        simp only [zs_length, lastZ h1 (show q.length ≤ 1000 by omega), Int.toNat_natCast, zs_getD, Option.getD_some, gW_near, hc, near_get hlast, hL, hde, hnd, e2, inb_lt hj, if_true, Contains_eq hk (show q.length ≤ 1048576 by omega), Option.bind_some, wsucc (show j < 9223372036854775807 by omega), wsucc (show onC q (l2.take j) < 9223372036854775807 by omega), onC_succ q l2 hj]
        by_cases h : l2.getD j 0 ∈ q
        · simp only [h, decide_true, Bool.not_true, Bool.false_eq_true, if_false, if_true, Nat.add_zero]
        · simp only [h, decide_false, Bool.not_false, if_true, if_false]
      · unfold go_impl_graph_onward_L2_G
        have e2 : decide ((l2.length : Int) < (l2.length : Int)) = false := by simp
        simp only [zs_length, lastZ h1 (show q.length ≤ 1000 by omega), Int.toNat_natCast, zs_getD, Option.getD_some, gW_near, hc, near_get hlast, hL, hde, hnd, e2, Bool.false_eq_true, if_false, List.take_length, wsucc (show i < 9223372036854775807 by omega)]
        split <;> rfl
  · unfold go_impl_graph_onward_L1_G
    have e1 : decide ((l.length : Int) < (l.length : Int)) = false := by simp
    simp only [zs_length, lastZ h1 (show q.length ≤ 1000 by omega), Int.toNat_natCast, zs_getD, Option.getD_some, gW_near, hc, near_get hlast, hL, e1, Bool.false_eq_true, if_false, List.length_singleton, lim_le (show q.length + 1 ≤ 1099511627776 by omega), if_true, decide_eq_true_eq]

theorem specStep (hk : K0 ≤ k) (hg : Gd W H hs) (start : Int) {q : List Nat} (hq : WalkN W H hs a b q) (rec22 : List Int → Option (List Int × (Bool × Unit))) :
    go_spec_FewestOnward_L0_G k (bd W H hs) (ld a b) start (fun c0 c1 y => go_spec_FewestOnward_L1 k (bd W H hs) (ld a b) start rec22 c0 c1 y) rec22 (zs q) =
      if (bestO W H hs a b q (leaps W H hs a b (q.getD (q.length - 1) 0))).1 < 0 then some (zs q, (true, ())) else rec22 (zs q ++ [(bestO W H hs a b q (leaps W H hs a b (q.getD (q.length - 1) 0))).1]) := by
  have h1 := hq.len1
  have h64 := hq.len64
  have hbd := hq.toPathN.bdJ hg (q.length - 1)
  unfold go_spec_FewestOnward_L0_G
  simp only [zs_length, lastZ h1 (show q.length ≤ 1000 by omega), inb_lt (show q.length - 1 < q.length by omega), if_true, Int.toNat_natCast, zs_getD, boLeaps_eq hk hg hbd, Option.bind_some]
  generalize hc : q.getD (q.length - 1) 0 = c at hbd
  have hll := leaps_len (a := a) (b := b) hg c
  have hmemh : ∀ d ∈ leaps W H hs a b c, d < W * H := fun d hd => hasW_lt (mem_leaps.1 hd).1
  have hn64 := hg.n64
  generalize hL : leaps W H hs a b c = l at hll hmemh
  unfold go_spec_FewestOnward_L1 bestO
  refine iter_list (F := fun rec36 x35 => go_spec_FewestOnward_L1_G k (bd W H hs) (ld a b) start (zs q) (zs l) rec22 rec36 x35) (fun i s => (s.1, s.2, (i : Int))) (fun st i => pickO W H hs a b q st (l.getD i 0)) l.length (out := fun s => if s.1 < 0 then some (zs q, (true, ())) else rec22 (zs q ++ [s.1])) (-1, 0) rfl (by unfold K0 at hk; omega) (fun _ _ => True) trivial (fun i s hi _ => ⟨fun rec36 => ?_, trivial⟩) (fun s _ rec36 => ?_)
  · have hmem : l.getD i 0 ∈ l := by
      rw [List.getD_eq_getElem?_getD, List.getElem?_eq_getElem hi]
      exact List.getElem_mem _
    have hdl := hmemh _ hmem
    have e1 : decide ((i : Int) < (l.length : Int)) = true := by simpa using hi
    unfold go_spec_FewestOnward_L1_G
    simp only [zs_length, e1, if_true, inb_lt hi, Int.toNat_natCast, zs_getD, l1Has_eq hk (show q.length ≤ 1048576 by omega), toOnward_eq hk hg h64 (show l.getD i 0 ≤ 1000 by omega), Option.bind_some, wsucc (show i < 9223372036854775807 by omega)]
    unfold pickO
    by_cases h : l.getD i 0 ∈ q
    · simp only [h, decide_true, if_true]
    · simp only [h, decide_false, Bool.false_eq_true, if_false]
      split <;> rfl
  · unfold go_spec_FewestOnward_L1_G
    have e1 : decide ((l.length : Int) < (l.length : Int)) = false := by simp
    simp only [zs_length, e1, Bool.false_eq_true, if_false, List.length_singleton, lim_le (show q.length + 1 ≤ 1099511627776 by omega), if_true, decide_eq_true_eq]

/-- A walk that cannot go on, out of another. -/
theorem onward_all (hk : K0 ≤ k) (hg : Gd W H hs) (start : Int) : ∀ (n : Nat) (q : List Nat), WalkN W H hs a b q → 64 - q.length ≤ n → ∃ r, WalkN W H hs a b r ∧ r.getD 0 0 = q.getD 0 0 ∧ (∀ d ∈ leaps W H hs a b (r.getD (r.length - 1) 0), d ∈ r) ∧
    (∀ m, n < m → iter m (fun rec43 x42 => go_impl_graph_onward_L0_G k (some (graph W H hs a b)) start (fun c0 y => go_impl_graph_onward_L1 k (some (graph W H hs a b)) start rec43 c0 y) rec43 x42) (zs q) = some (zs r)) ∧
    (∀ m, n < m → iter m (fun rec22 x21 => go_spec_FewestOnward_L0_G k (bd W H hs) (ld a b) start (fun c0 c1 y => go_spec_FewestOnward_L1 k (bd W H hs) (ld a b) start rec22 c0 c1 y) rec22 x21) (zs q) = some (zs r, (true, ()))) := by
  intro n
  induction n with
  | zero =>
    intro q hq hn
    have hi := fun rec => implStep (k := k) hk hg start hq rec
    have hsp := fun rec => specStep (k := k) hk hg start hq rec
    rcases best_cases W H hs a b q (leaps W H hs a b (q.getD (q.length - 1) 0)) with ⟨h1, h2⟩ | ⟨d, h1, h2, h3⟩
    · rw [h1] at hi hsp
      refine ⟨q, hq, rfl, h2, fun m hm => ?_, fun m hm => ?_⟩
      · obtain ⟨m, rfl⟩ : ∃ n, m = n + 1 := ⟨m - 1, by omega⟩
        refine Eq.trans (hi _) ?_
        rw [if_pos (by omega)]
      · obtain ⟨m, rfl⟩ : ∃ n, m = n + 1 := ⟨m - 1, by omega⟩
        refine Eq.trans (hsp _) ?_
        rw [if_pos (by omega)]
    · have := (hq.snoc hg h2 h3).len64
      rw [List.length_append, List.length_singleton] at this
      omega
  | succ n ih =>
    intro q hq hn
    have hi := fun rec => implStep (k := k) hk hg start hq rec
    have hsp := fun rec => specStep (k := k) hk hg start hq rec
    rcases best_cases W H hs a b q (leaps W H hs a b (q.getD (q.length - 1) 0)) with ⟨h1, h2⟩ | ⟨d, h1, h2, h3⟩
    · rw [h1] at hi hsp
      refine ⟨q, hq, rfl, h2, fun m hm => ?_, fun m hm => ?_⟩
      · obtain ⟨m, rfl⟩ : ∃ n, m = n + 1 := ⟨m - 1, by omega⟩
        refine Eq.trans (hi _) ?_
        rw [if_pos (by omega)]
      · obtain ⟨m, rfl⟩ : ∃ n, m = n + 1 := ⟨m - 1, by omega⟩
        refine Eq.trans (hsp _) ?_
        rw [if_pos (by omega)]
    · have hw := hq.snoc hg h2 h3
      have hq1 := hq.len1
      obtain ⟨r, r1, r2, r3, r4, r5⟩ := ih (q ++ [d]) hw (by rw [List.length_append, List.length_singleton]; omega)
      rw [h1] at hi hsp
      refine ⟨r, r1, by rw [r2, getD_app, if_pos (by omega)], r3, fun m hm => ?_, fun m hm => ?_⟩
      · obtain ⟨m, rfl⟩ : ∃ n, m = n + 1 := ⟨m - 1, by omega⟩
        refine Eq.trans (hi _) ?_
        rw [if_neg (by omega), zs_single, ← zs_append]
        exact r4 m (by omega)
      · obtain ⟨m, rfl⟩ : ∃ n, m = n + 1 := ⟨m - 1, by omega⟩
        refine Eq.trans (hsp _) ?_
        rw [if_neg (by omega), zs_single, ← zs_append]
        exact r5 m (by omega)

end
end Go.Lg
