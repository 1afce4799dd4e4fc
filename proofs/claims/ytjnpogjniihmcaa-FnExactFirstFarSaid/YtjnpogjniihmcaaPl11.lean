/-
  Plain law: cells at one or two leaps, as both find them.
-/
import Derived.Test.YtjnpogjniihmcaaPl9
import Derived.Test.YtjnpogjniihmcaaGenB
import Derived.Test.YtjnpogjniihmcaaPaint
set_option linter.unusedVariables false
set_option linter.unusedSimpArgs false
namespace Go.Lg
open Go.RowKit Go.IntWalk

variable {k : Nat}

section
variable {W H a b : Nat} {hs : List Nat}

/-- Another cell at one or two leaps. -/
def twoNear (W H : Nat) (hs : List Nat) (a b c y : Nat) : Bool := decide (y ≠ c) && (decide (y ∈ leaps W H hs a b c) || (leaps W H hs a b c).any fun u => decide (y ∈ leaps W H hs a b u))

theorem twoNear_iff {c y : Nat} : twoNear W H hs a b c y = true ↔ y ≠ c ∧ (y ∈ leaps W H hs a b c ∨ ∃ u ∈ leaps W H hs a b c, y ∈ leaps W H hs a b u) := by
  simp [twoNear]

theorem adj_irrefl {c : Nat} (hab : a ≤ b) (hb1 : 1 ≤ b) : adj W a b c c = false := by
  rw [← Bool.not_eq_true, adj_iff]
  unfold dist1
  omega

theorem far_near {c : Nat} (hc : hasN W H hs c = true) (hab : a ≤ b) (hb1 : 1 ≤ b) (y : Nat) (hy : y < W * H) :
    ((bfs (leaps W H hs a b) (W * H) c).getD y 0 = 1 ∨ (bfs (leaps W H hs a b) (W * H) c).getD y 0 = 2) ↔ twoNear W H hs a b c y = true := by
  have hcN := hasN_lt hc
  have hF := bfs_far (nb := leaps W H hs a b) leaps_lt hcN
  generalize bfs (leaps W H hs a b) (W * H) c = F at hF
  rw [twoNear_iff]
  have near1 : ∀ z, z ∈ leaps W H hs a b c → F.getD z 0 = 1 := fun z hz => by
    have hzN := leaps_lt c hcN z hz
    have h1 := hF.over c hcN (by rw [hF.start]; omega) z hz
    rw [hF.start] at h1
    rcases Int.lt_or_le (F.getD z 0) 1 with h | h
    · have := hF.zero z hzN (by omega)
      subst this
      have := (mem_leaps.1 hz).2
      rw [adj_irrefl hab hb1] at this; cases this
    · omega
  constructor
  · intro h
    have hne : y ≠ c := by
      rintro rfl
      rw [hF.start] at h; omega
    refine ⟨hne, ?_⟩
    obtain ⟨u, hu, hyu, hv⟩ := hF.pred y hy (by omega)
    rcases h with h | h
    · have := hF.zero u hu (by omega)
      subst this; exact .inl hyu
    · obtain ⟨u2, hu2, huu, hv2⟩ := hF.pred u hu (by omega)
      have := hF.zero u2 hu2 (by omega)
      subst this
      exact .inr ⟨u, huu, hyu⟩
  · rintro ⟨hne, h⟩
    rcases h with h | ⟨u, hu, hyu⟩
    · exact .inl (near1 y h)
    · have hu1 := near1 u hu
      have huN := leaps_lt c hcN u hu
      have h1 := hF.over u huN (by omega) y hyu
      have h0 : F.getD y 0 ≠ 0 := fun e => hne (hF.zero y hy e)
      omega

theorem filter_singleton_length {l : List Nat} : ([l].length) = 1 := rfl

/-- A rising list of numbers below n, or any without doubles, is short. -/
theorem short_of_nodup {l : List Nat} {n : Nat} (hn : l.Nodup) (hb : ∀ x ∈ l, x < n) : l.length ≤ n := length_le_of_nodup hn hb

def addNew (c : Nat) (out : List Nat) (x : Nat) : List Nat := if x ≠ c ∧ x ∉ out then out ++ [x] else out

def addNew1 (out : List Nat) (x : Nat) : List Nat := if x ∉ out then out ++ [x] else out

theorem addNew_ok {c n : Nat} : ∀ (l out : List Nat), out.Nodup → (∀ x ∈ out, x < n) → (∀ x ∈ l, x < n) → (l.foldl (addNew c) out).Nodup ∧ (∀ x ∈ l.foldl (addNew c) out, x < n) ∧ ∀ y, y ∈ l.foldl (addNew c) out ↔ y ∈ out ∨ (y ∈ l ∧ y ≠ c)
  | [], out, h1, h2, _ => ⟨h1, h2, fun y => by simp⟩
  | x :: l, out, h1, h2, h3 => by
    rw [List.foldl_cons]
    unfold addNew
    by_cases h : x ≠ c ∧ x ∉ out
    · rw [if_pos h]
      obtain ⟨r1, r2, r3⟩ := addNew_ok l (out ++ [x]) (List.nodup_append.2 ⟨h1, by simp, fun p hp q hq => by simp at hq; subst hq; intro e; subst e; exact h.2 hp⟩)
        (fun y hy => by rcases List.mem_append.1 hy with h' | h'; exact h2 y h'; simp at h'; subst h'; exact h3 y (by simp)) fun y hy => h3 y (List.mem_cons_of_mem _ hy)
      refine ⟨r1, r2, fun y => ?_⟩
      show y ∈ l.foldl (addNew c) (out ++ [x]) ↔ _
      rw [r3 y]
      simp only [List.mem_append, List.mem_cons, List.not_mem_nil, or_false]
      constructor
      · rintro ((hy | rfl) | ⟨hy, hne⟩)
        · exact .inl hy
        · exact .inr ⟨.inl rfl, h.1⟩
        · exact .inr ⟨.inr hy, hne⟩
      · rintro (hy | ⟨rfl | hy, hne⟩)
        · exact .inl (.inl hy)
        · exact .inl (.inr rfl)
        · exact .inr ⟨hy, hne⟩
    · rw [if_neg h]
      obtain ⟨r1, r2, r3⟩ := addNew_ok l out h1 h2 fun y hy => h3 y (List.mem_cons_of_mem _ hy)
      refine ⟨r1, r2, fun y => ?_⟩
      show y ∈ l.foldl (addNew c) out ↔ _
      rw [r3 y]
      simp only [List.mem_cons]
      constructor
      · rintro (hy | ⟨hy, hne⟩)
        · exact .inl hy
        · exact .inr ⟨.inr hy, hne⟩
      · rintro (hy | ⟨rfl | hy, hne⟩)
        · exact .inl hy
        · refine .inl ?_
          rcases Classical.em (y ∈ out) with h' | h'
          · exact h'
          · exact absurd ⟨hne, h'⟩ h
        · exact .inr ⟨hy, hne⟩

/-- One neighbour: itself, then its neighbours. -/
def nearStep (nb : Nat → List Nat) (c : Nat) (out : List Nat) (u : Nat) : List Nat := (nb u).foldl (addNew c) (addNew1 out u)

def nearList (nb : Nat → List Nat) (c : Nat) (l : List Nat) : List Nat := l.foldl (nearStep nb c) []

theorem nearStep_ok {nb : Nat → List Nat} {c n u : Nat} {out : List Nat} (hu : u < n) (hnb : ∀ x ∈ nb u, x < n) (h1 : out.Nodup) (h2 : ∀ x ∈ out, x < n) :
    (addNew1 out u).Nodup ∧ (∀ x ∈ addNew1 out u, x < n) ∧ (nearStep nb c out u).Nodup ∧ (∀ x ∈ nearStep nb c out u, x < n) ∧ ∀ y, y ∈ nearStep nb c out u ↔ y ∈ out ∨ y = u ∨ (y ∈ nb u ∧ y ≠ c) := by
  have ha : (addNew1 out u).Nodup ∧ (∀ x ∈ addNew1 out u, x < n) ∧ ∀ y, y ∈ addNew1 out u ↔ y ∈ out ∨ y = u := by
    unfold addNew1
    by_cases h : u ∉ out
    · rw [if_pos h]
      refine ⟨List.nodup_append.2 ⟨h1, by simp, fun p hp q hq => by simp at hq; subst hq; intro e; subst e; exact h hp⟩, fun y hy => ?_, fun y => by simp⟩
      rcases List.mem_append.1 hy with h' | h'
      · exact h2 y h'
      · simp at h'; subst h'; exact hu
    · rw [if_neg h]
      refine ⟨h1, h2, fun y => ?_⟩
      constructor
      · exact .inl
      · rintro (hy | rfl)
        · exact hy
        · exact Classical.byContradiction fun e => h e
  obtain ⟨r1, r2, r3⟩ := addNew_ok (c := c) (nb u) (addNew1 out u) ha.1 ha.2.1 hnb
  refine ⟨ha.1, ha.2.1, r1, r2, fun y => ?_⟩
  show y ∈ (nb u).foldl (addNew c) (addNew1 out u) ↔ _
  rw [r3 y, ha.2.2 y, or_assoc]

theorem nearList_ok {nb : Nat → List Nat} {c n : Nat} (hnb : ∀ u, u < n → ∀ x ∈ nb u, x < n) : ∀ (l : List Nat) (out : List Nat), (∀ u ∈ l, u < n) → out.Nodup → (∀ x ∈ out, x < n) →
    (l.foldl (nearStep nb c) out).Nodup ∧ (∀ x ∈ l.foldl (nearStep nb c) out, x < n) ∧ ∀ y, y ∈ l.foldl (nearStep nb c) out ↔ y ∈ out ∨ ∃ u ∈ l, y = u ∨ (y ∈ nb u ∧ y ≠ c)
  | [], out, _, h1, h2 => ⟨h1, h2, fun y => by simp⟩
  | u :: l, out, hl, h1, h2 => by
    have hu := hl u (by simp)
    obtain ⟨_, _, s1, s2, s3⟩ := nearStep_ok (nb := nb) (c := c) hu (hnb u hu) h1 h2
    rw [List.foldl_cons]
    obtain ⟨r1, r2, r3⟩ := nearList_ok hnb l (nearStep nb c out u) (fun x hx => hl x (List.mem_cons_of_mem _ hx)) s1 s2
    refine ⟨r1, r2, fun y => ?_⟩
    rw [r3 y, s3 y, or_assoc]
    simp only [List.mem_cons, exists_eq_or_imp]

theorem paNear_eq (hk : K0 ≤ k) (hg : Gd W H hs) {c : Nat} (hc : c < W * H) : go_spec_paNear k (bd W H hs) (ld a b) (c : Int) = some (zs (nearList (leaps W H hs a b) c (leaps W H hs a b c))) := by
  have h64 := hg.n64
  have hl1 := leaps_length (W := W) (H := H) (a := a) (b := b) (c := c) (hs := hs)
  have hlt := leaps_lt (W := W) (H := H) (a := a) (b := b) (hs := hs)
  unfold go_spec_paNear go_spec_paNear_T
  rw [boLeaps_eq hk hg (by omega)]
  simp only [Option.bind_some]
  unfold go_spec_paNear_L0
  refine iter_path (F := fun rec42 x41 => go_spec_paNear_L0_G k (bd W H hs) (ld a b) (c : Int) (zs (leaps W H hs a b c)) (fun c0 c1 y => go_spec_paNear_L1 k (bd W H hs) (ld a b) (c : Int) rec42 (zs (leaps W H hs a b c)) c0 c1 y) (fun c0 c1 y => go_spec_paNear_L2 k (bd W H hs) (ld a b) (c : Int) rec42 (zs (leaps W H hs a b c)) c0 c1 y) rec42 x41)
    (fun i => ((i : Int), zs (((leaps W H hs a b c).take i).foldl (nearStep (leaps W H hs a b) c) []))) (leaps W H hs a b c).length rfl (by unfold K0 at hk; omega) (fun i hi rec => ?_) (fun rec => ?_)
  · have hget := List.getElem?_eq_getElem hi
    generalize huu : (leaps W H hs a b c)[i] = u at hget
    have hum := List.mem_of_getElem? hget
    have huN := hlt c hc u hum
    have htake : (leaps W H hs a b c).take (i + 1) = (leaps W H hs a b c).take i ++ [u] := by rw [List.take_succ_eq_append_getElem hi, huu]
    rw [htake, List.foldl_append, List.foldl_cons, List.foldl_nil]
    obtain ⟨o1, o2, _⟩ := nearList_ok (nb := leaps W H hs a b) (c := c) hlt ((leaps W H hs a b c).take i) [] (fun x hx => hlt c hc x (List.mem_of_mem_take hx)) List.nodup_nil (fun x hx => by cases hx)
    generalize ((leaps W H hs a b c).take i).foldl (nearStep (leaps W H hs a b) c) [] = out at o1 o2
    have hol := short_of_nodup o1 o2
    obtain ⟨a1, a2, _⟩ := nearStep_ok (nb := leaps W H hs a b) (c := c) huN (hlt u huN) o1 o2
    have hul := leaps_length (W := W) (H := H) (a := a) (b := b) (c := u) (hs := hs)
    unfold go_spec_paNear_L0_G
    simp only [zs_length, Int.toNat_natCast, zs_get hget, l1Has_eq hk (show out.length ≤ 1048576 by omega), boLeaps_eq hk hg (show u ≤ 1000 by omega), Option.bind_some]
    rw [if_pos (by simpa using hi), inb_lt hi, if_pos rfl]
    by_cases hu : u ∈ out
    · have e1 : addNew1 out u = out := by unfold addNew1; rw [if_neg fun h => h hu]
      simp only [hu, decide_true, Bool.not_true, Bool.false_eq_true, if_false]
      unfold go_spec_paNear_L2
      refine iter_path (F := fun rec62 x61 => go_spec_paNear_L2_G k (bd W H hs) (ld a b) (c : Int) (zs (leaps W H hs a b c)) ((i : Int), zs out) (zs (leaps W H hs a b u)) rec rec62 x61)
        (fun j => ((j : Int), zs (((leaps W H hs a b u).take j).foldl (addNew c) out))) (leaps W H hs a b u).length rfl (by unfold K0 at hk; omega) (fun j hj rec2 => ?_) (fun rec2 => ?_)
      · have hgd := List.getElem?_eq_getElem hj
        generalize hdd : (leaps W H hs a b u)[j] = d at hgd
        have htk : (leaps W H hs a b u).take (j + 1) = (leaps W H hs a b u).take j ++ [d] := by rw [List.take_succ_eq_append_getElem hj, hdd]
        rw [htk, List.foldl_append, List.foldl_cons, List.foldl_nil]
        obtain ⟨q1, q2, _⟩ := addNew_ok (c := c) ((leaps W H hs a b u).take j) out o1 o2 fun x hx => hlt u huN x (List.mem_of_mem_take hx)
        generalize ((leaps W H hs a b u).take j).foldl (addNew c) out = o at q1 q2
        have hql := short_of_nodup q1 q2
        unfold go_spec_paNear_L2_G
        simp only [zs_length, Int.toNat_natCast, zs_get hgd, l1Has_eq hk (show o.length ≤ 1048576 by omega), wsucc (show j < 9223372036854775807 by omega)]
        rw [if_pos (by simpa using hj), inb_lt hj, if_pos rfl]
        unfold addNew
        by_cases hdc : d = c
        · subst hdc; simp
        · have : ¬ (d : Int) = (c : Int) := by omega
          by_cases hdo : d ∈ o
          · simp [this, hdo]
          · simp only [this, hdo, hdc, decide_false, Bool.not_false, if_true, Option.bind_some, Bool.and_self, not_false_iff, and_self, ne_eq]
            rw [if_pos (lim_le (by simp only [List.length_singleton]; omega)), zs_single, ← zs_append]
      · unfold go_spec_paNear_L2_G
        rw [if_neg (by simp), List.take_length, wsucc (by omega)]
        unfold nearStep
        rw [e1]
    · have e1 : addNew1 out u = out ++ [u] := by unfold addNew1; rw [if_pos hu]
      rw [e1] at a1 a2
      simp only [hu, decide_false, Bool.not_false, if_true]
      rw [if_pos (lim_le (by simp only [List.length_singleton]; omega)), zs_single, ← zs_append]
      unfold go_spec_paNear_L1
      refine iter_path (F := fun rec52 x51 => go_spec_paNear_L1_G k (bd W H hs) (ld a b) (c : Int) (zs (leaps W H hs a b c)) ((i : Int), zs out) (zs (leaps W H hs a b u)) rec rec52 x51)
        (fun j => ((j : Int), zs (((leaps W H hs a b u).take j).foldl (addNew c) (out ++ [u])))) (leaps W H hs a b u).length rfl (by unfold K0 at hk; omega) (fun j hj rec2 => ?_) (fun rec2 => ?_)
      · have hgd := List.getElem?_eq_getElem hj
        generalize hdd : (leaps W H hs a b u)[j] = d at hgd
        have htk : (leaps W H hs a b u).take (j + 1) = (leaps W H hs a b u).take j ++ [d] := by rw [List.take_succ_eq_append_getElem hj, hdd]
        rw [htk, List.foldl_append, List.foldl_cons, List.foldl_nil]
        obtain ⟨q1, q2, _⟩ := addNew_ok (c := c) ((leaps W H hs a b u).take j) (out ++ [u]) a1 a2 fun x hx => hlt u huN x (List.mem_of_mem_take hx)
        generalize ((leaps W H hs a b u).take j).foldl (addNew c) (out ++ [u]) = o at q1 q2
        have hql := short_of_nodup q1 q2
        unfold go_spec_paNear_L1_G
        simp only [zs_length, Int.toNat_natCast, zs_get hgd, l1Has_eq hk (show o.length ≤ 1048576 by omega), wsucc (show j < 9223372036854775807 by omega)]
        rw [if_pos (by simpa using hj), inb_lt hj, if_pos rfl]
        unfold addNew
        by_cases hdc : d = c
        · subst hdc; simp
        · have : ¬ (d : Int) = (c : Int) := by omega
          by_cases hdo : d ∈ o
          · simp [this, hdo]
          · simp only [this, hdo, hdc, decide_false, Bool.not_false, if_true, Option.bind_some, Bool.and_self, not_false_iff, and_self, ne_eq]
            rw [if_pos (lim_le (by simp only [List.length_singleton]; omega)), zs_single, ← zs_append]
      · unfold go_spec_paNear_L1_G
        rw [if_neg (by simp), List.take_length, wsucc (by omega)]
        unfold nearStep
        rw [e1]
  · unfold go_spec_paNear_L0_G
    rw [if_neg (by simp), List.take_length]
    rfl

theorem mem_nearList {c y : Nat} (hc : c < W * H) (hab : a ≤ b) (hb1 : 1 ≤ b) : y ∈ nearList (leaps W H hs a b) c (leaps W H hs a b c) ↔ twoNear W H hs a b c y = true := by
  obtain ⟨_, _, h⟩ := nearList_ok (nb := leaps W H hs a b) (c := c) leaps_lt (leaps W H hs a b c) [] (fun x hx => leaps_lt c hc x hx) List.nodup_nil (fun x hx => by cases hx)
  show y ∈ (leaps W H hs a b c).foldl (nearStep (leaps W H hs a b) c) [] ↔ _
  rw [h y, twoNear_iff]
  constructor
  · rintro (h | ⟨u, hu, rfl | ⟨h1, h2⟩⟩)
    · cases h
    · refine ⟨?_, .inl hu⟩
      rintro rfl
      have := (mem_leaps.1 hu).2
      rw [adj_irrefl hab hb1] at this; cases this
    · exact ⟨h2, .inr ⟨u, hu, h1⟩⟩
  · rintro ⟨hne, h | ⟨u, hu, h⟩⟩
    · exact .inr ⟨y, h, .inl rfl⟩
    · exact .inr ⟨u, hu, .inr ⟨h, hne⟩⟩

theorem nearList_lt {c y : Nat} (hc : c < W * H) (hy : y ∈ nearList (leaps W H hs a b) c (leaps W H hs a b c)) : y < W * H :=
  (nearList_ok (nb := leaps W H hs a b) (c := c) leaps_lt (leaps W H hs a b c) [] (fun x hx => leaps_lt c hc x hx) List.nodup_nil (fun x hx => by cases hx)).2.1 y hy

theorem nearList_length {c : Nat} (hc : c < W * H) : (nearList (leaps W H hs a b) c (leaps W H hs a b c)).length ≤ W * H := by
  have h := nearList_ok (nb := leaps W H hs a b) (c := c) leaps_lt (leaps W H hs a b c) [] (fun x hx => leaps_lt c hc x hx) List.nodup_nil (fun x hx => by cases hx)
  exact short_of_nodup h.1 h.2.1

/-! ### the program's list -/

def unl (W H : Nat) (hs : List Nat) (a b c : Nat) : List Nat := (List.range (W * H)).filter fun d => decide ((bfs (leaps W H hs a b) (W * H) c).getD d 0 = 1) || decide ((bfs (leaps W H hs a b) (W * H) c).getD d 0 = 2)

def unlike (W H : Nat) (hs : List Nat) (a b : Nat) : List (List Int) := nearP (W * H) (fun c => zs (unl W H hs a b c)) (hasN W H hs)

theorem mem_unl {c y : Nat} (hc : hasN W H hs c = true) (hab : a ≤ b) (hb1 : 1 ≤ b) : y ∈ unl W H hs a b c ↔ y < W * H ∧ twoNear W H hs a b c y = true := by
  unfold unl
  rw [List.mem_filter, List.mem_range, Bool.or_eq_true, decide_eq_true_eq, decide_eq_true_eq]
  constructor
  · rintro ⟨h1, h2⟩; exact ⟨h1, (far_near hc hab hb1 y h1).1 h2⟩
  · rintro ⟨h1, h2⟩; exact ⟨h1, (far_near hc hab hb1 y h1).2 h2⟩

theorem unlike_get {c : Nat} (h : hasN W H hs c = true) : (unlike W H hs a b).getD c [] = zs (unl W H hs a b c) := by
  have hc : c < W * H := hasN_lt h
  simp [unlike, nearP, List.getD_eq_getElem?_getD, List.getElem?_range hc, h]

theorem cells_not_take {i c : Nat} (hi : i < (cells W H hs).length) (hcc : (cells W H hs)[i] = c) : c ∉ (cells W H hs).take i := by
  intro hmem
  obtain ⟨j, hj⟩ := List.getElem?_of_mem hmem
  have hji : j < i := by
    have := length_lt hj
    rw [List.length_take] at this
    omega
  rw [List.getElem?_take_of_lt hji] at hj
  have h1 := List.pairwise_iff_getElem.1 (cells_sorted (W := W) (H := H) (hs := hs)) j i (length_lt hj) hi hji
  rw [List.getElem?_eq_getElem (length_lt hj)] at hj
  have := Option.some.inj hj
  omega

theorem unlike_eq (hk : K0 ≤ k) (hg : Gd W H hs) : go_impl_graph_unlike k (some (graph W H hs a b)) = some (unlike W H hs a b) := by
  have h64 := hg.n64
  have hcl := cells_length (W := W) (H := H) (hs := hs)
  have hc3 : (graph W H hs a b).2.2.1 = zs (cells W H hs) := rfl
  have hnr : (graph W H hs a b).2.2.2.1 = near W H hs a b := rfl
  unfold go_impl_graph_unlike go_impl_graph_unlike_T
  simp only [Option.getD_some, Option.isSome_some, if_true, hnr, near_length]
  rw [if_pos (by simp only [decide_eq_true_eq]; constructor; omega; simp [LIM]; omega)]
  unfold go_impl_graph_unlike_L0
  refine iter_path (F := fun rec20 x19 => go_impl_graph_unlike_L0_G k (some (graph W H hs a b)) (fun c0 c1 y => go_impl_graph_unlike_L1 k (some (graph W H hs a b)) rec20 c0 c1 y) rec20 x19)
    (fun i => ((i : Int), nearP (W * H) (fun c => zs (unl W H hs a b c)) fun c => decide (c ∈ (cells W H hs).take i))) (cells W H hs).length ?_ (by unfold K0 at hk; omega) (fun i hi rec => ?_) (fun rec => ?_)
  · simp only [List.take_zero, Prod.mk.injEq]
    refine ⟨rfl, ?_⟩
    rw [Int.toNat_natCast]
    simp [nearP, List.map_const']
  · have hget := List.getElem?_eq_getElem hi
    generalize hcc : (cells W H hs)[i] = c at hget
    have hcm : hasN W H hs c = true := mem_cells.1 (List.mem_of_getElem? hget)
    have hcN : c < W * H := hasN_lt hcm
    have hcnot := cells_not_take hi hcc
    have htake : (cells W H hs).take (i + 1) = (cells W H hs).take i ++ [c] := by rw [List.take_succ_eq_append_getElem hi, hcc]
    have hF := bfs_far (nb := leaps W H hs a b) leaps_lt hcN
    unfold go_impl_graph_unlike_L0_G
    simp only [Option.getD_some, hc3, zs_length, Int.toNat_natCast, zs_get hget, far_eq hk hg hcm, Option.bind_some]
    rw [if_pos (by simpa using hi), inb_lt hi, if_pos rfl]
    unfold go_impl_graph_unlike_L1
    generalize hN : (nearP (W * H) (fun c => zs (unl W H hs a b c)) fun c => decide (c ∈ (cells W H hs).take i)) = N
    have hNlen : N.length = W * H := by rw [← hN, nearP_length]
    have hNc : N[c]? = some [] := by
      rw [← hN]
      simp [nearP, List.getElem?_range hcN, hcnot]
    have hNset : N.set c [] = N := by
      refine List.ext_getElem? fun i => ?_
      rw [List.getElem?_set]
      by_cases hci : c = i
      · subst hci
        rw [if_pos rfl, if_pos (by omega), hNc]
      · rw [if_neg hci]
    refine iter_path (F := fun rec27 x26 => go_impl_graph_unlike_L1_G k (some (graph W H hs a b)) ((i : Int), N) (bfs (leaps W H hs a b) (W * H) c) rec rec27 x26)
      (fun j => ((j : Int), N.set c (zs ((List.range j).filter fun d => decide ((bfs (leaps W H hs a b) (W * H) c).getD d 0 = 1) || decide ((bfs (leaps W H hs a b) (W * H) c).getD d 0 = 2))))) (W * H) (by simp [hNset]) (by unfold K0 at hk; omega) (fun j hj rec2 => ?_) (fun rec2 => ?_)
    · unfold go_impl_graph_unlike_L1_G
      have hset : ∀ v : List Int, (N.set c v).getD c [] = v := fun v => by
        rw [List.getD_eq_getElem?_getD, List.getElem?_set_self (by omega)]; rfl
      have hfl := filter_range_length (n := j) fun d => decide ((bfs (leaps W H hs a b) (W * H) c).getD d 0 = 1) || decide ((bfs (leaps W H hs a b) (W * H) c).getD d 0 = 2)
      simp only [Option.getD_some, hc3, zs_get hget, hF.len, Int.toNat_natCast, inb_lt hj, List.length_set, hNlen, inb_lt hcN, hset, wsucc (show j < 9223372036854775807 by omega), zs_length, List.range_succ, List.filter_append]
      rw [if_pos (by simp only [decide_eq_true_eq]; omega), if_pos trivial]
      by_cases h : (decide ((bfs (leaps W H hs a b) (W * H) c).getD j 0 = 1) || decide ((bfs (leaps W H hs a b) (W * H) c).getD j 0 = 2)) = true
      · have e : ([j].filter fun d => decide ((bfs (leaps W H hs a b) (W * H) c).getD d 0 = 1) || decide ((bfs (leaps W H hs a b) (W * H) c).getD d 0 = 2)) = [j] := by
          rw [List.filter_cons, if_pos h, List.filter_nil]
        rw [if_pos h, if_pos trivial, if_pos (lim_le (by simp only [List.length_singleton]; omega)), if_pos trivial, if_pos (by simp), e, List.set_set, zs_append]
        rfl
      · have e : ([j].filter fun d => decide ((bfs (leaps W H hs a b) (W * H) c).getD d 0 = 1) || decide ((bfs (leaps W H hs a b) (W * H) c).getD d 0 = 2)) = [] := by
          rw [List.filter_cons, if_neg h, List.filter_nil]
        rw [if_neg h, e, List.append_nil]
    · unfold go_impl_graph_unlike_L1_G
      rw [if_neg (by simp [hF.len]), wsucc (by omega), ← hN]
      congr 2
      unfold nearP
      rw [map_range_set, htake]
      refine List.map_congr_left fun x hx => ?_
      by_cases hxc : x = c
      · subst hxc; simp [unl]
      · simp [hxc]
  · unfold go_impl_graph_unlike_L0_G
    simp only [Option.getD_some, hc3, zs_length]
    rw [if_neg (by simp), List.take_length]
    congr 1
    unfold unlike nearP
    refine List.map_congr_left fun x hx => ?_
    have : decide (x ∈ cells W H hs) = hasN W H hs x := by
      rw [Bool.eq_iff_iff, decide_eq_true_eq, mem_cells]
    simp only [this]

end
end Go.Lg
