/-
  Plain law: the program's searches over sets are the reference's.
-/
import Derived.Test.YtjnpogjniihmcaaGu3
set_option linter.unusedVariables false
set_option linter.unusedSimpArgs false
namespace Go.Lg
open Go.RowKit Go.IntWalk

variable {k : Nat}

theorem gu_cases (hk : K0 ≤ k) (B : BT) (L : LT) :
    (go_spec_guFew k B L = some false ∧ go_impl_tourGraph k B L 16 = some (none, (false, ()))) ∨
    (go_spec_guFew k B L = some true ∧ ∃ (W H a b : Nat) (hs : List Nat), B = bd W H hs ∧ L = ld a b ∧ Gd W H hs ∧ isGood (bd W H hs) = true ∧ isGoodL (ld a b) = true ∧ a ≤ b ∧ 1 ≤ b ∧ b ≤ 5 ∧ (cells W H hs).length ≤ 16) := by
  unfold go_spec_guFew
  rw [boTwo_eq hk]
  simp only [Option.bind_some]
  cases hB : isGood B && isGoodL L with
  | false =>
    refine .inl ⟨by simp, tourGraph_none hk hB _⟩
  | true =>
    simp only [Bool.and_eq_true] at hB
    obtain ⟨hB, hL⟩ := hB
    obtain ⟨W, H, hs, rfl, hg⟩ := Good.nat (by simpa [isGood] using hB)
    obtain ⟨a, b, rfl, hab, hb1, hb5⟩ := GoodL.nat (by simpa [isGoodL] using hL)
    rw [if_pos rfl, boCells_eq hk hg]
    simp only [Option.bind_some, zs_length, Bool.true_and]
    by_cases hfew : (cells W H hs).length ≤ 16
    · exact .inr ⟨by simp; omega, W, H, a, b, hs, rfl, rfl, hg, hB, hL, hab, hb1, hb5, hfew⟩
    · refine .inl ⟨by simp; omega, ?_⟩
      rw [tourGraph_eq hk hg hB hL hab hb5, if_neg (by omega)]

section
variable {W H a b : Nat} {hs : List Nat}

theorem okG_mono {N : Nat → Nat} {n m : Nat} (guards peace : Bool) (h : okG N n true true m = true) : okG N n guards peace m = true := by
  unfold okG at h ⊢
  cases guards <;> cases peace <;> simp_all

theorem ok_some (hab : a ≤ b) (hb1 : 1 ≤ b) (guards peace : Bool) : ∃ m, m < 2 ^ (cells W H hs).length ∧ okG (nearM W H hs a b) (cells W H hs).length guards peace m = true := by
  obtain ⟨m, h1, h2⟩ := peaceful_guards (N := nearM W H hs a b) (n := (cells W H hs).length) (fun i _ => nearM_lt i) (fun i _ => nearM_irr hab hb1 i) (fun i j hi hj => nearM_sym hi hj) (cells W H hs).length 0 (Nat.two_pow_pos _) (by omega) (by
    rw [qC_iff]
    intro j _ h
    simp at h)
  exact ⟨m, h1, okG_mono guards peace h2⟩

theorem searched_eq (hk : K0 ≤ k) (hg : Gd W H hs) (hG : isGood (bd W H hs) = true) (hL : isGoodL (ld a b) = true) (hab : a ≤ b) (hb1 : 1 ≤ b) (hb5 : b ≤ 5) (hfew : (cells W H hs).length ≤ 16) (guards peace least : Bool) :
    ∃ (s c : Nat) (f : List Nat) (z : List Int), go_spec_guAll k (bd W H hs) (ld a b) guards peace least = some ((s : Int), ((c : Int), (zs f, (z, ())))) ∧
      go_impl_searched k (bd W H hs) (ld a b) guards peace (!least) = some (((s : Int), ((c : Int), (zs f, ()))), (true, ())) ∧ f.length ≤ 16 := by
  refine ⟨_, _, _, _, guAll_eq hk hg hab hb1 hfew guards peace least, ?_, ?_⟩
  · unfold go_impl_searched
    rw [tourGraph_eq hk hg hG hL hab hb5, if_pos (by omega)]
    simp only [Option.bind_some, Bool.not_true, Bool.false_eq_true, if_false, search_eq hk hg hab hb1 hfew]
    obtain ⟨m, h1, h2⟩ := ok_some (W := W) (H := H) (hs := hs) hab hb1 guards peace
    have := stG_some (cs := cells W H hs) (least := least) h2 _ h1
    unfold isz
    rw [if_neg (by omega)]
  · obtain ⟨i1, i2, i3, i4⟩ := stG_inv (nearM W H hs a b) (cells W H hs) (cells W H hs).length guards peace least (2 ^ (cells W H hs).length)
    by_cases h : 0 < (stG (nearM W H hs a b) (cells W H hs) (cells W H hs).length guards peace least (2 ^ (cells W H hs).length)).2.1
    · rw [i3 h]; omega
    · rw [i4 (by omega)]; simp

theorem searched_none (hk : K0 ≤ k) {B : BT} {L : LT} (h : go_impl_tourGraph k B L 16 = some (none, (false, ()))) (guards peace most : Bool) : go_impl_searched k B L guards peace most = some (((0 : Int), ((0 : Int), ([], ()))), (false, ())) := by
  unfold go_impl_searched
  rw [h]
  rfl

theorem calm_none (hk : K0 ≤ k) {B : BT} {L : LT} (h : go_impl_tourGraph k B L 16 = some (none, (false, ()))) (many : Int) : go_impl_calm k B L many = some ((0 : Int), (false, ())) := by
  unfold go_impl_calm go_impl_calm_T
  rw [h]
  rfl

end

theorem FewestGuards_same (hk : K0 ≤ k) (B : BT) (L : LT) : ∃ r, go_spec_FewestGuards k B L = some r ∧ go_impl_FewestGuards k B L = some r := by
  unfold go_spec_FewestGuards go_impl_FewestGuards
  rcases gu_cases hk B L with ⟨h1, h2⟩ | ⟨h1, W, H, a, b, hs, rfl, rfl, hg, hG, hL, hab, hb1, hb5, hfew⟩
  · rw [h1, searched_none hk h2]; exact ⟨_, rfl, rfl⟩
  · obtain ⟨s, c, f, z, e1, e2, e3⟩ := searched_eq (k := k) hk hg hG hL hab hb1 hb5 hfew true false true
    rw [Bool.not_true] at e2
    rw [h1, e1, e2]; exact ⟨_, rfl, rfl⟩

theorem CountFewest_same (hk : K0 ≤ k) (B : BT) (L : LT) : ∃ r, go_spec_CountFewest k B L = some r ∧ go_impl_CountFewest k B L = some r := by
  unfold go_spec_CountFewest go_impl_CountFewest
  rcases gu_cases hk B L with ⟨h1, h2⟩ | ⟨h1, W, H, a, b, hs, rfl, rfl, hg, hG, hL, hab, hb1, hb5, hfew⟩
  · rw [h1, searched_none hk h2]; exact ⟨_, rfl, rfl⟩
  · obtain ⟨s, c, f, z, e1, e2, e3⟩ := searched_eq (k := k) hk hg hG hL hab hb1 hb5 hfew true false true
    rw [Bool.not_true] at e2
    rw [h1, e1, e2]; exact ⟨_, rfl, rfl⟩

theorem CountMost_same (hk : K0 ≤ k) (B : BT) (L : LT) : ∃ r, go_spec_CountMost k B L = some r ∧ go_impl_CountMost k B L = some r := by
  unfold go_spec_CountMost go_impl_CountMost
  rcases gu_cases hk B L with ⟨h1, h2⟩ | ⟨h1, W, H, a, b, hs, rfl, rfl, hg, hG, hL, hab, hb1, hb5, hfew⟩
  · rw [h1, searched_none hk h2]; exact ⟨_, rfl, rfl⟩
  · obtain ⟨s, c, f, z, e1, e2, e3⟩ := searched_eq (k := k) hk hg hG hL hab hb1 hb5 hfew false true false
    rw [Bool.not_false] at e2
    rw [h1, e1, e2]; exact ⟨_, rfl, rfl⟩

theorem MostPeaceful_same (hk : K0 ≤ k) (B : BT) (L : LT) : ∃ r, go_spec_MostPeaceful k B L = some r ∧ go_impl_MostPeaceful k B L = some r := by
  unfold go_spec_MostPeaceful go_impl_MostPeaceful
  rcases gu_cases hk B L with ⟨h1, h2⟩ | ⟨h1, W, H, a, b, hs, rfl, rfl, hg, hG, hL, hab, hb1, hb5, hfew⟩
  · rw [h1, searched_none hk h2]; exact ⟨_, rfl, rfl⟩
  · obtain ⟨s, c, f, z, e1, e2, e3⟩ := searched_eq (k := k) hk hg hG hL hab hb1 hb5 hfew false true false
    rw [Bool.not_false] at e2
    rw [h1, e1, e2]; exact ⟨_, rfl, rfl⟩

theorem FewestPeacefulGuards_same (hk : K0 ≤ k) (B : BT) (L : LT) : ∃ r, go_spec_FewestPeacefulGuards k B L = some r ∧ go_impl_FewestPeacefulGuards k B L = some r := by
  unfold go_spec_FewestPeacefulGuards go_impl_FewestPeacefulGuards
  rcases gu_cases hk B L with ⟨h1, h2⟩ | ⟨h1, W, H, a, b, hs, rfl, rfl, hg, hG, hL, hab, hb1, hb5, hfew⟩
  · rw [h1, searched_none hk h2]; exact ⟨_, rfl, rfl⟩
  · obtain ⟨s, c, f, z, e1, e2, e3⟩ := searched_eq (k := k) hk hg hG hL hab hb1 hb5 hfew true true true
    rw [Bool.not_true] at e2
    rw [h1, e1, e2]; exact ⟨_, rfl, rfl⟩

theorem FirstGuards_same (hk : K0 ≤ k) (B : BT) (L : LT) : ∃ r, go_spec_FirstGuards k B L = some r ∧ go_impl_FirstGuards k B L = some r ∧ r.1.length ≤ 64 := by
  unfold go_spec_FirstGuards go_impl_FirstGuards
  rcases gu_cases hk B L with ⟨h1, h2⟩ | ⟨h1, W, H, a, b, hs, rfl, rfl, hg, hG, hL, hab, hb1, hb5, hfew⟩
  · rw [h1, searched_none hk h2]; exact ⟨_, rfl, rfl, by simp⟩
  · obtain ⟨s, c, f, z, e1, e2, e3⟩ := searched_eq (k := k) hk hg hG hL hab hb1 hb5 hfew true false true
    rw [Bool.not_true] at e2
    rw [h1, e1, e2]; exact ⟨_, rfl, rfl, by show (zs f).length ≤ 64; rw [zs_length]; omega⟩

theorem take_sum_le (l : List Nat) (i : Nat) : (l.take i).sum ≤ l.sum := by
  have := congrArg List.sum (List.take_append_drop i l)
  rw [List.sum_append] at this
  omega

theorem countP_szG {N : Nat → Nat} {n M : Nat} : (List.range M).countP (okG N n false true) = calmN N n (-1) M := by
  unfold calmN
  congr 1
  funext m
  simp [okG]

theorem CountPeaceful_same (hk : K0 ≤ k) (B : BT) (L : LT) : ∃ r, go_spec_CountPeaceful k B L = some r ∧ go_impl_CountPeaceful k B L = some r := by
  unfold go_spec_CountPeaceful go_spec_CountPeaceful_T go_impl_CountPeaceful
  rcases gu_cases hk B L with ⟨h1, h2⟩ | ⟨h1, W, H, a, b, hs, rfl, rfl, hg, hG, hL, hab, hb1, hb5, hfew⟩
  · rw [h1, calm_none hk h2]; exact ⟨_, rfl, rfl⟩
  · have h16 := pow16 hfew
    have hsum := szs_sum (nearM W H hs a b) (cells W H hs).length false true (2 ^ (cells W H hs).length)
    have hlen : (szs (nearM W H hs a b) (cells W H hs).length false true (2 ^ (cells W H hs).length)).length = (cells W H hs).length + 1 := by simp [szs]
    rw [countP_szG] at hsum
    have hcl := calmN_le (nearM W H hs a b) (cells W H hs).length (-1) (2 ^ (cells W H hs).length)
    rw [h1, calm_eq hk hg hG hL hab hb5 hfew, guAll_eq hk hg hab hb1 hfew]
    simp only [Option.bind_some, Bool.not_true, Bool.false_eq_true, if_false]
    refine ⟨_, ?_, rfl⟩
    rw [← hsum]
    generalize szs (nearM W H hs a b) (cells W H hs).length false true (2 ^ (cells W H hs).length) = S at hsum hlen
    generalize hr : ((((stG (nearM W H hs a b) (cells W H hs) (cells W H hs).length false true false (2 ^ (cells W H hs).length)).1 : Int), (((stG (nearM W H hs a b) (cells W H hs) (cells W H hs).length false true false (2 ^ (cells W H hs).length)).2.1 : Int), (zs (stG (nearM W H hs a b) (cells W H hs) (cells W H hs).length false true false (2 ^ (cells W H hs).length)).2.2, (zs S, ())))) : Int × (Int × ((List Int) × ((List Int) × Unit)))) = r
    have hr4 : r.2.2.2.1 = zs S := by rw [← hr]
    unfold go_spec_CountPeaceful_L0
    refine iter_path (F := fun rec8 x7 => go_spec_CountPeaceful_L0_G k (bd W H hs) (ld a b) r rec8 x7) (fun i => (((S.take i).sum : Int), (i : Int))) S.length (by simp) (by unfold K0 at hk; omega) (fun i hi rec => ?_) (fun rec => ?_)
    · unfold go_spec_CountPeaceful_L0_G
      have e1 : decide ((i : Int) < (S.length : Int)) = true := by simpa using hi
      have e2 : (S.take (i + 1)).sum = (S.take i).sum + S.getD i 0 := by
        rw [List.take_succ_eq_append_getElem hi, List.sum_append, List.getD_eq_getElem?_getD, List.getElem?_eq_getElem hi]
        simp
      have e3 := take_sum_le S (i + 1)
      have e4 : IntKind.i64.wrap (((S.take i).sum : Int) + ((S.getD i 0 : Nat) : Int)) = ((S.take (i + 1)).sum : Int) := by
        rw [e2, ← Int.natCast_add, wnat (by omega)]
      simp only [hr4, zs_length, e1, inb_lt hi, if_true, Int.toNat_natCast, zs_getD, wsucc (show i < 9223372036854775807 by omega), e4]
    · unfold go_spec_CountPeaceful_L0_G
      have e1 : decide ((S.length : Int) < (S.length : Int)) = false := by simp
      simp only [hr4, zs_length, e1, Bool.false_eq_true, if_false, List.take_length]

theorem CountPeacefulOf_same (hk : K0 ≤ k) (B : BT) (L : LT) (n : Int) : ∃ r, go_spec_CountPeacefulOf k B L n = some r ∧ go_impl_CountPeacefulOf k B L n = some r := by
  unfold go_spec_CountPeacefulOf go_impl_CountPeacefulOf
  simp only [l1In_eq]
  rcases gu_cases hk B L with ⟨h1, h2⟩ | ⟨h1, W, H, a, b, hs, rfl, rfl, hg, hG, hL, hab, hb1, hb5, hfew⟩
  · rw [h1, calm_none hk h2]
    simp only [Option.bind_some, Bool.not_false, Bool.not_true, Bool.false_eq_true, if_false, Bool.true_or, if_true]
    refine ⟨_, rfl, ?_⟩
    split <;> rfl
  · rw [h1]
    simp only [Option.bind_some, Bool.not_true, Bool.not_false, if_true, Bool.false_or]
    have e : (decide (n < (0 : Int)) || decide ((64 : Int) < n)) = !(decide ((0 : Int) ≤ n) && decide (n ≤ (64 : Int))) := by
      rw [Bool.eq_iff_iff]
      simp
    rw [e]
    cases hin : decide ((0 : Int) ≤ n) && decide (n ≤ (64 : Int)) with
    | false => exact ⟨_, rfl, rfl⟩
    | true =>
      have h0 : 0 ≤ n := by simp at hin; exact hin.1
      obtain ⟨s, rfl⟩ := Int.eq_ofNat_of_zero_le h0
      have hlen : (szs (nearM W H hs a b) (cells W H hs).length false true (2 ^ (cells W H hs).length)).length = (cells W H hs).length + 1 := by simp [szs]
      rw [calm_eq hk hg hG hL hab hb5 hfew, guAll_eq hk hg hab hb1 hfew]
      simp only [Option.bind_some, Bool.not_true, Bool.false_eq_true, if_false, zs_length, hlen, Int.toNat_natCast, zs_getD]
      by_cases hcs : (cells W H hs).length + 1 ≤ s
      · have : calmN (nearM W H hs a b) (cells W H hs).length (s : Int) (2 ^ (cells W H hs).length) = 0 := by
          unfold calmN
          rw [List.countP_eq_zero]
          intro m _
          have := bits_le (cells W H hs).length m
          have h2 : ¬ ((bits (cells W H hs).length m : Int) = (s : Int)) := by omega
          have h3 : ¬ (s : Int) < 0 := by omega
          simp [h2, h3]
        rw [if_pos (by simp only [decide_eq_true_eq]; omega), this]
        exact ⟨_, rfl, rfl⟩
      · have : szG (nearM W H hs a b) (cells W H hs).length false true (2 ^ (cells W H hs).length) s = calmN (nearM W H hs a b) (cells W H hs).length (s : Int) (2 ^ (cells W H hs).length) := by
          unfold szG calmN
          congr 1
          funext m
          have h3 : ¬ (s : Int) < 0 := by omega
          have h4 : decide ((bits (cells W H hs).length m : Int) = (s : Int)) = decide (bits (cells W H hs).length m = s) := by
            rw [decide_eq_decide]; omega
          simp only [h4, okG, h3, decide_false, Bool.false_and, Bool.false_or, Bool.true_and, Bool.not_not]
        rw [if_neg (by simp only [decide_eq_true_eq]; omega), inb_lt (by omega), szs_get (by omega), this]
        exact ⟨_, rfl, rfl⟩

end Go.Lg
