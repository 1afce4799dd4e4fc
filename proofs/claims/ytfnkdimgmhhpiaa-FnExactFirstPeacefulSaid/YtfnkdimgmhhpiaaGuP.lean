/-
  Plain law: the program's searches over sets are the reference's.
-/
import Derived.Test.YtfnkdimgmhhpiaaGu3p
set_option linter.unusedVariables false
set_option linter.unusedSimpArgs false
namespace Go.Lg
open Go.RowKit Go.IntWalk

variable {k : Nat}

theorem gu_cases (hk : K0 ≤ k) (B : BT) (L : LT) :
    (go_spec_guFew k B L = some false ∧ go_impl_tourGraph k B L 16 = some (none, (false, ()))) ∨
    (go_spec_guFew k B L = some true ∧ ∃ (W H a b : Nat) (hs : List Nat), B = bd W H hs ∧ L = ld a b ∧ Gd W H hs ∧ isGood (bd W H hs) = true ∧ isGoodL (ld a b) = true ∧ a ≤ b ∧ 1 ≤ b ∧ b ≤ 5 ∧ (cells W H hs).length ≤ 16) := by
  unfold go_spec_guFew
  rw [boTwo_eq hk]
  simp only [Option.bind_some]
  cases hB : isGood B && isGoodL L with
  | false =>
    refine .inl ⟨by simp, tourGraph_none hk hB _⟩
  | true =>
    simp only [Bool.and_eq_true] at hB
    obtain ⟨hB, hL⟩ := hB
    obtain ⟨W, H, hs, rfl, hg⟩ := Good.nat (by simpa [isGood] using hB)
    obtain ⟨a, b, rfl, hab, hb1, hb5⟩ := GoodL.nat (by simpa [isGoodL] using hL)
    rw [if_pos rfl, boCells_eq hk hg]
    simp only [Option.bind_some, zs_length, Bool.true_and]
    by_cases hfew : (cells W H hs).length ≤ 16
    · exact .inr ⟨by simp; omega, W, H, a, b, hs, rfl, rfl, hg, hB, hL, hab, hb1, hb5, hfew⟩
    · refine .inl ⟨by simp; omega, ?_⟩
      rw [tourGraph_eq hk hg hB hL hab hb5, if_neg (by omega)]

section
variable {W H a b : Nat} {hs : List Nat}

theorem okG_mono {N : Nat → Nat} {n m : Nat} (guards peace : Bool) (h : okG N n true true m = true) : okG N n guards peace m = true := by
  unfold okG at h ⊢
  cases guards <;> cases peace <;> simp_all

theorem ok_some (hab : a ≤ b) (hb1 : 1 ≤ b) (guards peace : Bool) : ∃ m, m < 2 ^ (cells W H hs).length ∧ okG (nearM W H hs a b) (cells W H hs).length guards peace m = true := by
  obtain ⟨m, h1, h2⟩ := peaceful_guards (N := nearM W H hs a b) (n := (cells W H hs).length) (fun i _ => nearM_lt i) (fun i _ => nearM_irr hab hb1 i) (fun i j hi hj => nearM_sym hi hj) (cells W H hs).length 0 (Nat.two_pow_pos _) (by omega) (by
    rw [qC_iff]
    intro j _ h
    simp at h)
  exact ⟨m, h1, okG_mono guards peace h2⟩

theorem searched_eq (hk : K0 ≤ k) (hg : Gd W H hs) (hG : isGood (bd W H hs) = true) (hL : isGoodL (ld a b) = true) (hab : a ≤ b) (hb1 : 1 ≤ b) (hb5 : b ≤ 5) (hfew : (cells W H hs).length ≤ 16) (guards peace least : Bool) :
    ∃ (s c : Nat) (f : List Nat) (z : List Int), go_spec_guAll k (bd W H hs) (ld a b) guards peace least = some ((s : Int), ((c : Int), (zs f, (z, ())))) ∧
      go_impl_searched k (bd W H hs) (ld a b) guards peace (!least) = some (((s : Int), ((c : Int), (zs f, ()))), (true, ())) ∧ f.length ≤ 16 := by
  refine ⟨_, _, _, _, guAll_eq hk hg hab hb1 hfew guards peace least, ?_, ?_⟩
  · unfold go_impl_searched
    rw [tourGraph_eq hk hg hG hL hab hb5, if_pos (by omega)]
    simp only [Option.bind_some, Bool.not_true, Bool.false_eq_true, if_false, search_eq hk hg hab hb1 hfew]
    obtain ⟨m, h1, h2⟩ := ok_some (W := W) (H := H) (hs := hs) hab hb1 guards peace
    have := stG_some (cs := cells W H hs) (least := least) h2 _ h1
    unfold isz
    rw [if_neg (by omega)]
  · obtain ⟨i1, i2, i3, i4⟩ := stG_inv (nearM W H hs a b) (cells W H hs) (cells W H hs).length guards peace least (2 ^ (cells W H hs).length)
    by_cases h : 0 < (stG (nearM W H hs a b) (cells W H hs) (cells W H hs).length guards peace least (2 ^ (cells W H hs).length)).2.1
    · rw [i3 h]; omega
    · rw [i4 (by omega)]; simp

theorem searched_none (hk : K0 ≤ k) {B : BT} {L : LT} (h : go_impl_tourGraph k B L 16 = some (none, (false, ()))) (guards peace most : Bool) : go_impl_searched k B L guards peace most = some (((0 : Int), ((0 : Int), ([], ()))), (false, ())) := by
  unfold go_impl_searched
  rw [h]
  rfl

end

theorem FirstPeaceful_same (hk : K0 ≤ k) (B : BT) (L : LT) : ∃ r, go_spec_FirstPeaceful k B L = some r ∧ go_impl_FirstPeaceful k B L = some r ∧ r.1.length ≤ 64 := by
  unfold go_spec_FirstPeaceful go_impl_FirstPeaceful
  rcases gu_cases hk B L with ⟨h1, h2⟩ | ⟨h1, W, H, a, b, hs, rfl, rfl, hg, hG, hL, hab, hb1, hb5, hfew⟩
  · rw [h1, searched_none hk h2]; exact ⟨_, rfl, rfl, by simp⟩
  · obtain ⟨s, c, f, z, e1, e2, e3⟩ := searched_eq (k := k) hk hg hG hL hab hb1 hb5 hfew false true false
    rw [Bool.not_false] at e2
    rw [h1, e1, e2]; exact ⟨_, rfl, rfl, by show (zs f).length ≤ 64; rw [zs_length]; omega⟩

end Go.Lg
