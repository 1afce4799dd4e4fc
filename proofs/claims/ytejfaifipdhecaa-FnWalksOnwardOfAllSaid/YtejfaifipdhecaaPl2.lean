/-
  Plain law: the small functions of the laws.
-/
import Derived.Test.YtejfaifipdhecaaPl1
import Derived.Test.YtejfaifipdhecaaGenA
set_option linter.unusedVariables false
set_option linter.unusedSimpArgs false
namespace Go.Lg
open Go.RowKit Go.IntWalk

/-- The fuel that is always enough. -/
def K0 : Nat := 1099511627776

variable {k : Nat}

theorem szIntS_eq {l : List Int} {n : Int} (hl : l.length ≤ 140737488351232) (h0 : 0 ≤ n) (hn : n ≤ 1048576) : go_laws_szIntS k l n = some (if n < l.length then -1 else n - l.length) := by
  unfold go_laws_szIntS
  rw [w64 (by omega) (by omega)]
  by_cases h : n < l.length
  · rw [if_pos (by simp; omega), if_pos h]
  · rw [if_neg (by simp; omega), if_neg h]

theorem toIntS_eq {l : List Int} (hk : K0 ≤ k) (hl : l.length ≤ 1048576) : go_laws_toIntS k l = some l := by
  unfold go_laws_toIntS go_laws_toIntS_T
  rw [if_pos (by simp [LIM]; omega)]
  unfold go_laws_toIntS_L0
  refine iter_path (fun i => ((i : Int), l.take i ++ List.replicate (l.length - i) 0)) l.length (by simp) (by unfold K0 at hk; omega) (fun i hi rec => ?_) (fun rec => ?_)
  · unfold go_laws_toIntS_L0_G
    have hlen : (l.take i ++ List.replicate (l.length - i) (0 : Int)).length = l.length := by simp; omega
    simp only [hlen, inb_lt hi, wsucc (show i < 9223372036854775807 by omega), Int.toNat_natCast]
    rw [if_pos (by simpa using hi)]
    simp only [if_true]
    congr 2
    rw [List.set_append_right _ _ (by simp; omega)]
    have : List.replicate (l.length - i) (0 : Int) = 0 :: List.replicate (l.length - (i + 1)) 0 := by
      rw [← List.replicate_succ]; congr 1; omega
    rw [this]
    have : i - (l.take i).length = 0 := by simp; omega
    rw [this]
    rw [List.take_succ_eq_append_getElem hi, List.set_cons_zero]
    simp only [List.getD_eq_getElem?_getD, List.getElem?_eq_getElem hi, Option.getD_some, List.append_assoc, List.singleton_append]
  · unfold go_laws_toIntS_L0_G
    rw [if_neg (by simp)]
    simp

theorem eqIntS_eq {l m : List Int} (hk : K0 ≤ k) (hl : l.length ≤ 1048576) : go_laws_eqIntS k l m = some (decide (l = m)) := by
  unfold go_laws_eqIntS go_laws_eqIntS_T
  by_cases hlen : l.length = m.length
  · rw [if_neg (by simp; omega)]
    unfold go_laws_eqIntS_L0
    have := iter_find (F := fun rec4 x3 => go_laws_eqIntS_L0_G k l m rec4 x3) (fun i => (i : Int)) (List.range l.length) (fun i => !decide (l.getD i 0 = m.getD i 0)) (yes := fun _ _ => some false) (no := some true) (m := k) rfl (by simp; unfold K0 at hk; omega)
      (fun i x hx rec => by
        have hi := length_lt hx
        simp at hi
        rw [List.getElem?_range hi] at hx; simp at hx; subst hx
        unfold go_laws_eqIntS_L0_G
        rw [if_pos (by simpa using hi)]
        simp only [inb_lt hi, inb_lt (hlen ▸ hi : i < m.length), if_true, Int.toNat_natCast, wsucc (show i < 9223372036854775807 by omega)])
      (fun rec => by
        unfold go_laws_eqIntS_L0_G
        rw [if_neg (by simp)])
    refine this.trans ?_
    cases hf : (List.range l.length).findIdx? (fun i => !decide (l.getD i 0 = m.getD i 0)) with
    | none =>
      rw [List.findIdx?_eq_none_iff] at hf
      have : l = m := List.ext_getElem hlen fun i h1 h2 => by
        have := hf i (by simpa using h1)
        simpa [List.getD_eq_getElem?_getD, List.getElem?_eq_getElem h1, List.getElem?_eq_getElem h2] using this
      simp [this]
    | some i =>
      rw [List.findIdx?_eq_some_iff_getElem] at hf
      obtain ⟨hi, hp, _⟩ := hf
      have hne : l ≠ m := by rintro rfl; simp at hp
      have hi' : i < l.length := by simpa using hi
      simp only [List.getElem?_range hi', hne, decide_false]
  · rw [if_pos (by simp; omega)]
    have : l ≠ m := fun h => hlen (by rw [h])
    simp [this]

theorem eqBoard_refl {B : Int × (Int × (List Int × Unit))} (hk : K0 ≤ k) (hl : B.2.2.1.length ≤ 1048576) : go_laws_eqBoard k B B = some true := by
  unfold go_laws_eqBoard
  rw [eqIntS_eq hk hl]
  simp

/-- The numbers from n on. -/
def marked (n : Int) (m : Nat) : List Int := (List.range m).map fun (i : Nat) => n + (i : Int)

theorem markIntS_eq {l : List Int} {n : Int} (hk : K0 ≤ k) (hl : l.length ≤ 1048576) (h0 : 0 ≤ n) (hn : n ≤ 1099511627776) : go_laws_markIntS k l n = some (n + l.length, (marked n l.length, (n, ()))) := by
  unfold go_laws_markIntS go_laws_markIntS_T go_laws_markIntS_L0
  refine iter_path (A := Int × (List Int × (Int × Unit))) (F := fun rec8 x7 => go_laws_markIntS_L0_G k l n rec8 x7) (fun i => (n + (i : Int), (i : Int), marked n i ++ l.drop i)) l.length (by simp [marked]) (by unfold K0 at hk; omega) (fun i hi rec => ?_) (fun rec => ?_)
  · unfold go_laws_markIntS_L0_G
    have hlen : (marked n i ++ l.drop i).length = l.length := by simp [marked]; omega
    simp only [hlen, inb_lt hi, wsucc (show i < 9223372036854775807 by omega), Int.toNat_natCast]
    rw [if_pos (by simpa using hi), w64 (by omega) (by omega)]
    simp only [if_true]
    rw [List.set_append_right _ _ (by simp [marked]), show i - (marked n i).length = 0 by simp [marked], List.drop_eq_getElem_cons hi, List.set_cons_zero]
    have e1 : marked n (i + 1) = marked n i ++ [n + (i : Int)] := by simp [marked, List.range_succ]
    rw [e1]
    simp [Int.add_assoc]
  · unfold go_laws_markIntS_L0_G
    rw [if_neg (by simp [marked])]
    simp

theorem markBoard_eq {B : Int × (Int × (List Int × Unit))} (hk : K0 ≤ k) (hl : B.2.2.1.length ≤ 1048576) : ∃ r, go_laws_markBoard k B 1 = some r ∧ 0 ≤ r.1 := by
  unfold go_laws_markBoard
  rw [markIntS_eq hk hl (by omega) (by omega)]
  exact ⟨_, rfl, by show (0 : Int) ≤ 1 + (B.2.2.1.length : Int); omega⟩

theorem markBoard_eq' {B : Int × (Int × (List Int × Unit))} (hk : K0 ≤ k) (hl : B.2.2.1.length ≤ 1048576) : ∃ r, go_laws_markBoard k B 1 = some r ∧ 0 ≤ r.1 ∧ r.1 ≤ 2000000 := by
  unfold go_laws_markBoard
  rw [markIntS_eq hk hl (by omega) (by omega)]
  exact ⟨_, rfl, by show (0 : Int) ≤ 1 + (B.2.2.1.length : Int); omega, by show 1 + (B.2.2.1.length : Int) ≤ 2000000; omega⟩

theorem heldIntS_eq {m : Nat} {n : Int} (hk : K0 ≤ k) (hl : m ≤ 1048576) (h0 : 0 ≤ n) (hn : n ≤ 1099511627776) : go_laws_heldIntS k (marked n m) n = some (n + m) := by
  unfold go_laws_heldIntS go_laws_heldIntS_T go_laws_heldIntS_L0
  refine iter_path (F := fun rec6 x5 => go_laws_heldIntS_L0_G k (marked n m) n rec6 x5) (fun i => (n + (i : Int), (i : Int))) m (by simp) (by unfold K0 at hk; omega) (fun i hi rec => ?_) (fun rec => ?_)
  · unfold go_laws_heldIntS_L0_G
    have hlen : (marked n m).length = m := by simp [marked]
    have hget : (marked n m).getD i 0 = n + (i : Int) := by simp [marked, List.getD_eq_getElem?_getD, List.getElem?_range hi]
    simp only [hlen, inb_lt hi, wsucc (show i < 9223372036854775807 by omega), Int.toNat_natCast, hget]
    rw [if_pos (by simpa using hi), w64 (by omega) (by omega)]
    simp [Int.add_assoc]
  · unfold go_laws_heldIntS_L0_G
    rw [if_neg (by simp [marked])]

end Go.Lg
