/-
  Plain law: bits of whole numbers. No program in sight.
-/
import Derived.Test.YtfnkdimgmhhpiaaPl1
set_option linter.unusedVariables false
set_option linter.unusedSimpArgs false
namespace Go.Lg
open Go.RowKit Go.IntWalk

theorem bv_nat {x : Nat} (h : x < 18446744073709551616) : (BitVec.ofInt 64 (x : Int)).toNat = x := by
  have : BitVec.ofInt 64 (x : Int) = BitVec.ofNat 64 x := by simp
  rw [this, BitVec.toNat_ofNat]
  exact Nat.mod_eq_of_lt h

theorem wor {x y : Nat} (hx : x < 4611686018427387904) (hy : y < 4611686018427387904) :
    IntKind.i64.wrap (((BitVec.ofInt (IntKind.i64.bits) (x : Int) ||| BitVec.ofInt (IntKind.i64.bits) (y : Int)).toNat : Int)) = ((x ||| y : Nat) : Int) := by
  have h : x ||| y < 2 ^ 62 := Nat.or_lt_two_pow (by omega) (by omega)
  rw [show (IntKind.i64.bits) = 64 from rfl, BitVec.toNat_or, bv_nat (by omega), bv_nat (by omega), wnat (by omega)]

theorem wand {x y : Nat} (hx : x < 4611686018427387904) (hy : y < 4611686018427387904) :
    IntKind.i64.wrap (((BitVec.ofInt (IntKind.i64.bits) (x : Int) &&& BitVec.ofInt (IntKind.i64.bits) (y : Int)).toNat : Int)) = ((x &&& y : Nat) : Int) := by
  have h : x &&& y ≤ x := Nat.and_le_left
  rw [show (IntKind.i64.bits) = 64 from rfl, BitVec.toNat_and, bv_nat (by omega), bv_nat (by omega), wnat (by omega)]

theorem wpow {i : Nat} (h : i < 62) : IntKind.i64.wrap ((1 : Int) * 2 ^ (min i (IntKind.i64.bits))) = ((2 ^ i : Nat) : Int) := by
  rw [show (IntKind.i64.bits) = 64 from rfl, Nat.min_eq_left (by omega), Int.one_mul]
  have h1 : 2 ^ i < 2 ^ 62 := Nat.pow_lt_pow_right (by omega) h
  have e : ((2 : Int) ^ i) = ((2 ^ i : Nat) : Int) := by simp
  rw [e, wnat (by omega)]

theorem fdiv_pow {x i : Nat} (h : i < 64) : Int.fdiv (x : Int) (2 ^ (min i (IntKind.i64.bits))) = ((x >>> i : Nat) : Int) := by
  rw [show (IntKind.i64.bits) = 64 from rfl, Nat.min_eq_left (by omega), Nat.shiftRight_eq_div_pow]
  have e : ((2 : Int) ^ i) = ((2 ^ i : Nat) : Int) := by simp
  rw [e, Int.fdiv_eq_ediv_of_nonneg _ (Int.natCast_nonneg _)]
  simp

theorem bit_mod {x i : Nat} : (x >>> i) % 2 = if x.testBit i = true then 1 else 0 := by
  rw [Nat.testBit, Nat.and_comm, Nat.and_one_is_mod]
  rcases Nat.mod_two_eq_zero_or_one (x >>> i) with h | h <;> simp [h]

theorem bit_and {x i : Nat} : (x >>> i) &&& 1 = if x.testBit i = true then 1 else 0 := by
  rw [Nat.and_one_is_mod, bit_mod]

/-- How many bits. -/
def bits (n m : Nat) : Nat := (List.range n).countP fun i => m.testBit i

end Go.Lg
