/-
  Plain law: the count of ones, below 65536.
-/
import Derived.Test.YtfnkdimgmhhpiaaBits
import Derived.Test.YtfnkdimgmhhpiaaGenG
set_option linter.unusedVariables false
set_option linter.unusedSimpArgs false
namespace Go.Lg
open Go.RowKit Go.IntWalk

variable {k : Nat}

def n1 (x : Nat) : Nat := ((x >>> 1) &&& 6148914691236517205) + (x &&& 6148914691236517205)
def n2 (x : Nat) : Nat := ((x >>> 2) &&& 3689348814741910323) + (x &&& 3689348814741910323)
def n3 (x : Nat) : Nat := ((x >>> 4) + x) &&& 1085102592571150095
def n4 (x : Nat) : Nat := x + (x >>> 8)
def n5 (x : Nat) : Nat := x + (x >>> 16)
def n6 (x : Nat) : Nat := x + (x >>> 32)
def ones (x : Nat) : Nat := n6 (n5 (n4 (n3 (n2 (n1 x))))) &&& 127

theorem shr_le (x i : Nat) : x >>> i ≤ x := by rw [Nat.shiftRight_eq_div_pow]; exact Nat.div_le_self _ _
theorem n1_le (x : Nat) : n1 x ≤ 2 * x := by
  have h1 : (x >>> 1) &&& 6148914691236517205 ≤ x >>> 1 := Nat.and_le_left
  have h2 : x &&& 6148914691236517205 ≤ x := Nat.and_le_left
  have := shr_le x 1
  unfold n1; omega
theorem n2_le (x : Nat) : n2 x ≤ 2 * x := by
  have h1 : (x >>> 2) &&& 3689348814741910323 ≤ x >>> 2 := Nat.and_le_left
  have h2 : x &&& 3689348814741910323 ≤ x := Nat.and_le_left
  have := shr_le x 2
  unfold n2; omega
theorem n3_le (x : Nat) : n3 x ≤ 2 * x := by
  have h1 : ((x >>> 4) + x) &&& 1085102592571150095 ≤ (x >>> 4) + x := Nat.and_le_left
  have := shr_le x 4
  unfold n3; omega
theorem n4_le (x : Nat) : n4 x ≤ 2 * x := by have := shr_le x 8; unfold n4; omega
theorem n5_le (x : Nat) : n5 x ≤ 2 * x := by have := shr_le x 16; unfold n5; omega
theorem n6_le (x : Nat) : n6 x ≤ 2 * x := by have := shr_le x 32; unfold n6; omega

theorem u64_nat {x : Nat} (h : x < 18446744073709551616) : IntKind.u64.wrap (x : Int) = (x : Int) := u64_in _ ⟨by omega, by omega⟩

theorem uand {x y : Nat} (hx : x < 18446744073709551616) (hy : y < 18446744073709551616) :
    IntKind.u64.wrap (((BitVec.ofInt (IntKind.u64.bits) (x : Int) &&& BitVec.ofInt (IntKind.u64.bits) (y : Int)).toNat : Int)) = ((x &&& y : Nat) : Int) := by
  have h : x &&& y ≤ x := Nat.and_le_left
  rw [show (IntKind.u64.bits) = 64 from rfl, BitVec.toNat_and, bv_nat (by omega), bv_nat (by omega), u64_nat (by omega)]

theorem ufdiv {x i : Nat} (h : i < 64) : Int.fdiv (x : Int) (2 ^ (min i (IntKind.u64.bits))) = ((x >>> i : Nat) : Int) := fdiv_pow h

def U (x : Int) : Int := IntKind.u64.wrap x
def A (x y : Int) : Int := IntKind.u64.wrap (((BitVec.ofInt (IntKind.u64.bits) x &&& BitVec.ofInt (IntKind.u64.bits) y).toNat : Int))
def D (x : Int) (i : Int) : Int := Int.fdiv x (2 ^ (min i.toNat (IntKind.u64.bits)))
def z1 (x : Int) : Int := U (A (D x 1) 6148914691236517205 + A x 6148914691236517205)
def z2 (x : Int) : Int := U (A (D x 2) 3689348814741910323 + A x 3689348814741910323)
def z3 (x : Int) : Int := A (U (D x 4 + x)) 1085102592571150095
def z4 (x : Int) : Int := U (x + D x 8)
def z5 (x : Int) : Int := U (x + D x 16)
def z6 (x : Int) : Int := U (x + D x 32)
def z7 (x : Int) : Int := IntKind.i64.wrap (((BitVec.ofInt (IntKind.i64.bits) (IntKind.i64.wrap x) &&& BitVec.ofInt (IntKind.i64.bits) 127).toNat : Int))

theorem ones64 (x : Int) : go_math_bits_OnesCount64 k x = some (z7 (z6 (z5 (z4 (z3 (z2 (z1 x))))))) := rfl

theorem A_nat {x y : Nat} (hx : x < 18446744073709551616) (hy : y < 18446744073709551616) : A (x : Int) (y : Int) = ((x &&& y : Nat) : Int) := uand hx hy
theorem D_nat {x i : Nat} (h : i < 64) : D (x : Int) (i : Int) = ((x >>> i : Nat) : Int) := by unfold D; rw [Int.toNat_natCast]; exact ufdiv h

theorem z1_nat {x : Nat} (h : x < 1099511627776) : z1 (x : Int) = (n1 x : Int) := by
  have hl := n1_le x
  have hs := shr_le x 1
  have e1 : D (x : Int) 1 = ((x >>> 1 : Nat) : Int) := D_nat (i := 1) (by omega)
  have e2 : A ((x >>> 1 : Nat) : Int) 6148914691236517205 = _ := A_nat (y := 6148914691236517205) (by omega) (by omega)
  have e3 : A (x : Int) 6148914691236517205 = _ := A_nat (y := 6148914691236517205) (by omega) (by omega)
  unfold z1 U
  rw [e1, e2, e3, ← Int.natCast_add]
  exact u64_nat (by unfold n1 at hl; omega)
theorem z2_nat {x : Nat} (h : x < 1099511627776) : z2 (x : Int) = (n2 x : Int) := by
  have hl := n2_le x
  have hs := shr_le x 2
  have e1 : D (x : Int) 2 = ((x >>> 2 : Nat) : Int) := D_nat (i := 2) (by omega)
  have e2 : A ((x >>> 2 : Nat) : Int) 3689348814741910323 = _ := A_nat (y := 3689348814741910323) (by omega) (by omega)
  have e3 : A (x : Int) 3689348814741910323 = _ := A_nat (y := 3689348814741910323) (by omega) (by omega)
  unfold z2 U
  rw [e1, e2, e3, ← Int.natCast_add]
  exact u64_nat (by unfold n2 at hl; omega)
theorem z3_nat {x : Nat} (h : x < 1099511627776) : z3 (x : Int) = (n3 x : Int) := by
  have hs := shr_le x 4
  have e1 : D (x : Int) 4 = ((x >>> 4 : Nat) : Int) := D_nat (i := 4) (by omega)
  unfold z3 U
  rw [e1, ← Int.natCast_add, u64_nat (by omega)]
  exact A_nat (y := 1085102592571150095) (by omega) (by omega)
theorem z4_nat {x : Nat} (h : x < 1099511627776) : z4 (x : Int) = (n4 x : Int) := by
  have hs := shr_le x 8
  have e1 : D (x : Int) 8 = ((x >>> 8 : Nat) : Int) := D_nat (i := 8) (by omega)
  unfold z4 U
  rw [e1, ← Int.natCast_add, u64_nat (by omega)]
  rfl
theorem z5_nat {x : Nat} (h : x < 1099511627776) : z5 (x : Int) = (n5 x : Int) := by
  have hs := shr_le x 16
  have e1 : D (x : Int) 16 = ((x >>> 16 : Nat) : Int) := D_nat (i := 16) (by omega)
  unfold z5 U
  rw [e1, ← Int.natCast_add, u64_nat (by omega)]
  rfl
theorem z6_nat {x : Nat} (h : x < 1099511627776) : z6 (x : Int) = (n6 x : Int) := by
  have hs := shr_le x 32
  have e1 : D (x : Int) 32 = ((x >>> 32 : Nat) : Int) := D_nat (i := 32) (by omega)
  unfold z6 U
  rw [e1, ← Int.natCast_add, u64_nat (by omega)]
  rfl

theorem ones_nat {x : Nat} (h : x < 65536) : go_math_bits_OnesCount64 k (x : Int) = some (ones x : Int) := by
  have h1 := n1_le x
  have h2 := n2_le (n1 x)
  have h3 := n3_le (n2 (n1 x))
  have h4 := n4_le (n3 (n2 (n1 x)))
  have h5 := n5_le (n4 (n3 (n2 (n1 x))))
  have h6 := n6_le (n5 (n4 (n3 (n2 (n1 x)))))
  rw [ones64, z1_nat (by omega), z2_nat (by omega), z3_nat (by omega), z4_nat (by omega), z5_nat (by omega), z6_nat (by omega)]
  unfold z7
  rw [wnat (a := n6 (n5 (n4 (n3 (n2 (n1 x)))))) (by omega)]
  congr 1
  exact wand (y := 127) (by omega) (by omega)

theorem OnesCount_nat {x : Nat} (h : x < 65536) : go_math_bits_OnesCount k (x : Int) = some (ones x : Int) := by
  unfold go_math_bits_OnesCount
  rw [if_neg (by decide), ones_nat h]
  rfl

def onesOk (i : Nat) : Bool := (List.range 16).all fun h => (List.range 256).all fun l => Nat.beq (ones (256 * (16 * i + h) + l)) (bits 16 (256 * (16 * i + h) + l))
theorem onesOk0 : onesOk 0 = true := by kernel_rfl
theorem onesOk1 : onesOk 1 = true := by kernel_rfl
theorem onesOk2 : onesOk 2 = true := by kernel_rfl
theorem onesOk3 : onesOk 3 = true := by kernel_rfl
theorem onesOk4 : onesOk 4 = true := by kernel_rfl
theorem onesOk5 : onesOk 5 = true := by kernel_rfl
theorem onesOk6 : onesOk 6 = true := by kernel_rfl
theorem onesOk7 : onesOk 7 = true := by kernel_rfl
theorem onesOk8 : onesOk 8 = true := by kernel_rfl
theorem onesOk9 : onesOk 9 = true := by kernel_rfl
theorem onesOk10 : onesOk 10 = true := by kernel_rfl
theorem onesOk11 : onesOk 11 = true := by kernel_rfl
theorem onesOk12 : onesOk 12 = true := by kernel_rfl
theorem onesOk13 : onesOk 13 = true := by kernel_rfl
theorem onesOk14 : onesOk 14 = true := by kernel_rfl
theorem onesOk15 : onesOk 15 = true := by kernel_rfl
theorem onesOk_all : ∀ i, i < 16 → onesOk i = true
  | 0, _ => onesOk0
  | 1, _ => onesOk1
  | 2, _ => onesOk2
  | 3, _ => onesOk3
  | 4, _ => onesOk4
  | 5, _ => onesOk5
  | 6, _ => onesOk6
  | 7, _ => onesOk7
  | 8, _ => onesOk8
  | 9, _ => onesOk9
  | 10, _ => onesOk10
  | 11, _ => onesOk11
  | 12, _ => onesOk12
  | 13, _ => onesOk13
  | 14, _ => onesOk14
  | 15, _ => onesOk15
  | n + 16, h => absurd h (by omega)

theorem ones_bits_all (h : Nat) (hh : h < 256) (l : Nat) (hl : l < 256) : ones (256 * h + l) = bits 16 (256 * h + l) := by
  have := onesOk_all (h / 16) (by omega)
  unfold onesOk at this
  rw [List.all_eq_true] at this
  have := this (h % 16) (List.mem_range.2 (by omega))
  rw [List.all_eq_true] at this
  have := Nat.eq_of_beq_eq_true (this l (List.mem_range.2 hl))
  rwa [Nat.div_add_mod] at this

theorem ones_bits {x : Nat} (h : x < 65536) : ones x = bits 16 x := by
  have := ones_bits_all (x / 256) (by omega) (x % 256) (by omega)
  rwa [Nat.div_add_mod] at this

end Go.Lg
