/- Sets of small numbers as words of 64 bits. -/
import Derived.Test.YtpdlcnpmljfclaaDoorMod3
namespace Go.Proofs.YtpdlcnpmljfclaaDoor
open Go.RowKit
theorem ofInt64_nat (a : Nat) (ha : a < 4294967296) : (BitVec.ofInt 64 (a : Int)).toNat = a := by
  rw [BitVec.ofInt_natCast, BitVec.toNat_ofNat]; exact Nat.mod_eq_of_lt (by omega)
theorem i64_or_nat (a b : Nat) (ha : a < 4294967296) (hb : b < 4294967296) : bits .or .i64 (a : Int) (b : Int) = ((a ||| b : Nat) : Int) := by
  have hx : a ||| b < 2 ^ 32 := Nat.or_lt_two_pow (by omega) (by omega)
  show IntKind.i64.wrap ((BitVec.ofInt 64 (a : Int) ||| BitVec.ofInt 64 (b : Int)).toNat : Int) = _
  rw [BitVec.toNat_or, ofInt64_nat a ha, ofInt64_nat b hb, IntKind.wrap_i64]
  omega
theorem i64_and2_nat (a b : Nat) (ha : a < 4294967296) (hb : b < 4294967296) : bits .and .i64 (a : Int) (b : Int) = ((a &&& b : Nat) : Int) := by
  have hx : a &&& b < 2 ^ 32 := Nat.and_lt_two_pow _ (by omega)
  show IntKind.i64.wrap ((BitVec.ofInt 64 (a : Int) &&& BitVec.ofInt 64 (b : Int)).toNat : Int) = _
  rw [BitVec.toNat_and, ofInt64_nat a ha, ofInt64_nat b hb, IntKind.wrap_i64]
  omega
theorem and_not_big (a b : Nat) (ha : a < 4294967296) (hb : b < 4294967296) : a &&& (2 ^ 64 - 1 - b) = a &&& (4294967295 - b) := by
  apply Nat.eq_of_testBit_eq
  intro i
  rw [Nat.testBit_and, Nat.testBit_and]
  by_cases hi : i < 32
  · have e1 : 2 ^ 64 - 1 - b = 2 ^ 64 - (b + 1) := by omega
    have e2 : 4294967295 - b = 2 ^ 32 - (b + 1) := by omega
    rw [e1, e2, Nat.testBit_two_pow_sub_succ (by omega), Nat.testBit_two_pow_sub_succ (by omega)]
    simp [hi, show i < 64 by omega]
  · have : a.testBit i = false := Nat.testBit_lt_two_pow (Nat.lt_of_lt_of_le ha (by
      have : (2 : Nat) ^ 32 ≤ 2 ^ i := Nat.pow_le_pow_right (by omega) (by omega)
      omega))
    rw [this]; simp
theorem i64_andNot_nat (a b : Nat) (ha : a < 4294967296) (hb : b < 4294967296) : bits .andNot .i64 (a : Int) (b : Int) = (andN a b : Int) := by
  have hx : a &&& (4294967295 - b) < 2 ^ 32 := Nat.and_lt_two_pow _ (by omega)
  show IntKind.i64.wrap ((BitVec.ofInt 64 (a : Int) &&& ~~~BitVec.ofInt 64 (b : Int)).toNat : Int) = _
  rw [BitVec.toNat_and, BitVec.toNat_not, ofInt64_nat a ha, ofInt64_nat b hb, IntKind.wrap_i64, and_not_big a b ha hb]
  unfold andN
  omega
theorem shl_one (v : Nat) (hv : v < 32) : wrap64 ((2 : Int) ^ v) = (bit v : Int) := by
  have hp := bit_lt hv
  have : ((2 : Int) ^ v) = (bit v : Int) := by unfold bit; simp
  rw [this]; unfold wrap64; omega
