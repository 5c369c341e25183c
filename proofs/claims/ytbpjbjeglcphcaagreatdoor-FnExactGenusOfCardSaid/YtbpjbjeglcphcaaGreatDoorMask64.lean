/- Sets of small numbers as words of 64 bits. -/
import Derived.Test.YtbpjbjeglcphcaaGreatDoorMod3
namespace Go.Proofs.YtbpjbjeglcphcaaGreatDoor
open Go.RowKit
theorem ofInt64_nat (a : Nat) (ha : a < 4294967296) : (BitVec.ofInt 64 (a : Int)).toNat = a := by
  rw [BitVec.ofInt_natCast, BitVec.toNat_ofNat]; exact Nat.mod_eq_of_lt (by omega)
theorem i64_or_nat (a b : Nat) (ha : a < 4294967296) (hb : b < 4294967296) : bits .or .i64 (a : Int) (b : Int) = ((a ||| b : Nat) : Int) := by
  have hx : a ||| b < 2 ^ 32 := Nat.or_lt_two_pow (by omega) (by omega)
  show IntKind.i64.wrap ((BitVec.ofInt 64 (a : Int) ||| BitVec.ofInt 64 (b : Int)).toNat : Int) = _
  rw [BitVec.toNat_or, ofInt64_nat a ha, ofInt64_nat b hb, IntKind.wrap_i64]
  omega
theorem i64_and2_nat (a b : Nat) (ha : a < 4294967296) (hb : b < 4294967296) : bits .and .i64 (a : Int) (b : Int) = ((a &&& b : Nat) : Int) := by
  have hx : a &&& b < 2 ^ 32 := Nat.and_lt_two_pow _ (by omega)
  show IntKind.i64.wrap ((BitVec.ofInt 64 (a : Int) &&& BitVec.ofInt 64 (b : Int)).toNat : Int) = _
  rw [BitVec.toNat_and, ofInt64_nat a ha, ofInt64_nat b hb, IntKind.wrap_i64]
  omega
theorem and_not_big (a b : Nat) (ha : a < 4294967296) (hb : b < 4294967296) : a &&& (2 ^ 64 - 1 - b) = a &&& (4294967295 - b) := by
  apply Nat.eq_of_testBit_eq
  intro i
  rw [Nat.testBit_and, Nat.testBit_and]
  by_cases hi : i < 32
  · have e1 : 2 ^ 64 - 1 - b = 2 ^ 64 - (b + 1) := by omega
    have e2 : 4294967295 - b = 2 ^ 32 - (b + 1) := by omega
    rw [e1, e2, Nat.testBit_two_pow_sub_succ (by omega), Nat.testBit_two_pow_sub_succ (by omega)]
    simp [hi, show i < 64 by omega]
  · have : a.testBit i = false := Nat.testBit_lt_two_pow (Nat.lt_of_lt_of_le ha (by
      have : (2 : Nat) ^ 32 ≤ 2 ^ i := Nat.pow_le_pow_right (by omega) (by omega)
      omega))
    rw [this]; simp
theorem i64_andNot_nat (a b : Nat) (ha : a < 4294967296) (hb : b < 4294967296) : bits .andNot .i64 (a : Int) (b : Int) = (andN a b : Int) := by
  have hx : a &&& (4294967295 - b) < 2 ^ 32 := Nat.and_lt_two_pow _ (by omega)
  show IntKind.i64.wrap ((BitVec.ofInt 64 (a : Int) &&& ~~~BitVec.ofInt 64 (b : Int)).toNat : Int) = _
  rw [BitVec.toNat_and, BitVec.toNat_not, ofInt64_nat a ha, ofInt64_nat b hb, IntKind.wrap_i64, and_not_big a b ha hb]
  unfold andN
  omega
theorem shl_one (v : Nat) (hv : v < 32) : wrap64 ((2 : Int) ^ v) = (bit v : Int) := by
  have hp := bit_lt hv
  have : ((2 : Int) ^ v) = (bit v : Int) := by unfold bit; simp
  rw [this]; unfold wrap64; omega
set_option maxHeartbeats 2000000 in
theorem l25Mask_any {S : Nat → Prop} {v : Value} {xs : List Int} {w : World} (hv : SlI S w .i64 v xs) (hx : ∀ x ∈ xs, 0 ≤ x ∧ x < 32) :
    Calls Tryz.prog 46 #[v] w fun e w' => e = .returned (.int .i64 (maskL xs : Int)) ∧ w = w' := by
  obtain ⟨a, b, off, cap, rfl, hl, ha, hc⟩ := hv
  have hlt : ∀ k, maskL (xs.take k) < 4294967296 := fun k => by
    have := maskL_lt (xs := xs.take k) (n := 32) (fun v hv => hx v (List.mem_of_mem_take hv)); simpa using this
  have HLT := Lib.hid hlt
  clear hlt
  go_enter Tryz.func46, Tryz.ntmps46
  go_wp2
  go_loop [4, 3] (fun i o => ∃ k : Nat, k ≤ xs.length ∧ i = .int .i64 k ∧ o = .int .i64 (maskL (xs.take k) : Int)) (fun i _ => xs.length - (intOf i).toNat)
  case atStart => exact ⟨0, Nat.zero_le _, rfl, by simp [maskL]⟩
  case round =>
    obtain ⟨k, hk, rfl, rfl⟩ := hrel
    by_cases hk2 : k < xs.length
    · have hcell := hc k hk2
      obtain ⟨rfl, hS⟩ := ha (by omega)
      have hxk := hx xs[k] (List.getElem_mem _)
      obtain ⟨x, hxe⟩ := Int.eq_ofNat_of_zero_le hxk.1
      have hml := Lib.hid (maskL_take hk2)
      rw [hxe] at hml hcell hxk
      rw [Int.toNat_natCast] at hml
      have hx32 : x < 32 := by omega
      have hor := i64_or_nat (maskL (xs.take k)) (bit x) (HLT.out k) (bit_lt hx32)
      have hsh := shl_one x hx32
      rw [← hml.out] at hor
      have hmb := HLT.out k
      have hmc := HLT.out (k + 1)
      generalize maskL (xs.take k) = m at *
      generalize hm2 : maskL (xs.take (k + 1)) = m2 at *
      have HM2 := Lib.hid hm2
      clear hm2
      clear hxe hml hxk
      go_wp2
      go_round
      case rel => exact ⟨k + 1, by omega, by go_num, by rw [HM2.out]⟩
      case measure => simp [intOf]; omega
    · go_wp2
      go_ret
      exact ⟨ret_int (by rw [List.take_of_length_le (by omega)]), rfl⟩
end Go.Proofs.YtbpjbjeglcphcaaGreatDoor
