/- The size of a set as a word. -/
import Derived.Test.YtpdlcnpmljfclaaDoorInto2
import Derived.Lib.BitFns
namespace Go.Proofs.YtpdlcnpmljfclaaDoor
open Go.RowKit
set_option maxRecDepth 20000 in
theorem ones_tab : (⟨(([0, 1, 1, 2, 1, 2, 2, 3, 1, 2, 2, 3, 2, 3, 3, 4, 1, 2, 2, 3, 2, 3, 3, 4, 2, 3, 3, 4, 3, 4, 4, 5, 1, 2, 2, 3, 2, 3, 3, 4, 2, 3, 3, 4, 3, 4, 4, 5, 2, 3, 3, 4, 3, 4, 4, 5, 3, 4, 4, 5, 4, 5, 5, 6].append
  [1, 2, 2, 3, 2, 3, 3, 4, 2, 3, 3, 4, 3, 4, 4, 5, 2, 3, 3, 4, 3, 4, 4, 5, 3, 4, 4, 5, 4, 5, 5, 6, 2, 3, 3, 4, 3, 4, 4, 5, 3, 4, 4, 5, 4, 5, 5, 6, 3, 4, 4, 5, 4, 5, 5, 6, 4, 5, 5, 6, 5, 6, 6, 7]).append
  ([1, 2, 2, 3, 2, 3, 3, 4, 2, 3, 3, 4, 3, 4, 4, 5, 2, 3, 3, 4, 3, 4, 4, 5, 3, 4, 4, 5, 4, 5, 5, 6, 2, 3, 3, 4, 3, 4, 4, 5, 3, 4, 4, 5, 4, 5, 5, 6, 3, 4, 4, 5, 4, 5, 5, 6, 4, 5, 5, 6, 5, 6, 6, 7].append
  [2, 3, 3, 4, 3, 4, 4, 5, 3, 4, 4, 5, 4, 5, 5, 6, 3, 4, 4, 5, 4, 5, 5, 6, 4, 5, 5, 6, 5, 6, 6, 7, 3, 4, 4, 5, 4, 5, 5, 6, 4, 5, 5, 6, 5, 6, 6, 7, 4, 5, 5, 6, 5, 6, 6, 7, 5, 6, 6, 7, 6, 7, 7, 8])).toArray⟩ : ByteArray) = Lib.pop8tab := rfl
theorem pop8_fact (q : Nat) (h : q < 256) : ∃ c : Nat, Lib.pop8 (q : Int) = (c : Int) ∧ c ≤ 8 ∧ c = Lib.onesCount q := by
  have e := Lib.pop8_eq ⟨q, h⟩
  have l := Lib.onesCount_le8 ⟨q, h⟩
  exact ⟨_, e, l, rfl⟩
theorem pop_split : ∀ (a : Fin 256), ((List.range 8).filter a.val.testBit).length = Lib.onesCount a.val := by decide +kernel
theorem pop_bytes (m : Nat) (h1 : m < 65536) : (bitsI m).length = Lib.onesCount (m / 256) + Lib.onesCount (m % 256) := by
  have a := pop_split ⟨m / 256, by omega⟩
  have b := pop_split ⟨m % 256, by omega⟩
  simp only at a b
  rw [← a, ← b]
  have hr : List.range 32 = List.range 8 ++ ((List.range 8).map (· + 8) ++ List.range' 16 16) := by decide
  simp only [bitsI, List.length_map]
  unfold bitsN
  rw [hr, List.filter_append, List.filter_append, List.length_append, List.length_append, List.filter_map, List.length_map]
  have h3 : (List.range' 16 16).filter m.testBit = [] := List.filter_eq_nil_iff.2 fun x hx => by
    have := List.mem_range'_1.1 hx
    rw [Nat.testBit_lt_two_pow (Nat.lt_of_lt_of_le h1 (by have := Nat.pow_le_pow_right (n := 2) (by decide) this.1; simpa using this))]
    simp
  have h4 : (List.range 8).filter m.testBit = (List.range 8).filter (m % 256).testBit := by
    apply List.filter_congr
    intro x hx
    have hx := List.mem_range.1 hx
    have := Nat.testBit_mod_two_pow m 8 x
    simp only [hx, decide_true, Bool.true_and] at this
    exact this.symm
  have h5 : (List.range 8).filter (m.testBit ∘ (· + 8)) = (List.range 8).filter (m / 256).testBit := by
    apply List.filter_congr
    intro x _
    rw [Function.comp, show m / 256 = m / 2 ^ 8 from rfl, Nat.testBit_div_two_pow, Nat.add_comm]
  rw [h3, h4, h5]
  simp; omega
set_option maxHeartbeats 1000000 in
theorem ones_any (m : Nat) (w : World) (h1 : m < 65536) : Calls Tryd.prog 128 #[.int .u32 (m : Int)] w fun e w' => e = .returned (.int .i64 ((bitsI m).length : Int)) ∧ Drawn w w' := by
  have e1 : (m : Int) / 16777216 = 0 := by omega
  have e2 : (m : Int) / 65536 = 0 := by omega
  have hq : (m : Int) / 256 = ((m / 256 : Nat) : Int) := by omega
  have ha := u32_and_nat (m / 256) 255 (by omega) (by omega)
  have hb := u32_and_nat m 255 (by omega) (by omega)
  rw [show (255 : Nat) = 2 ^ 8 - 1 from rfl, Nat.and_two_pow_sub_one_eq_mod, Nat.mod_eq_of_lt (by omega)] at ha
  rw [show (255 : Nat) = 2 ^ 8 - 1 from rfl, Nat.and_two_pow_sub_one_eq_mod] at hb
  have hr0 : m % 2 ^ 8 < 256 := Nat.mod_lt _ (by decide)
  have hq0 : m / 256 < 256 := by omega
  have hm := pop_bytes m h1
  have hz : Lib.pop8 0 = 0 := by decide +kernel
  rw [show m % 256 = m % 2 ^ 8 from rfl] at hm
  generalize m % 2 ^ 8 = r at *
  generalize m / 256 = q at *
  obtain ⟨c, hc1, hc2, hc3⟩ := pop8_fact q hq0
  obtain ⟨d, hd1, hd2, hd3⟩ := pop8_fact r hr0
  rw [← hc3, ← hd3] at hm
  have HM := Lib.hid hm
  clear hc3 hd3 hm
  have hz2 : bits BinOp.and IntKind.u32 0 255 = 0 := by decide +kernel
  have ha' : bits BinOp.and IntKind.u32 (q : Int) 255 = q := ha
  have hb' : bits BinOp.and IntKind.u32 (m : Int) 255 = r := hb
  clear ha hb
  have i1 : (0 : Int) ≤ q := by omega
  have i2 : (q : Int) ≤ 255 := by omega
  have i3 : (0 : Int) ≤ r := by omega
  have i4 : (r : Int) ≤ 255 := by omega
  have w0 : IntKind.u8.wrap 0 = 0 := by decide
  have w1 : IntKind.u8.wrap (c : Int) = c := by simp [IntKind.wrap, go_sem]; omega
  have w2 : IntKind.u8.wrap ((c : Int) + d) = (c : Int) + d := by simp [IntKind.wrap, go_sem]; omega
  have w3 : IntKind.i64.wrap ((c : Int) + d) = (c : Int) + d := by simp [IntKind.wrap, go_sem]; omega
  go_enter Tryd.func128, Tryd.ntmps128
  simp only [ones_tab]
  go_wp2
  go_quiet (fail)
  go_wp2
  go_ret
  exact ⟨ret_int (by rw [HM.out]; omega), ⟨_, rfl⟩⟩
theorem size_any (m : Nat) (w : World) (h1 : m < 65536) : Calls Tryd.prog 99 #[.int .u32 (m : Int)] w fun e w' => e = .returned (.int .i64 ((bitsI m).length : Int)) ∧ Drawn w w' := by
  go_enter Tryd.func99, Tryd.ntmps99
  go_wp2_with (go_at_call 128; refine (ones_any _ _ h1).mono ?_; rintro e w' ⟨rfl, hd⟩)
  go_ret
  exact ⟨rfl, hd⟩
end Go.Proofs.YtpdlcnpmljfclaaDoor
