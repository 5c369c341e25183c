/- What can be reached, and the parts: the program's. -/
import Derived.Test.YtbpjbjeglcphcaaReachM
namespace Go.Proofs.Ytbpjbjeglcphcaa
open Go.RowKit
theorem parts_less {a : List Nat} {W : Nat} (hw : W < 4294967296) (h0 : W ≠ 0) : andN W (reachN a W (Lib.ctz 32 W)) < W := by
  have hc := ctz_bit h0 hw
  have hr := reachN_lt a W (Lib.ctz 32 W)
  refine Nat.lt_of_le_of_ne (andN_le _ _) fun e => ?_
  have h1 := testBit_andN hw hr (Lib.ctz 32 W)
  rw [e, hc, reach_start hw (bit_lt_of (n := 32) hw hc)] at h1
  cases h1
theorem reach_lt2 {a : List Nat} {wi v n : Nat} (hn : n ≤ 16) (hw : wi < 2 ^ n) (hv : v < n) : reachN a wi v < 2 ^ n := by
  have hw32 : wi < 4294967296 := Nat.lt_of_lt_of_le hw (by have := pow_le16 hn; omega)
  apply lt_bits
  intro i hi
  have := reach_least hw32 (show v < 32 by omega) (M := wi ||| bit v) (fun x _ u hu _ => by rw [Nat.testBit_or, hu]; rfl) (by rw [Nat.testBit_or, testBit_bit]; simp) hi
  rw [Nat.testBit_or, testBit_bit, Bool.or_eq_true] at this
  rcases this with h | h
  · exact bit_lt_of hw h
  · have : v = i := by simpa using h
    omega
