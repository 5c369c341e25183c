/- Distances inside a set, by the program: layer by layer. -/
import Derived.Test.YtbpjbjeglcphcaaDistM
import Derived.Test.YtbpjbjeglcphcaaWide2
import Derived.Test.YtbpjbjeglcphcaaReach
import Derived.Test.YtbpjbjeglcphcaaReach2
namespace Go.Proofs.Ytbpjbjeglcphcaa
open Go.RowKit
theorem bits_natsI3 (m : Nat) : bitsI m = natsI (bitsN m) := by simp [bitsI, natsI]
theorem pop_more {a b : Nat} (ha : a < 4294967296) (hb : b < 4294967296) (h : ∀ i, a.testBit i = true → b.testBit i = true) {u : Nat} (hu : b.testBit u = true) (hn : a.testBit u = false) : popN a + 1 ≤ popN b := by
  have hu32 := bit_lt_of (n := 32) hb hu
  rw [← popN_add ha hu32 hn]
  refine popN_le ?_ hb fun i hi => ?_
  · exact Nat.or_lt_two_pow (n := 32) ha (bit_lt hu32)
  · rw [Nat.testBit_or, testBit_bit, Bool.or_eq_true] at hi
    rcases hi with hi | hi
    · exact h i hi
    · have : u = i := by simpa using hi
      subst this; exact hu
theorem some_bit {m : Nat} (h : m ≠ 0) : ∃ u, m.testBit u = true := Nat.exists_testBit_of_ne_zero h
