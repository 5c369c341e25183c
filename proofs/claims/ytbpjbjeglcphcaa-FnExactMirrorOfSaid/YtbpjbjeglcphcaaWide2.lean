/- Widths: the reference's number of a set, marks, table and what is behind. -/
import Derived.Test.YtbpjbjeglcphcaaWide1
import Derived.Test.YtbpjbjeglcphcaaReach2
import Derived.Test.YtbpjbjeglcphcaaSets
namespace Go.Proofs.Ytbpjbjeglcphcaa
open Go.RowKit
def hiN (m v : Nat) : Nat := m / 2 ^ v
theorem hiN_step (m v : Nat) : hiN m v = 2 * hiN m (v + 1) + if m.testBit v = true then 1 else 0 := half_step m v
theorem hiN_top {m n : Nat} (h : m < 2 ^ n) : hiN m n = 0 := Nat.div_eq_of_lt h
theorem hiN_zero (m : Nat) : hiN m 0 = m := by simp [hiN]
theorem hiN_le (m v : Nat) : hiN m v ≤ m := Nat.div_le_self _ _
theorem Row.ofOwn {w : World} {B b n c : Nat} {E : TypeId} {xs : List Value} {f : Nat → Value} (h : Own w B E 1 (.slice (some ⟨b, 0, none⟩) n c) n xs) (hf : ∀ i (hi : i < xs.length), xs[i] = f i) : Row w b n f := fun i hi => by
  have hl : xs.length = n := by have := h.1; omega
  have h1 := World.ownsRow.cellAt h i (by omega)
  have h2 := World.ownsRow.frozenAt h i
  refine ⟨?_, h2⟩
  rw [h1, List.getElem?_eq_getElem (by omega), hf]
