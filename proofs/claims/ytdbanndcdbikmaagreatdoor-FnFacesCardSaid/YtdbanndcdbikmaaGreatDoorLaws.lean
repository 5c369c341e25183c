/- The laws' own helpers: sizes, copies, comparisons. -/
import Derived.Test.YtdbanndcdbikmaaGreatDoorOwn
namespace Go.Proofs.YtdbanndcdbikmaaGreatDoor
open Go.RowKit
/-- What a size leaves: less than nothing, or a number that bounds what was counted. -/
def SzPost (small : Prop) (left : Int) (w : World) (e : Ending) (w' : World) : Prop := ∃ r : Int, e = .returned (.int .i64 r) ∧ -1 ≤ r ∧ r ≤ left ∧ (0 ≤ r → small) ∧ Below w.heap.size w w'
def SmallTo (g : List (List Int)) (left : Int) (k : Nat) : Prop := (g.length : Int) ≤ left ∧ ∀ i (h : i < g.length), i < k → (g[i].length : Int) ≤ left
def SmallR (g : List (List Int)) (left : Int) : Prop := SmallTo g left g.length
theorem elRows : Elem Tryz.prog 24 36 1 24 (.slice none 0 0) := ⟨Tryz.underlying24, by kernel_rfl, rfl, by omega, by omega⟩
end Go.Proofs.YtdbanndcdbikmaaGreatDoor
