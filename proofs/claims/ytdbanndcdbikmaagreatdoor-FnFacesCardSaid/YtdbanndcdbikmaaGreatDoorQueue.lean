/- Slices of a call's own that are cut at the front: queues. -/
import Derived.Test.YtdbanndcdbikmaaGreatDoorOwn
import Derived.Laws.IdiomCopy
import Derived.ArgAppend
namespace Go.Proofs.YtdbanndcdbikmaaGreatDoor
open Go.RowKit
/-- v is a slice of the call's own (its block from B on), wherever it begins in its array; one cell an element. -/
def OwnQ (w : World) (B : Nat) (v : Value) (xs : List Value) : Prop :=
  ∃ g off cap, v = .slice (some ⟨g, off, none⟩) xs.length cap ∧ B ≤ g ∧ g < w.heap.size ∧ xs.length ≤ cap ∧ cap ≤ maxLen ∧ (∀ j, j < cap → (w.cell? ⟨g, off + j, none⟩).isSome = true) ∧
    (∀ j, w.frozen? ⟨g, j, none⟩ = false) ∧ ∀ j (h : j < xs.length), w.cell? ⟨g, off + j, none⟩ = some xs[j]
end Go.Proofs.YtdbanndcdbikmaaGreatDoor
