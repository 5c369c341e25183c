/- A list of rows that is built by append and only read: the array is the call's own, the rows lie anywhere else. -/
import Derived.Test.YtdbanndcdbikmaaGreatDoorLoopL
import Derived.Test.YtdbanndcdbikmaaGreatDoorLaws
namespace Go.Proofs.YtdbanndcdbikmaaGreatDoor
open Go.RowKit
/-- Blocks from B on, off the array of u. -/
def OffB (w : World) (B : Nat) (u : Value) (b : Nat) : Prop := B ≤ b ∧ b < w.heap.size ∧ u.ownBlock ≠ some b
def OwnS (w : World) (B : Nat) (EO : TypeId) (u : Value) (g : List (List Int)) : Prop :=
  ∃ vs : List Value, vs.length = g.length ∧ Own w B EO 1 u g.length vs ∧ ∀ i (h : i < g.length) (h2 : i < vs.length), SlI (OffB w B u) w .i64 vs[i] g[i]
/-- Old blocks off the array of u, as u grows. -/
def Off1 (w : World) (u : Value) (b : Nat) : Prop := b < w.heap.size ∧ u.ownBlock ≠ some b
end Go.Proofs.YtdbanndcdbikmaaGreatDoor
