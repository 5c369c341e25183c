/- How a vertex folds away: the program's foldOf, foldAway; the reference's l19Less, l20At. -/
import Derived.Test.YtbpjbjeglcphcaaFoldM
import Derived.Test.YtbpjbjeglcphcaaReach2
namespace Go.Proofs.Ytbpjbjeglcphcaa
open Go.RowKit
def triV (f : Tri) : Value := .agg #[.int .i64 f.a, .int .i64 f.b, .int .i64 f.c]
def rowF (v : Nat) (L : List Nat) : Option Tri :=
  if 2 < L.length then none
  else some ⟨v, if 0 < L.length then (L.getD 0 0 : Nat) else -1, if 1 < L.length then (L.getD 1 0 : Nat) else -1⟩
theorem foldF_row (a : List Nat) (left v : Nat) : foldF a left v = rowF v (nearN a left v) := rfl
def TriP (f : Option Tri) (w : World) (e : Ending) (w' : World) : Prop := e = .returned (.tuple #[triV (f.getD ⟨0, 0, 0⟩), .bool f.isSome]) ∧ Below w.heap.size w w'
