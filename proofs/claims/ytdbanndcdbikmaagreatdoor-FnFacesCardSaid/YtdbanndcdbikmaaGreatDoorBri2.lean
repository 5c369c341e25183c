/- A graph without an edge, built by the reference. -/
import Derived.Test.YtdbanndcdbikmaaGreatDoorLoopL
import Derived.Test.YtdbanndcdbikmaaGreatDoorDistM
import Derived.Test.YtdbanndcdbikmaaGreatDoorEdge
import Derived.Test.YtdbanndcdbikmaaGreatDoorOwnS
import Derived.Test.YtdbanndcdbikmaaGreatDoorMark4
import Derived.Test.YtdbanndcdbikmaaGreatDoorReach2
import Derived.Test.YtdbanndcdbikmaaGreatDoorFit4
namespace Go.Proofs.YtdbanndcdbikmaaGreatDoor
open Go.RowKit
noncomputable def cutG (g : List (List Int)) (u z : Nat) : List (List Int) := (cutN (netsL g) u z).map bitsI
noncomputable def bridgeB (g : List (List Int)) (u v : Nat) : Bool := !(reachN (cutN (netsL g) u v) (firstN g.length) u).testBit v
noncomputable def isBr (g : List (List Int)) (e : List Int) : Bool := bridgeB g (e.getD 0 0).toNat (e.getD 1 0).toNat
noncomputable def bridgesL (g : List (List Int)) : List (List Int) := (edgesL g).filter (isBr g)
/-- The chosen ones among the first k. -/
def chosen (p : List Int → Bool) (E : List (List Int)) (k : Nat) : List Nat := (List.range k).filter fun i => p (E.getD i [])
def triV (f : Tri) : Value := .agg #[.int .i64 f.a, .int .i64 f.b, .int .i64 f.c]
def rowF (v : Nat) (L : List Nat) : Option Tri :=
  if 2 < L.length then none
  else some ⟨v, if 0 < L.length then (L.getD 0 0 : Nat) else -1, if 1 < L.length then (L.getD 1 0 : Nat) else -1⟩
def TriP (f : Option Tri) (w : World) (e : Ending) (w' : World) : Prop := e = .returned (.tuple #[triV (f.getD ⟨0, 0, 0⟩), .bool f.isSome]) ∧ Below w.heap.size w w'
