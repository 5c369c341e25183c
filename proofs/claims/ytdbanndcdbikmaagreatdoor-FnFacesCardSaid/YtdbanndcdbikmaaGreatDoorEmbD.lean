/- Planar systems of a right graph: how many, and the least; plain facts. -/
import Derived.Test.YtdbanndcdbikmaaGreatDoorGroM
import Derived.Test.YtdbanndcdbikmaaGreatDoorLoopL
import Derived.Test.YtdbanndcdbikmaaGreatDoorDistM
import Derived.Test.YtdbanndcdbikmaaGreatDoorEdge
namespace Go.Proofs.YtdbanndcdbikmaaGreatDoor
open Go.RowKit
/-! The number of what is found. -/
def facN : Nat → Nat
  | 0 => 1
  | k + 1 => facN k * max 1 k
def prodN : List (List Nat) → Nat
  | [] => 1
  | l :: t => facN l.length * prodN t
/-! The state of both searches. -/
def stepW (p : Int × List (List Nat)) (R : List (List Nat)) : Int × List (List Nat) := (wrap64 (p.1 + 1), bestStepR p.2 R)
theorem stepW_fold (m : Int) (b : List (List Nat)) : ∀ l : List (List (List Nat)), l.foldl stepW (m, b) = (l.foldl (fun m _ => wrap64 (m + 1)) m, l.foldl bestStepR b)
  | [] => rfl
  | R :: l => by rw [List.foldl_cons, List.foldl_cons, List.foldl_cons]; exact stepW_fold _ _ l
end Go.Proofs.YtdbanndcdbikmaaGreatDoor
