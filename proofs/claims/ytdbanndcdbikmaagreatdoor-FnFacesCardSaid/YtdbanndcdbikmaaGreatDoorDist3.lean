/- Sets by their numbers; DistancesKept: what both decide. -/
import Derived.Test.YtdbanndcdbikmaaGreatDoorDistM
import Derived.Test.YtdbanndcdbikmaaGreatDoorWide2
import Derived.Test.YtdbanndcdbikmaaGreatDoorReach2
import Derived.Test.YtdbanndcdbikmaaGreatDoorQueue
import Derived.Test.YtdbanndcdbikmaaGreatDoorLoopL
import Derived.Test.YtdbanndcdbikmaaGreatDoorMod3
namespace Go.Proofs.YtdbanndcdbikmaaGreatDoor
open Go.RowKit
/-- How many have no distance yet. -/
def negD (D : Nat → Int) (n : Nat) : Nat := ((List.range n).filter fun u => decide (D u < 0)).length
def negW (w : World) (ob n : Nat) : Nat := ((List.range n).filter fun u => match w.cell? ⟨ob, u, none⟩ with | some (.int _ x) => decide (x < 0) | _ => false).length
def lowL (m v : Nat) : List Nat := (List.range v).filter m.testBit
noncomputable def smallD (g : List (List Int)) : Bool := gokB g && decide (g.length ≤ 8)
/-- Inside s the distance of v and u is what it is in the whole. -/
def SameD (a : List Nat) (n s v u : Nat) : Prop := ∀ D D', IsDist a s v n D → IsDist a (firstN n) v n D' → D u = D' u
def KeptD (a : List Nat) (n s : Nat) : Prop := reachN a s (Lib.ctz 32 s) = s → ∀ v, s.testBit v = true → ∀ u, s.testBit u = true → SameD a n s v u
open Classical in
noncomputable def keptB (g : List (List Int)) : Bool := smallD g && decide (∀ s, 0 < s → s < 2 ^ g.length → KeptD (netsL g) g.length s)
end Go.Proofs.YtdbanndcdbikmaaGreatDoor
