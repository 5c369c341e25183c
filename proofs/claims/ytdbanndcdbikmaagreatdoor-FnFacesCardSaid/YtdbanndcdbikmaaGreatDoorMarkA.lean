/- Marks of an Around, and the looks of a law at it. -/
import Derived.Test.YtdbanndcdbikmaaGreatDoorMark4
namespace Go.Proofs.YtdbanndcdbikmaaGreatDoor
open Go.RowKit
end Go.Proofs.YtdbanndcdbikmaaGreatDoor
