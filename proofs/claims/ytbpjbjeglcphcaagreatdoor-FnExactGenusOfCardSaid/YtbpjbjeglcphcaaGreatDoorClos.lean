/- The closure of a set, by the reference and by the program. -/
import Derived.Test.YtbpjbjeglcphcaaGreatDoorInto
namespace Go.Proofs.YtbpjbjeglcphcaaGreatDoor
open Go.RowKit

def lenV : Value → Nat | .slice _ n _ => n | _ => 0
