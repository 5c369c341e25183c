/- The closure of a set, by the reference and by the program. -/
import Derived.Test.YtfkdhlmigbkefaaDoorInto
namespace Go.Proofs.YtfkdhlmigbkefaaDoor
open Go.RowKit

def lenV : Value → Nat | .slice _ n _ => n | _ => 0
