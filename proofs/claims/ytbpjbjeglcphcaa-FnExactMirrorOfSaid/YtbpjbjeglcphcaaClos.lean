/- The closure of a set, by the reference and by the program. -/
import Derived.Test.YtbpjbjeglcphcaaInto
namespace Go.Proofs.Ytbpjbjeglcphcaa
open Go.RowKit

def lenV : Value → Nat | .slice _ n _ => n | _ => 0
