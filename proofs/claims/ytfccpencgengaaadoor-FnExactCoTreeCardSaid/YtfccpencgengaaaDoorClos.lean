/- The closure of a set, by the reference and by the program. -/
import Derived.Test.YtfccpencgengaaaDoorInto
namespace Go.Proofs.YtfccpencgengaaaDoor
open Go.RowKit

def lenV : Value → Nat | .slice _ n _ => n | _ => 0
