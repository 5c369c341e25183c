/- The closure of a set, by the reference and by the program. -/
import Derived.Test.YtplohdnakllbiaaInto
namespace Go.Proofs.Ytplohdnakllbiaa
open Go.RowKit

def lenV : Value → Nat | .slice _ n _ => n | _ => 0
