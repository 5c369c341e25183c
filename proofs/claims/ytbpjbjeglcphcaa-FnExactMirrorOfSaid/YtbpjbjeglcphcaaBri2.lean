/- A graph without an edge, built by the reference. -/
import Derived.Test.YtbpjbjeglcphcaaBri1
import Derived.Test.YtbpjbjeglcphcaaFold
import Derived.Test.YtbpjbjeglcphcaaFit2
namespace Go.Proofs.Ytbpjbjeglcphcaa
open Go.RowKit
