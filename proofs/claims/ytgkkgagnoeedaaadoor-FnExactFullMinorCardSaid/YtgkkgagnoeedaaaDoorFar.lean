/- How far from a vertex inside a set, by the reference's list. -/
import Derived.Test.YtgkkgagnoeedaaaDoorDist2
import Derived.Test.YtgkkgagnoeedaaaDoorWide1
namespace Go.Proofs.YtgkkgagnoeedaaaDoor
open Go.RowKit
