/- ModuleIn and SplitterOf of the reference. -/
import Derived.Test.YtbpjbjeglcphcaaMod
namespace Go.Proofs.Ytbpjbjeglcphcaa
open Go.RowKit

noncomputable def modB (g : List (List Int)) (set : List Int) : Bool := setOkB g set && decide (0 < set.length) && decide (splitterI g (rangeI g.length) set < 0)
noncomputable def splOf (g : List (List Int)) (set : List Int) : Int := if setOkB g set = true then splitterI g (rangeI g.length) set else -1

