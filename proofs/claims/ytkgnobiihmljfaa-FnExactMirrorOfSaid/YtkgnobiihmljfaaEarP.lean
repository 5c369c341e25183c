/- The program's part: two vertices made no neighbours. -/
import Derived.Test.YtkgnobiihmljfaaEarM
namespace Go.Proofs.Ytkgnobiihmljfaa
open Go.RowKit
end Go.Proofs.Ytkgnobiihmljfaa
