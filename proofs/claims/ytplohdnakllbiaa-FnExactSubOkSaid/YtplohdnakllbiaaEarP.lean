/- The program's part: two vertices made no neighbours. -/
import Derived.Test.YtplohdnakllbiaaEarM
namespace Go.Proofs.Ytplohdnakllbiaa
open Go.RowKit
end Go.Proofs.Ytplohdnakllbiaa
