/- Contracts of small helpers of the laws. -/
import Derived.Test.YtldepnabkdpokaaWi
namespace Go.Proofs.Ytldepnabkdpokaa
open Go.RowKit

end Go.Proofs.Ytldepnabkdpokaa
