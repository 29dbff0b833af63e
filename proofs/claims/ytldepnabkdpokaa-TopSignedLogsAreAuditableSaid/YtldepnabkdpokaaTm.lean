/- Contracts: the reference's proofs. -/
import Derived.Test.YtldepnabkdpokaaTl
namespace Go.Proofs.Ytldepnabkdpokaa
open Go.RowKit

end Go.Proofs.Ytldepnabkdpokaa
