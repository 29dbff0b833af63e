/- Contract: the reference's consistency proofs. -/
import Derived.Test.YtldepnabkdpokaaTm
namespace Go.Proofs.Ytldepnabkdpokaa
open Go.RowKit

end Go.Proofs.Ytldepnabkdpokaa
