/- Contracts: the closed example of package translog holds; the first bad condition. -/
import Derived.Test.YtldepnabkdpokaaTn
import Derived.Test.YtldepnabkdpokaaXf
namespace Go.Proofs.Ytldepnabkdpokaa
open Go.RowKit

end Go.Proofs.Ytldepnabkdpokaa
