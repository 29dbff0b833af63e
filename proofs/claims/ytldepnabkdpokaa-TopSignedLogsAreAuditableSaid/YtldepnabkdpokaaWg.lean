/- The closed example of package signing. -/
import Derived.Test.YtldepnabkdpokaaMg
import Derived.Test.YtldepnabkdpokaaKb
namespace Go.Proofs.Ytldepnabkdpokaa
open Go.RowKit

end Go.Proofs.Ytldepnabkdpokaa
