/- The closed example of package signing. -/
import Derived.Test.YtldepnabkdpokaaWf
import Derived.Test.YtldepnabkdpokaaKb
namespace Go.Proofs.Ytldepnabkdpokaa
open Go.RowKit

end Go.Proofs.Ytldepnabkdpokaa
