/- Contracts of package threshold and its reference: thresholds, faults of signatures. -/
import Derived.Test.YtldepnabkdpokaaXa
namespace Go.Proofs.Ytldepnabkdpokaa
open Go.RowKit

end Go.Proofs.Ytldepnabkdpokaa
