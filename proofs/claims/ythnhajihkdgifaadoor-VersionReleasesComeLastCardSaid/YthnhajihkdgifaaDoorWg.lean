/- The closed example of package signing. -/
import Derived.Test.YthnhajihkdgifaaDoorWf
import Derived.Test.YthnhajihkdgifaaDoorKb
namespace Go.Proofs.YthnhajihkdgifaaDoor
open Go.RowKit

end Go.Proofs.YthnhajihkdgifaaDoor
