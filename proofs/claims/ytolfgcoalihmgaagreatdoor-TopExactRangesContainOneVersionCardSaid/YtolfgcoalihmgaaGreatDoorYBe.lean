/- Contracts: the order of identifiers, by the program and by the reference; lists of strings compared. -/
import Derived.Test.YtolfgcoalihmgaaGreatDoorZMBf
import Derived.Test.YtolfgcoalihmgaaGreatDoorZMKb
import Derived.Test.YtolfgcoalihmgaaGreatDoorZMKe
import Derived.Test.YtolfgcoalihmgaaGreatDoorZMPo
import Derived.Test.YtolfgcoalihmgaaGreatDoorZMPq
import Derived.Test.YtolfgcoalihmgaaGreatDoorYWb
import Derived.Test.YtolfgcoalihmgaaGreatDoorYPp
import Derived.Test.YtolfgcoalihmgaaGreatDoorYKe
namespace Go.Proofs.YtolfgcoalihmgaaGreatDoor
open Go.RowKit
theorem strVals_append (l m : List ByteArray) : strVals (l ++ m) = strVals l ++ strVals m := by simp [strVals]
namespace Pl
end Pl
end Go.Proofs.YtolfgcoalihmgaaGreatDoor
