/- Texts of ranges in plain words: splitting at separators, terms, alternatives. No program in sight. -/
import Derived.Test.YtolfgcoalihmgaaGreatDoorZMDa
import Derived.Test.YtolfgcoalihmgaaGreatDoorZMPo
import Derived.Test.YtolfgcoalihmgaaGreatDoorZMPq
import Derived.Test.YtolfgcoalihmgaaGreatDoorZMQd
import Derived.Test.YtolfgcoalihmgaaGreatDoorYPp
import Derived.Test.YtolfgcoalihmgaaGreatDoorYQb
import Derived.Lib.Join
namespace Go.Proofs.YtolfgcoalihmgaaGreatDoor
namespace Pl
theorem bars_no {s : List UInt8} (h : ∀ j, j ≤ s.length → Lib.occAt s barS j = false) : Lib.split s barS = [s] := by
 unfold Lib.split; rw [Lib.count_miss (Lib.index_none h)]; rfl
/-! Terms -/
/-! Alternatives -/
end Pl
end Go.Proofs.YtolfgcoalihmgaaGreatDoor
