/- Contracts: the next version, by the reference; small helpers of the laws. -/
import Derived.Test.YtolfgcoalihmgaaGreatDoorZMBf
import Derived.Test.YtolfgcoalihmgaaGreatDoorZMBj
import Derived.Test.YtolfgcoalihmgaaGreatDoorZMKb
import Derived.Test.YtolfgcoalihmgaaGreatDoorZMKe
import Derived.Test.YtolfgcoalihmgaaGreatDoorZMPo
import Derived.Test.YtolfgcoalihmgaaGreatDoorZMPq
import Derived.Test.YtolfgcoalihmgaaGreatDoorYKa
import Derived.Test.YtolfgcoalihmgaaGreatDoorYBe
namespace Go.Proofs.YtolfgcoalihmgaaGreatDoor
open Go.RowKit
namespace Pl
theorem next_len (v : Ver) : (verNext v).pre.length = v.pre.length + 1 := by unfold verNext; simp
theorem next_ss {v : Ver} (h : ∀ s ∈ v.pre, s.size ≤ 9223372036854775807) : ∀ s ∈ (verNext v).pre, s.size ≤ 9223372036854775807 := fun s hs => by
 rcases List.mem_append.1 hs with h1 | h1
 · exact h s h1
 · rw [List.mem_singleton.1 h1]; decide
end Pl
end Go.Proofs.YtolfgcoalihmgaaGreatDoor
