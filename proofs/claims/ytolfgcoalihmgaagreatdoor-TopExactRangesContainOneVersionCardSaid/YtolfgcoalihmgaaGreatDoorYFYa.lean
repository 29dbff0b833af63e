/- The law TopExactRangesContainOneVersion, proved: no condition. -/
import Derived.Test.YtolfgcoalihmgaaGreatDoorYFYar
import Derived.Test.YtolfgcoalihmgaaGreatDoorRows
import Derived.Test.YtolfgcoalihmgaaGreatDoorTie
import Derived.Test.YtolfgcoalihmgaaGreatDoorCards
import Derived.WalkKit
import Derived.ProofKit
import Derived.OpenShut
import Derived.ShutString
import Derived.ChangeOld
import Derived.Below
import Derived.Lay
import Derived.SevenTiedAt
import Derived.Stop.Joined
namespace Go.Proofs.YtolfgcoalihmgaaGreatDoor.topExactRangesContainOneVersion
open Go.ChangeShapes Go.WideShapes Go.ChangeAt Go.RowKit
open Go.ChangeMaps (open_string shut_string)
theorem proved : Rows.TopExactRangesContainOneVersionCardSaid :=
 Claim7.holds_tied_plain_at .later [] [.data, .data, .data, .data, .sentinel, .sentinel, .pinned] true (true, "f4e4b98353697d295555dfc18437d77344737f648b074e04539bf2dd355ea977") true row (fun _ h => by cases h) (by as_aux_lemma => kernel_rfl) (fun _ h => by cases h) topExactRangesContainOneVersion_row_tie rfl ⟨rfl, rfl⟩ (by as_aux_lemma => kernel_rfl) rfl
  (fun f fn hf hfn => by
    obtain rfl : f = 3 := Option.some.inj ((show Tryz.prog.funcNamed "changeforge/changeforgetop.TopExactRangesContainOneVersion" = some 3 by as_aux_lemma => kernel_rfl).symm.trans hf) |>.symm
    obtain rfl : fn = Tryz.f3 := (Option.some.inj (Tryz.func3.symm.trans hfn)).symm
    exact ⟨by as_aux_lemma => kernel_rfl, fun j t ht => by
     rw [Tryz.params3] at ht
     have hm : t ∈ [24] := by have := Array.mem_of_getElem? ht; simp at this ⊢; omega
     have hall : ([24].all fun u => !Tryz.prog.wantsStandIn u) = true := by as_aux_lemma => kernel_rfl
     exact (show Tryz.prog.wantsStandIn t = false by simpa using List.all_eq_true.1 hall t hm)⟩)
  (by as_aux_lemma => kernel_rfl)
#print axioms proved
end Go.Proofs.YtolfgcoalihmgaaGreatDoor.topExactRangesContainOneVersion
