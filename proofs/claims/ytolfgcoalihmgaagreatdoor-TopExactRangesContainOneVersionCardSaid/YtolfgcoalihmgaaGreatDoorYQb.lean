/- The faults of ranges in plain words. No program in sight. -/
import Derived.Test.YtolfgcoalihmgaaGreatDoorZMDa
import Derived.Test.YtolfgcoalihmgaaGreatDoorZMPo
import Derived.Test.YtolfgcoalihmgaaGreatDoorZMPq
import Derived.Test.YtolfgcoalihmgaaGreatDoorYPp
namespace Go.Proofs.YtolfgcoalihmgaaGreatDoor
namespace Pl
theorem stepI_zero {r : List Ivl} {k : Nat} {h : k < r.length} (h1 : r[k].Ok) (h2 : ∀ h0 : 0 < k, Sep (r[k - 1]'(by omega)) r[k]) : stepI r k h = 0 := by
 unfold stepI
 rw [if_neg (fun e => e (chkI_ok.2 h1))]
 by_cases h0 : 0 < k
 · rw [dif_pos h0, badI_iff.2 (h2 h0), if_neg Bool.false_ne_true]
 · rw [dif_neg h0]
theorem steps_of_can {r : List Ivl} (h : Can r) : ∀ j (hj : j < r.length), stepI r j hj = 0 := fun j hj =>
 stepI_zero (h.ok _ (List.getElem_mem hj)) fun h0 => List.pairwise_iff_getElem.1 h.sep (j - 1) j (by omega) hj (by omega)
theorem rng_can {r : List Ivl} (h : r.length ≤ 12) (hc : Can r) : rngF r = (0, 0) := by
 unfold rngF
 rw [if_neg (by omega)]
 rcases stepsF_cases r _ 0 rfl with ⟨h1, -⟩ | h1
 · exact h1
 · refine absurd ?_ h1
   have key : ∀ n k, n = r.length - k → stepsF r k = (0, 0) := by
    intro n
    induction n with
    | zero => intro k e; rw [stepsF, dif_neg (by omega)]
    | succ n ih => intro k e; rw [stepsF, dif_pos (by omega), if_pos (steps_of_can hc k (by omega)), ih (k + 1) (by omega)]
   rw [key _ 0 rfl]
end Pl
end Go.Proofs.YtolfgcoalihmgaaGreatDoor
