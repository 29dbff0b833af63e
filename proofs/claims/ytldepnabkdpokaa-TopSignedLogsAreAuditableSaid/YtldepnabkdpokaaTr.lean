/- The law TranslogLeavesAreDetermined returns true. -/
import Derived.Test.YtldepnabkdpokaaTq
namespace Go.Proofs.Ytldepnabkdpokaa
open Go.RowKit

namespace Pl
theorem tvF_zero {root n i leaf : Int} {p : List Int} (h : (tvF root n i leaf p).1 = 0) : tvF root n i leaf p = (0, 0) ∧ isDigestB leaf = true := by
  obtain ⟨ha, hb, hc, hd, hp⟩ := fbF_zero (show (fbF (isDigestB root) (inB n 1 64) (decide (0 ≤ i) && decide (i < n)) (isDigestB leaf) (prfF p)).1 = 0 from h)
  refine ⟨?_, hd⟩
  unfold tvF
  rw [ha, hb, hc, hd, (prfF_zero hp).1]
  rfl
theorem tvB_det {root n i a b : Int} {p : List Int} (h1 : tvB root n i a p = true) (h2 : tvB root n i b p = true) : a = b := by
  unfold tvB at h1 h2
  simp only [Bool.and_eq_true, decide_eq_true_eq] at h1 h2
  exact inclB_leaf _ a b p root (tvF_zero h1.1).2 (tvF_zero h2.1).2 h1.2 h2.2
theorem tvB_split (root n i leaf : Int) (p : List Int) : ((tvF root n i leaf p).1 ≠ 0 ∧ tvB root n i leaf p = false) ∨ (tvF root n i leaf p = (0, 0) ∧ tvB root n i leaf p = false) ∨ (tvF root n i leaf p = (0, 0) ∧ tvB root n i leaf p = true) := by
  by_cases h : (tvF root n i leaf p).1 = 0
  · have h2 := (tvF_zero h).1
    cases hB : tvB root n i leaf p
    · exact .inr (.inl ⟨h2, rfl⟩)
    · exact .inr (.inr ⟨h2, rfl⟩)
  · refine .inl ⟨h, ?_⟩
    unfold tvB
    simp [h]
end Pl
end Go.Proofs.Ytldepnabkdpokaa
