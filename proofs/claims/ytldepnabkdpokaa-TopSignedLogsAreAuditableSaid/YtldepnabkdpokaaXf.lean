/- Contracts: acceptance; a list that has a number. -/
import Derived.Test.YtldepnabkdpokaaXe
import Derived.Test.YtldepnabkdpokaaMg
namespace Go.Proofs.Ytldepnabkdpokaa
open Go.RowKit

namespace Pl
theorem thrF_cases (xs : List Int) (need : Int) : thrF xs need = (0, 0) ∧ keysF xs = (0, 0) ∧ Keys xs ∧ 1 ≤ need ∧ need ≤ (xs.length : Int) ∨ (thrF xs need).1 ≠ 0 := by
  unfold thrF
  rcases keysF_cases xs with ⟨e, hk⟩ | h
  · rw [e, if_pos rfl]
    by_cases hn : inB need 1 (xs.length : Int) = true
    · rw [if_pos hn]
      have r := inB_true.1 hn
      exact .inl ⟨rfl, rfl, hk, r.1, r.2⟩
    · rw [if_neg hn]; exact .inr (by decide)
  · rw [if_neg h]; exact .inr h
end Pl

end Go.Proofs.Ytldepnabkdpokaa
