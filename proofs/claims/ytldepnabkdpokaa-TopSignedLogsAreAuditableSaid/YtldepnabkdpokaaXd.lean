/- Contract: the reference's signers. -/
import Derived.Test.YtldepnabkdpokaaXc
namespace Go.Proofs.Ytldepnabkdpokaa
open Go.RowKit

namespace Pl
def signedBy (l : List UInt8) (k : Int) (s : Int × Int) : Bool := s.1 == k && s.2 == signS k l
theorem hasSigned_eq (l : List UInt8) (sg : List (Int × Int)) (k : Int) : hasSigned l sg k = sg.any (signedBy l k) := rfl
theorem any_take_succ {α : Type} (p : α → Bool) (xs : List α) (j : Nat) (h : j < xs.length) : (xs.take (j + 1)).any p = ((xs.take j).any p || p xs[j]) := by
  rw [List.take_succ_eq_append_getElem h, List.any_append]
  simp
theorem signers_take (xs : List Int) (l : List UInt8) (sg : List (Int × Int)) (k : Nat) (h : k < xs.length) : signers (xs.take (k + 1)) l sg = signers (xs.take k) l sg ++ (if hasSigned l sg xs[k] = true then [xs[k]] else []) := by
  unfold signers
  rw [List.take_succ_eq_append_getElem h, List.filter_append]
  congr 1
  by_cases hs : hasSigned l sg xs[k] = true <;> simp [hs]
theorem signers_le (xs : List Int) (l : List UInt8) (sg : List (Int × Int)) (k : Nat) : (signers (xs.take k) l sg).length ≤ k := Nat.le_trans (List.length_filter_le _ _) (List.length_take_le _ _)
end Pl

end Go.Proofs.Ytldepnabkdpokaa
