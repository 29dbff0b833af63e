/- Contract: the fault of signatures. -/
import Derived.Test.YtldepnabkdpokaaXb
namespace Go.Proofs.Ytldepnabkdpokaa
open Go.RowKit

theorem pairVals_length (l : List (Int × Int)) : (pairVals l).length = l.length * 2 := by
  induction l with
  | nil => rfl
  | cons s l ih => simp only [pairVals, List.flatMap_cons, List.length_append, List.length_cons, List.length_nil] at *; omega
theorem pairVals_get : ∀ (l : List (Int × Int)) (k : Nat) (h : k < l.length), (pairVals l)[k * 2]? = some (.int .i64 l[k].1) ∧ (pairVals l)[k * 2 + 1]? = some (.int .i64 l[k].2)
  | s :: l, 0, _ => by simp [pairVals]
  | s :: l, k + 1, h => by
    have := pairVals_get l k (by simpa using h)
    have e : pairVals (s :: l) = [.int .i64 s.1, .int .i64 s.2] ++ pairVals l := by simp [pairVals]
    rw [e, show (k + 1) * 2 = k * 2 + 2 by omega, List.getElem?_append_right (by simp), List.getElem?_append_right (by simp)]
    simpa using this

end Go.Proofs.Ytldepnabkdpokaa
