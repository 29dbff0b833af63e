/- The laws TranslogVerifyMatchesSpec and TranslogVerifyConsistencyMatchesSpec return true. -/
import Derived.Test.YtldepnabkdpokaaTo
namespace Go.Proofs.Ytldepnabkdpokaa
open Go.RowKit

theorem quietB {P : Program} {f : FuncId} {args : Array Value} {w : World} {v : Value} (h : Calls P f args w fun e w' => e = .returned v ∧ w = w') : Calls P f args w fun e w' => e = .returned v ∧ Below w.heap.size w w' :=
  h.mono fun _ _ ⟨h1, h2⟩ => ⟨h1, h2 ▸ Below.refl _ _⟩
namespace Pl
theorem fbF_zero {a b c d : Bool} {F : Int × Int} (h : (fbF a b c d F).1 = 0) : a = true ∧ b = true ∧ c = true ∧ d = true ∧ F.1 = 0 := by
  unfold fbF at h
  cases a <;> cases b <;> cases c <;> cases d <;> simp_all
theorem prfF_zero {p : List Int} (h : (prfF p).1 = 0) : prfF p = (0, 0) ∧ p.length ≤ 64 ∧ ∀ x ∈ p, isDigestB x = true := by
  rcases prfF_cases p with h2 | h2
  · exact h2
  · exact absurd h h2
end Pl
end Go.Proofs.Ytldepnabkdpokaa
