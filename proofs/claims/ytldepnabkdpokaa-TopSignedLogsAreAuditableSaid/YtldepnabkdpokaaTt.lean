/- The law TranslogExtensionsVerify returns true. -/
import Derived.Test.YtldepnabkdpokaaTs
namespace Go.Proofs.Ytldepnabkdpokaa
open Go.RowKit

namespace Pl
theorem msgF_ok {p : List Int} (h : p.length ≤ 64) (hd : ∀ x ∈ p, isDigestB x = true) : msgF p = (0, 0) := by
  rcases logF_cases p with ⟨h1, _⟩ | h1
  · exact h1
  · exfalso
    apply h1
    have hf : p.findIdx? (fun x => !isDigestB x) = none := by
      rw [List.findIdx?_eq_none_iff]
      intro x hx
      simp [hd x hx]
    unfold msgF digF
    rw [if_pos h, hf]
theorem vcoF_prove {xs : List Int} {m : Nat} (hn : xs.length ≤ 64) (h1 : 1 ≤ m) (hm : m ≤ xs.length) (hd : ∀ x ∈ xs, isDigestB x = true) : vcoF (rootS (xs.take m)) (m : Int) (rootS xs) (xs.length : Int) (consS xs m true) = (0, 0) ∧ vcoB (rootS (xs.take m)) (m : Int) (rootS xs) (xs.length : Int) (consS xs m true) = true := by
  have e1 : inB (xs.length : Int) 1 64 = true := inB_true.2 (by omega)
  have e2 : isDigestB (rootS (xs.take m)) = true := rootS_digest fun x hx => hd x (List.mem_of_mem_take hx)
  have e3 : prfF (consS xs m true) = (0, 0) := prfF_ok (consF_length 64 xs m true) (consF_digest 64 xs m true hd)
  have hF : vcoF (rootS (xs.take m)) (m : Int) (rootS xs) (xs.length : Int) (consS xs m true) = (0, 0) := by
    unfold vcoF
    rw [rootS_digest hd, e1, e2, e3]
    simp [fbF]
    omega
  refine ⟨hF, ?_⟩
  unfold vcoB
  rw [hF]
  simp only [Int.toNat_natCast, decide_true, Bool.true_and]
  rw [← ext_same hn h1 hm]
  exact ext_ok hn h1 hm
end Pl
end Go.Proofs.Ytldepnabkdpokaa
