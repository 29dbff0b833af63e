/- The law TranslogProofsVerify returns true. -/
import Derived.Test.YtldepnabkdpokaaTr
namespace Go.Proofs.Ytldepnabkdpokaa
open Go.RowKit

namespace Pl
theorem prfF_ok {p : List Int} (h : p.length ≤ 64) (hd : ∀ x ∈ p, isDigestB x = true) : prfF p = (0, 0) := by
  have hf : p.findIdx? (fun x => !isDigestB x) = none := by
    rw [List.findIdx?_eq_none_iff]
    intro x hx
    simp [hd x hx]
  unfold prfF digF
  rw [if_pos h, hf]
theorem tvF_prove {xs : List Int} {i : Nat} {x : Int} (hn : xs.length ≤ 64) (hi : i < xs.length) (hd : ∀ x ∈ xs, isDigestB x = true) (hx : xs[i]? = some x) : tvF (rootS xs) (xs.length : Int) (i : Int) x (proveS xs i) = (0, 0) ∧ tvB (rootS xs) (xs.length : Int) (i : Int) x (proveS xs i) = true := by
  have h1 : inB (xs.length : Int) 1 64 = true := inB_true.2 (by omega)
  have h2 : isDigestB x = true := hd x (List.mem_of_getElem? hx)
  have h3 : prfF (proveS xs i) = (0, 0) := prfF_ok (Nat.le_trans (prove_length hn hi) (by omega)) (proveF_digest _ xs i hd)
  have hF : tvF (rootS xs) (xs.length : Int) (i : Int) x (proveS xs i) = (0, 0) := by
    unfold tvF
    rw [rootS_digest hd, h1, h2, h3]
    simp [fbF, hi]
  refine ⟨hF, ?_⟩
  unfold tvB
  rw [hF]
  simp only [Int.toNat_natCast, decide_true, Bool.true_and]
  rw [← inc_same hn hi, incS_ok]
  have h := prove_ok xs.length xs i rfl hn hi
  rw [List.getD_eq_getElem?_getD, hx] at h
  exact h
end Pl
end Go.Proofs.Ytldepnabkdpokaa
