/- The shape of a certificate. No program in sight. -/
import Derived.Test.YtkhkijpkgogncaaKi
import Derived.Test.YtkhkijpkgogncaaUa
namespace Go.Proofs.Ytkhkijpkgogncaa
open Go.RowKit
namespace Sh
abbrev cert : Sh := .cons .int (.cons .int (.cons .int (.cons .str (.cons .int (.cons .int (.cons .int .nil))))))
def toCert (x : cert.T) : Pl.Cert := ⟨x.1, x.2.1, x.2.2.1, ⟨(show List UInt8 from x.2.2.2.1).toArray⟩, x.2.2.2.2.1, x.2.2.2.2.2.1, x.2.2.2.2.2.2.1⟩
theorem cert_is {w : World} {cs : List Value} {x : cert.T} (h : Holds w cert cs x) (hw : cert.Wf x) : cs = certCells (toCert x) ∧ (toCert x).ref.size ≤ 9223372036854775807 := by
  refine ⟨?_, hw.2.2.2.1⟩
  have := Holds.flat cert rfl cs x h
  rw [this]
  rfl
end Sh
end Go.Proofs.Ytkhkijpkgogncaa
