/- The shape of events. No program in sight. -/
import Derived.Test.YtldepnabkdpokaaKi
import Derived.Test.YtldepnabkdpokaaKu
namespace Go.Proofs.Ytldepnabkdpokaa
open Go.RowKit
namespace Sh
abbrev quad : Sh := .cons .int (.cons .int (.cons .int (.cons .int .nil)))
def toQuad (x : quad.T) : Pl.Ev := ⟨x.1, x.2.1, x.2.2.1, x.2.2.2.1⟩
theorem quad_is {w : World} {cs : List Value} {x : quad.T} (h : Holds w quad cs x) : cs = quadCells (toQuad x) := by
  have := Holds.flat quad rfl cs x h
  rw [this]
  rfl
theorem quad_wf {x : quad.T} (h : quad.Wf x) : (Lit.int .i64 (toQuad x).key).wf = true := by
  have h2 := h.2.1
  have h3 : -9223372036854775808 ≤ (toQuad x).key ∧ (toQuad x).key ≤ 9223372036854775807 := h2
  exact WalkArith.wf_i64 (by omega)
theorem Holds.quads {w : World} {v : Value} {l : List quad.T} (h : Holds w (.sl quad) [v] l) (hw : (Sh.sl quad).Wf l) : ∃ (es : List Pl.Ev) (oa : Option Addr) (cap : Nat), es.length = l.length ∧ v = .slice oa es.length cap ∧ Sl w oa es.length cap 4 (quadVals es) ∧ ∀ e ∈ es, (Lit.int .i64 e.key).wf = true := by
  obtain ⟨oa, cap, h1, h2⟩ := Holds.sl rfl (by decide) h
  refine ⟨l.map toQuad, oa, cap, by simp, by rw [List.length_map]; exact h1, ?_, ?_⟩
  · have e : List.flatMap (Sh.flat quad) l = quadVals (l.map toQuad) := by
      unfold quadVals
      rw [List.flatMap_map]
      rfl
    rw [e] at h2
    rw [List.length_map]
    exact h2
  · intro e he
    obtain ⟨x, hx, rfl⟩ := List.mem_map.1 he
    exact quad_wf (hw.2 x hx)
end Sh
end Go.Proofs.Ytldepnabkdpokaa
