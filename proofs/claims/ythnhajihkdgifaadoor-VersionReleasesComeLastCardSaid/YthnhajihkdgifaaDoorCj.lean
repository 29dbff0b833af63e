/- Versions as they come in: their memory. -/
import Derived.Test.YthnhajihkdgifaaDoorKi
import Derived.Test.YthnhajihkdgifaaDoorBg
namespace Go.Proofs.YthnhajihkdgifaaDoor
open Go.RowKit
namespace Sh
def toStrs (l : List (List UInt8)) : List ByteArray := l.map fun b => ⟨b.toArray⟩
abbrev ver : Sh := .cons .int (.cons .int (.cons .int (.cons (.sl .str) .nil)))
def toVer (x : ver.T) : Pl.Ver := ⟨x.1, x.2.1, x.2.2.1, toStrs x.2.2.2.1⟩
theorem Holds.strs {w : World} {v : Value} {l : List (List UInt8)} (h : Holds w (.sl .str) [v] l) : ∃ oa cap, v = .slice oa (toStrs l).length cap ∧ Sl w oa (toStrs l).length cap 1 (strVals (toStrs l)) := by
  obtain ⟨oa, cap, h1, h2⟩ := Holds.sl (e := .str) rfl (by decide) h
  have e : l.flatMap (Sh.flat .str) = strVals (toStrs l) := by
    clear h h1 h2
    induction l with
    | nil => rfl
    | cons a r ih => exact congrArg (List.cons (Value.string ⟨a.toArray⟩)) ih
  have hl : (toStrs l).length = l.length := by simp [toStrs]
  rw [e] at h2
  rw [hl]
  exact ⟨oa, cap, h1, h2⟩
theorem strs_ss {l : List (List UInt8)} (h : Sh.Wf (.sl .str) l) : ∀ s ∈ toStrs l, s.size ≤ 9223372036854775807 := fun s hs => by
  obtain ⟨b, hb, rfl⟩ := List.mem_map.1 hs
  have := h.2 b hb
  exact this
theorem ver_is {w : World} {cs : List Value} {x : ver.T} (h : Holds w ver cs x) (hw : ver.Wf x) : ∃ a c, cs = [.int .i64 (toVer x).maj, .int .i64 (toVer x).min, .int .i64 (toVer x).pat, .slice a (toVer x).pre.length c] ∧ VIn w (toVer x) a c := by
  obtain ⟨n, m, p, l, u⟩ := x
  obtain ⟨c1, c2, rfl, _, h1, c3, c4, rfl, _, h2, c5, c6, rfl, _, h3, c7, c8, rfl, _, h4, h5⟩ := h
  obtain ⟨_, _, _, w4, _⟩ := hw
  have h1 : c1 = [.int .i64 n] := h1
  have h2 : c3 = [.int .i64 m] := h2
  have h3 : c5 = [.int .i64 p] := h3
  have h5 : c8 = [] := h5
  have k5 : ∃ v, c7 = [v] := by obtain ⟨oa, cap, h, _⟩ := h4; exact ⟨_, h⟩
  obtain ⟨v, rfl⟩ := k5
  obtain ⟨oa, cap, rfl, hs⟩ := Holds.strs h4
  subst h1 h2 h3 h5
  exact ⟨oa, cap, rfl, hs, strs_ss w4⟩
end Sh
end Go.Proofs.YthnhajihkdgifaaDoor
