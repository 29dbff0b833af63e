/- Slices of flat elements: from their shape to the words of the walks. No program in sight. -/
import Derived.Test.YthnhajihkdgifaaDoorKh
namespace Go.Proofs.YthnhajihkdgifaaDoor
open Go.RowKit
namespace Sh

def isFlat : Sh → Bool
  | .sl _ => false
  | .cons f r => f.isFlat && r.isFlat
  | _ => true
def flat : (s : Sh) → s.T → List Value
  | .int, n => [.int .i64 n]
  | .byte, b => [.int .u8 ((show UInt8 from b).toNat : Int)]
  | .bool, b => [.bool b]
  | .str, l => [.string ⟨(show List UInt8 from l).toArray⟩]
  | .cons f r, x => flat f (show f.T × r.T from x).1 ++ flat r (show f.T × r.T from x).2
  | _, _ => []
theorem flat_length : ∀ (s : Sh), s.isFlat = true → ∀ x, (flat s x).length = s.size
  | .int, _, _ => rfl
  | .byte, _, _ => rfl
  | .bool, _, _ => rfl
  | .str, _, _ => rfl
  | .nil, _, _ => rfl
  | .cons f r, h, x => by
    simp only [isFlat, Bool.and_eq_true] at h
    simp only [flat, size, List.length_append, flat_length f h.1, flat_length r h.2]
  | .sl _, h, _ => by cases h
theorem Holds.flat {w : World} : ∀ (s : Sh), s.isFlat = true → ∀ (cs : List Value) (x : s.T), Holds w s cs x → cs = Sh.flat s x
  | .int, _, _, _, h => h
  | .byte, _, _, _, h => h
  | .bool, _, _, _, h => h
  | .str, _, _, _, h => h
  | .nil, _, _, _, h => h
  | .sl _, hf, _, _, _ => by cases hf
  | .cons f r, hf, cs, x, h => by
    simp only [isFlat, Bool.and_eq_true] at hf
    obtain ⟨c1, c2, h1, _, h3, h4⟩ := h
    rw [h1, Holds.flat f hf.1 _ _ h3, Holds.flat r hf.2 _ _ h4]
    rfl

theorem flatMap_get {α β : Type} (g : α → List β) (n : Nat) (hn : 0 < n) : ∀ (l : List α), (∀ x ∈ l, (g x).length = n) → ∀ (j : Nat) (u : β), (l.flatMap g)[j]? = some u → ∃ (i : Nat) (h : i < l.length) (k : Nat), j = i * n + k ∧ (g l[i])[k]? = some u
  | [], _, _, _, h => by simp at h
  | x :: l, hl, j, u, h => by
    have hx := hl x (by simp)
    rw [List.flatMap_cons] at h
    by_cases hj : j < n
    · rw [List.getElem?_append_left (by omega)] at h
      exact ⟨0, by simp, j, by omega, h⟩
    · rw [List.getElem?_append_right (by omega), hx] at h
      obtain ⟨i, hi, k, h1, h2⟩ := flatMap_get g n hn l (fun y hy => hl y (by simp [hy])) _ u h
      refine ⟨i + 1, by simpa using hi, k, ?_, by simpa using h2⟩
      rw [Nat.add_mul]
      omega
theorem Holds.sl {w : World} {e : Sh} {v : Value} {l : List e.T} (hf : e.isFlat = true) (hpos : 0 < e.size) (h : Holds w (.sl e) [v] l) : ∃ oa cap, v = .slice oa l.length cap ∧ Sl w oa l.length cap e.size (l.flatMap (Sh.flat e)) := by
  obtain ⟨oa, cap, h1, h2, h3, h4⟩ := h
  have hlen : (l.flatMap (Sh.flat e)).length = l.length * e.size := by
    rw [List.length_flatMap]
    have : l.map (fun x => (Sh.flat e x).length) = List.replicate l.length e.size := by
      rw [List.eq_replicate_iff]
      refine ⟨by simp, fun b hb => ?_⟩
      obtain ⟨x, _, rfl⟩ := List.mem_map.1 hb
      exact flat_length e hf x
    rw [this]
    simp
  refine ⟨oa, cap, by simpa using h1, hlen, h2, h3, ?_⟩
  rcases h4 with h4 | ⟨b, off, g1, g2, g3⟩
  · left
    rw [show l = [] from h4]
    rfl
  · right
    refine ⟨b, off, g1, g2, fun j u hu => ?_⟩
    obtain ⟨i, hi, k, rfl, hk⟩ := flatMap_get (Sh.flat e) e.size hpos l (fun x _ => flat_length e hf x) j u hu
    obtain ⟨es, k1, k2, k3⟩ := g3 i hi
    have := k2 k u (by rw [Holds.flat e hf _ _ k3]; exact hk)
    rwa [Nat.add_assoc] at this

abbrev pair : Sh := .cons .int (.cons .int .nil)
def toPair (x : pair.T) : Int × Int := (x.1, x.2.1)
theorem Holds.ints {w : World} {v : Value} {l : List Int} (h : Holds w (.sl .int) [v] l) : ∃ oa cap, v = .slice oa l.length cap ∧ Sl w oa l.length cap 1 (intVals l) := by
  obtain ⟨oa, cap, h1, h2⟩ := Holds.sl rfl (by decide) h
  refine ⟨oa, cap, h1, ?_⟩
  have e : List.flatMap (Sh.flat .int) l = intVals l := by
    unfold intVals
    rw [List.map_eq_flatMap]
    rfl
  rw [e] at h2
  exact h2
theorem Holds.bytes {w : World} {v : Value} {l : List UInt8} (h : Holds w (.sl .byte) [v] l) : ∃ oa cap, v = .slice oa l.length cap ∧ Sl w oa l.length cap 1 (byteVals l) := by
  obtain ⟨oa, cap, h1, h2⟩ := Holds.sl rfl (by decide) h
  refine ⟨oa, cap, h1, ?_⟩
  have e : List.flatMap (Sh.flat .byte) l = byteVals l := by
    unfold byteVals
    rw [List.map_eq_flatMap]
    rfl
  rw [e] at h2
  exact h2
theorem Holds.pairs {w : World} {v : Value} {l : List pair.T} (h : Holds w (.sl pair) [v] l) : ∃ (sg : List (Int × Int)) (oa : Option Addr) (cap : Nat), sg.length = l.length ∧ v = .slice oa sg.length cap ∧ Sl w oa sg.length cap 2 (pairVals sg) := by
  obtain ⟨oa, cap, h1, h2⟩ := Holds.sl rfl (by decide) h
  refine ⟨l.map toPair, oa, cap, by simp, by rw [List.length_map]; exact h1, ?_⟩
  have e : List.flatMap (Sh.flat pair) l = pairVals (l.map toPair) := by
    unfold pairVals
    rw [List.flatMap_map]
    rfl
  rw [e] at h2
  rw [List.length_map]
  exact h2
end Sh
end Go.Proofs.YthnhajihkdgifaaDoor
