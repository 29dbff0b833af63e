/- Lists of elements of several cells: from memory to one list of cells, and back. No program in sight. -/
import Derived.Test.YtjfkmbehckdjlaaGreatDoorMKl
namespace Go.Proofs.YtjfkmbehckdjlaaGreatDoor
open Go.RowKit

/-- The cells cs are those of the elements xs, sz cells each. -/
structure Elems {α : Type} (P : α → List Value → Prop) (sz : Nat) (xs : List α) (cs : List Value) : Prop where
  len : cs.length = xs.length * sz
  each : ∀ i (h : i < xs.length), P xs[i] ((cs.drop (i * sz)).take sz)
theorem Elems.nil {α : Type} {P : α → List Value → Prop} {sz : Nat} : Elems P sz ([] : List α) [] := ⟨by simp, fun i h => absurd h (by simp)⟩
theorem Elems.mono {α : Type} {P Q : α → List Value → Prop} {sz : Nat} {xs : List α} {cs : List Value} (h : Elems P sz xs cs) (hPQ : ∀ x c, P x c → Q x c) : Elems Q sz xs cs := ⟨h.len, fun i hi => hPQ _ _ (h.each i hi)⟩
theorem Elems.append {α : Type} {P : α → List Value → Prop} {sz : Nat} {xs ys : List α} {cs ds : List Value} (h : Elems P sz xs cs) (g : Elems P sz ys ds) : Elems P sz (xs ++ ys) (cs ++ ds) := by
  refine ⟨by rw [List.length_append, List.length_append, h.len, g.len, Nat.add_mul], fun i hi => ?_⟩
  by_cases hx : i < xs.length
  · rw [List.getElem_append_left hx]
    have := h.each i hx
    have hle : i * sz + sz ≤ cs.length := by
      rw [h.len, ← Nat.succ_mul]
      exact Nat.mul_le_mul_right _ hx
    rw [List.drop_append_of_le_length (by omega), List.take_append_of_le_length (by rw [List.length_drop]; omega)]
    exact this
  · have hx : xs.length ≤ i := by omega
    have hi2 : i - xs.length < ys.length := by rw [List.length_append] at hi; omega
    rw [List.getElem_append_right hx]
    have := g.each (i - xs.length) hi2
    have e : i * sz = cs.length + (i - xs.length) * sz := by rw [h.len, ← Nat.add_mul]; congr 1; omega
    rw [e, List.drop_append]
    rw [List.drop_of_length_le (by omega), List.nil_append]
    rw [show cs.length + (i - xs.length) * sz - cs.length = (i - xs.length) * sz by omega]
    exact this
theorem Elems.one {α : Type} {P : α → List Value → Prop} {sz : Nat} {x : α} {cs : List Value} (h : P x cs) (hl : cs.length = sz) : Elems P sz [x] cs := by
  refine ⟨by simp [hl], fun i hi => ?_⟩
  have : i = 0 := by simpa using hi
  subst this
  rw [Nat.zero_mul, List.drop_zero, List.take_of_length_le (by omega)]
  exact h
/-- Out of memory. -/
theorem Elems.of {α : Type} {P : α → List Value → Prop} {sz : Nat} (hP : ∀ x cs, P x cs → cs.length = sz) {w : World} {b : Nat} : ∀ (xs : List α) (off : Nat), (∀ i (h : i < xs.length), ∃ cs, P xs[i] cs ∧ ∀ j u, cs[j]? = some u → w.cell? ⟨b, off + i * sz + j, none⟩ = some u) →
    ∃ cs, Elems P sz xs cs ∧ ∀ j u, cs[j]? = some u → w.cell? ⟨b, off + j, none⟩ = some u
  | [], _, _ => ⟨[], Elems.nil, fun j u h => by simp at h⟩
  | x :: xs, off, h => by
    obtain ⟨c0, h1, h2⟩ := h 0 (by simp)
    have hl := hP _ _ h1
    obtain ⟨cs, g1, g2⟩ := Elems.of hP (w := w) (b := b) xs (off + sz) fun i hi => by
      obtain ⟨ci, k1, k2⟩ := h (i + 1) (by simpa using hi)
      refine ⟨ci, by simpa using k1, fun j u hu => ?_⟩
      have := k2 j u hu
      rwa [show off + (i + 1) * sz + j = off + sz + i * sz + j by rw [Nat.succ_mul]; omega] at this
    refine ⟨c0 ++ cs, Elems.append (Elems.one h1 hl) g1, fun j u hu => ?_⟩
    by_cases hj : j < c0.length
    · rw [List.getElem?_append_left hj] at hu
      have := h2 j u hu
      simpa using this
    · rw [List.getElem?_append_right (by omega)] at hu
      have := g2 (j - c0.length) u hu
      rwa [show off + sz + (j - c0.length) = off + j by omega] at this
/-- Back into memory. -/
theorem Elems.cells {α : Type} {P : α → List Value → Prop} {sz : Nat} {xs : List α} {cs : List Value} (h : Elems P sz xs cs) {w : World} {b off : Nat} (hc : ∀ j u, cs[j]? = some u → w.cell? ⟨b, off + j, none⟩ = some u) :
    ∀ i (hi : i < xs.length), ∃ es, P xs[i] es ∧ ∀ j u, es[j]? = some u → w.cell? ⟨b, off + i * sz + j, none⟩ = some u := by
  intro i hi
  refine ⟨_, h.each i hi, fun j u hu => ?_⟩
  rw [List.getElem?_take] at hu
  split at hu
  · rw [List.getElem?_drop] at hu
    have := hc _ u hu
    rwa [← Nat.add_assoc] at this
  · cases hu
end Go.Proofs.YtjfkmbehckdjlaaGreatDoor
