/- Two own rows of numbers that are written; a stack of complete subtrees. No program in sight. -/
import Derived.Test.YtldepnabkdpokaaTj
namespace Go.Proofs.Ytldepnabkdpokaa
open Go.RowKit

theorem heap_setCell_same {w : World} {g k : Nat} {u : Value} {cur : Array Value} {e : TypeId} {fr : Nat × Nat} (h : w.heap[g]? = some (.cells cur e fr)) : (w.setCell ⟨g, k, none⟩ u).heap[g]? = some (.cells (cur.setIfInBounds k u) e fr) := by
  simp only [World.setCell, Array.getElem?_modify, if_true, h]
  rfl
theorem own_set {w : World} {B n cap g k : Nat} {e : TypeId} {xs : List Value} {u : Value} (h : w.ownsRow B e 1 (.slice (some ⟨g, 0, none⟩) n cap) n xs) : (w.setCell ⟨g, k, none⟩ u).ownsRow B e 1 (.slice (some ⟨g, 0, none⟩) n cap) n (xs.set k u) := by
  obtain ⟨h1, h2⟩ := h
  refine ⟨by rw [List.length_set]; exact h1, ?_⟩
  rcases h2 with ⟨h0, _⟩ | ⟨g', cap', cur, hv, hB, hh, hn, hc, hs, ht⟩
  · cases h0
  · cases hv
    refine .inr ⟨g, cap, cur.setIfInBounds k u, rfl, hB, heap_setCell_same hh, hn, hc, by simpa using hs, ?_⟩
    rw [← ht, Array.toList_setIfInBounds, List.take_set]
theorem own_take {w : World} {B n cap g k : Nat} {e : TypeId} {xs : List Value} (h : w.ownsRow B e 1 (.slice (some ⟨g, 0, none⟩) n cap) n xs) (hk : k ≤ n) : w.ownsRow B e 1 (.slice (some ⟨g, 0, none⟩) k cap) k (xs.take k) := by
  obtain ⟨h1, h2⟩ := h
  refine ⟨by rw [List.length_take]; omega, ?_⟩
  rcases h2 with ⟨h0, _⟩ | ⟨g', cap', cur, hv, hB, hh, hn, hc, hs, ht⟩
  · cases h0
  · cases hv
    refine .inr ⟨g, cap, cur, rfl, hB, hh, by omega, hc, hs, ?_⟩
    rw [← ht, List.take_take]
    congr 1
    omega
theorem own_far {w : World} {B n g k : Nat} {e : TypeId} {v u : Value} {xs : List Value} (h : w.ownsRow B e 1 v n xs) (hne : v.ownBlock ≠ some g) : (w.setCell ⟨g, k, none⟩ u).ownsRow B e 1 v n xs := by
  obtain ⟨h1, h2⟩ := h
  refine ⟨h1, ?_⟩
  rcases h2 with h0 | ⟨g', cap', cur, rfl, hB, hh, r⟩
  · exact .inl h0
  · refine .inr ⟨g', cap', cur, rfl, hB, ?_, r⟩
    rw [Below.heap_setCell _ _ _ _ (by intro h; exact hne (by simp [Value.ownBlock, h]))]
    exact hh
theorem own_frozen {w : World} {B n cap g j : Nat} {e : TypeId} {xs : List Value} (h : w.ownsRow B e 1 (.slice (some ⟨g, 0, none⟩) n cap) n xs) : w.frozen? ⟨g, j, none⟩ = false := by
  rcases h.2 with ⟨h0, _⟩ | ⟨g', cap', cur, hv, hB, hh, _⟩
  · cases h0
  · cases hv
    unfold World.frozen?
    simp [hh]

/-- The stack s in two rows: roots in v3, sizes in v4; the newest is last. -/
structure Two (w : World) (B : Nat) (v3 v4 : Value) (s : List (Int × Nat)) : Prop where
  r : w.ownsRow B 3 1 v3 s.length (intVals (s.map fun p => p.1).reverse)
  z : w.ownsRow B 3 1 v4 s.length (intVals (s.map fun p => (p.2 : Int)).reverse)
  ne : ∀ g, v3.ownBlock = some g → v4.ownBlock ≠ some g
theorem Two.drewN {w : World} {B : Nat} {v3 v4 : Value} {s : List (Int × Nat)} (h : Two w B v3 v4 s) (n : Nat) : Two (w.drewN n) B v3 v4 s := ⟨h.r, h.z, h.ne⟩
theorem Two.drew {w : World} {B : Nat} {v3 v4 : Value} {s : List (Int × Nat)} (h : Two w B v3 v4 s) : Two w.drew B v3 v4 s := ⟨h.r, h.z, h.ne⟩
theorem Two.slices {w : World} {B : Nat} {v3 v4 : Value} {s : List (Int × Nat)} (h : Two w B v3 v4 s) (hs : 0 < s.length) :
    ∃ g3 c3 g4 c4, v3 = .slice (some ⟨g3, 0, none⟩) s.length c3 ∧ v4 = .slice (some ⟨g4, 0, none⟩) s.length c4 ∧ g3 ≠ g4 ∧ B ≤ g3 ∧ B ≤ g4 ∧ g3 < w.heap.size ∧ g4 < w.heap.size ∧
      (∀ j u, (intVals (s.map fun p => p.1).reverse)[j]? = some u → w.cell? ⟨g3, j, none⟩ = some u) ∧ (∀ j u, (intVals (s.map fun p => (p.2 : Int)).reverse)[j]? = some u → w.cell? ⟨g4, j, none⟩ = some u) ∧
      (∀ j, w.frozen? ⟨g3, j, none⟩ = false) ∧ (∀ j, w.frozen? ⟨g4, j, none⟩ = false) ∧ s.length ≤ c3 ∧ s.length ≤ c4 ∧ c3 ≤ maxLen ∧ c4 ≤ maxLen := by
  obtain ⟨o3, c3, rfl⟩ := own_slice h.r
  obtain ⟨o4, c4, rfl⟩ := own_slice h.z
  obtain ⟨g3, rfl, b3, l3, k3⟩ := own_cell h.r hs
  obtain ⟨g4, rfl, b4, l4, k4⟩ := own_cell h.z hs
  have s3 := Sl.own h.r
  have s4 := Sl.own h.z
  exact ⟨g3, c3, g4, c4, rfl, rfl, fun e => h.ne g3 rfl (by rw [e]; rfl), b3, b4, l3, l4, k3, k4, fun j => own_frozen h.r, fun j => own_frozen h.z, s3.hcap, s4.hcap, s3.hmax, s4.hmax⟩
theorem own_grown {w w' : World} {B n : Nat} {e : TypeId} {v : Value} {xs : List Value} {row : Option Nat} (h : w.ownsRow B e 1 v n xs) (hg : w.grownBy w' row) (hne : ∀ g, v.ownBlock = some g → row ≠ some g) : w'.ownsRow B e 1 v n xs := by
  obtain ⟨h1, h2⟩ := h
  refine ⟨h1, ?_⟩
  rcases h2 with h0 | ⟨g, cap, cur, rfl, hB, hh, r⟩
  · exact .inl h0
  · refine .inr ⟨g, cap, cur, rfl, hB, ?_, r⟩
    rw [hg.block g (Array.getElem?_eq_some_iff.1 hh).1 (fun e => hne g rfl e.symm)]
    exact hh
theorem own_lt {w : World} {B n : Nat} {e : TypeId} {v : Value} {xs : List Value} (h : w.ownsRow B e 1 v n xs) {g : Nat} (hg : v.ownBlock = some g) : g < w.heap.size := by
  rcases h.2 with ⟨rfl, _⟩ | ⟨g', cap, cur, rfl, hB, hh, r⟩
  · cases hg
  · cases hg
    exact (Array.getElem?_eq_some_iff.1 hh).1
/-- Behind the first of two appends. -/
theorem Two.push1 {w w2 : World} {B : Nat} {u3 u4 : Value} {s : List (Int × Nat)} (h : Two w B u3 u4 s) (hg : w.grownBy w2 u3.ownBlock) : w2.ownsRow B 3 1 u4 s.length (intVals (s.map fun p => (p.2 : Int)).reverse) :=
  own_grown h.z hg (fun g e e2 => h.ne g e2 e)
/-- Behind both. -/
theorem Two.push {w w2 w3 : World} {B : Nat} {u3 u4 v3 v4 : Value} {s : List (Int × Nat)} {x : Int} (h : Two w B u3 u4 s) (_ : w.grownBy w2 u3.ownBlock) (o3 : w2.ownsRow B 3 1 v3 (s.length + 1) (intVals (s.map fun p => p.1).reverse ++ [.int .i64 x])) (f3 : v3.ownBlock = u3.ownBlock ∨ v3.ownBlock = some (w.heap.size + 1)) (_ : w.heap.size < w2.heap.size)
    (hg2 : w2.grownBy w3 u4.ownBlock) (o4 : w3.ownsRow B 3 1 v4 (s.length + 1) (intVals (s.map fun p => (p.2 : Int)).reverse ++ [.int .i64 1])) (f4 : v4.ownBlock = u4.ownBlock ∨ v4.ownBlock = some (w2.heap.size + 1)) : Two w3 B v3 v4 ((x, 1) :: s) := by
  have hne : ∀ g, v3.ownBlock = some g → u4.ownBlock ≠ some g := by
    intro g e e2
    rcases f3 with f | f
    · exact h.ne g (f ▸ e) e2
    · have := own_lt h.z e2
      rw [f] at e
      cases e
      omega
  refine ⟨?_, ?_, fun g e e2 => ?_⟩
  · have := own_grown o3 hg2 hne
    simpa [intVals] using this
  · simpa [intVals] using o4
  · rcases f4 with f | f
    · exact hne g e (f ▸ e2)
    · have := own_lt o3 e
      rw [f] at e2
      cases e2
      omega
theorem rev_two {α : Type} (x y u : α) (t : List α) : (((x :: y :: t).reverse).set t.length u).take (t.length + 1) = (u :: t).reverse := by
  simp only [List.reverse_cons, List.append_assoc, List.cons_append, List.nil_append]
  rw [List.set_append_right _ _ (by simp)]
  simp only [List.length_reverse, Nat.sub_self, List.set_cons_zero]
  rw [List.take_append]
  simp
  exact List.take_of_length_le (by simp)
theorem intVals_set (l : List Int) (k : Nat) (x : Int) : (intVals l).set k (.int .i64 x) = intVals (l.set k x) := by simp [intVals, List.map_set]
theorem intVals_take (l : List Int) (k : Nat) : (intVals l).take k = intVals (l.take k) := by simp [intVals]
theorem Two.merge {w : World} {B g3 c3 g4 c4 : Nat} {a b : Int} {m k : Nat} {s : List (Int × Nat)} (h : Two w B (.slice (some ⟨g3, 0, none⟩) (s.length + 2) c3) (.slice (some ⟨g4, 0, none⟩) (s.length + 2) c4) ((a, m) :: (b, k) :: s)) (hne : g3 ≠ g4) (x : Int) :
    Two ((w.setCell ⟨g4, s.length, none⟩ (.int .i64 (2 * (k : Int)))).setCell ⟨g3, s.length, none⟩ (.int .i64 x)) B (.slice (some ⟨g3, 0, none⟩) (s.length + 1) c3) (.slice (some ⟨g4, 0, none⟩) (s.length + 1) c4) ((x, 2 * k) :: s) := by
  have hr := h.r
  have hz := h.z
  simp only [List.map_cons] at hr hz
  refine ⟨?_, ?_, fun g e => ?_⟩
  · have h1 := own_far (g := g4) (k := s.length) (u := .int .i64 (2 * (k : Int))) hr (by simp [Value.ownBlock, hne])
    have h2 := own_take (own_set (k := s.length) (u := .int .i64 x) h1) (k := s.length + 1) (by omega)
    rw [intVals_set, intVals_take] at h2
    have e := rev_two a b x (s.map fun p => p.1)
    rw [List.length_map] at e
    rw [e] at h2
    exact h2
  · have h1 := own_take (own_set (k := s.length) (u := .int .i64 (2 * (k : Int))) hz) (k := s.length + 1) (by omega)
    have h2 := own_far (g := g3) (k := s.length) (u := .int .i64 x) h1 (by simp [Value.ownBlock, Ne.symm hne])
    rw [intVals_set, intVals_take] at h2
    have e := rev_two (m : Int) (k : Int) (2 * (k : Int)) (s.map fun p => (p.2 : Int))
    rw [List.length_map] at e
    rw [e] at h2
    exact h2
  · cases e
    simp [Value.ownBlock, Ne.symm hne]
theorem Two.merge2 {w : World} {B g3 c3 g4 c4 n : Nat} {a b : Int} {m k : Nat} {s : List (Int × Nat)} (h : Two w B (.slice (some ⟨g3, 0, none⟩) (n + 2) c3) (.slice (some ⟨g4, 0, none⟩) (n + 2) c4) ((a, m) :: (b, k) :: s)) (hn : s.length = n) (hne : g3 ≠ g4) (x : Int) :
    Two ((w.setCell ⟨g4, n, none⟩ (.int .i64 (2 * (k : Int)))).setCell ⟨g3, n, none⟩ (.int .i64 x)) B (.slice (some ⟨g3, 0, none⟩) (n + 1) c3) (.slice (some ⟨g4, 0, none⟩) (n + 1) c4) ((x, 2 * k) :: s) := by
  subst hn
  exact h.merge hne x
end Go.Proofs.Ytldepnabkdpokaa
