/- More plain laws: a slice of bytes turned into a string. -/
import Derived.Test.YthnhajihkdgifaaDoorMg
namespace Go.Proofs.YthnhajihkdgifaaDoor
open Go.RowKit

theorem push_data (s : ByteArray) (b : UInt8) : (s.push b).data = s.data.push b := rfl
theorem foldl_bytes (l : List UInt8) : ∀ s : ByteArray, ((l.map (fun b => (b.toNat : Int))).foldl (fun r n => r.push (UInt8.ofNat n.toNat)) s) = ⟨s.data ++ l.toArray⟩ := by
  induction l with
  | nil => intro s; simp
  | cons b l ih =>
    intro s
    simp only [List.map_cons, List.foldl_cons]
    rw [ih]
    congr 1
    rw [push_data]
    simp

theorem run_loadCells {P : Program} {w : World} (a : Addr) (cs : List Value) (n : Nat) (hn : cs.length = n) (h : ∀ j u, cs[j]? = some u → w.cell? (a.add j) = some u) : (loadCells a n).run P w = .ok cs.toArray w := by
  have := run_firstCells_some (P := P) w 1 n a n n cs (by omega) h
  simpa [Builtin.firstCells] using this

theorem run_b2s {P : Program} {src dst e : TypeId} (hs : P.underlying src = some (.slice e)) (he : P.underlying e = some (.int .u8)) (hd : P.underlying dst = some .string)
    {w : World} {oa : Option Addr} {cap : Nat} {l : List UInt8} (h : Sl w oa l.length cap 1 (byteVals l)) : (convert src dst (.slice oa l.length cap)).run P w = .ok (.string ⟨l.toArray⟩) w := by
  rw [run_convert_bytes_string w src dst e oa _ cap hs he hd]
  cases oa with
  | none =>
    rcases h.mem with h0 | ⟨b, off, h1, _⟩
    · have hl : l = [] := by simpa [byteVals] using h0
      subst hl
      rfl
    · cases h1
  | some a =>
    have hc : ∀ j u, (byteVals l)[j]? = some u → w.cell? (a.add j) = some u := by
      rcases h.mem with h0 | ⟨b, off, h1, _, hc⟩
      · intro j u hu; rw [h0] at hu; simp at hu
      · injection h1 with h1
        subst h1
        intro j u hu
        rw [addr_add]
        exact hc j u hu
    have hr := run_loadCells (P := P) a (byteVals l) l.length (byteVals_length l) hc
    rw [run_bytesToString w a l.length cap (l.map fun b => (b.toNat : Int)) (by rw [hr]; simp [byteVals]), foldl_bytes]
    simp

/-- A slice over a new block. -/
theorem Sl.fresh {w : World} {C : List Value} {t : TypeId} {k n cap sz : Nat} (hk : k = w.heap.size) (hl : C.length = n * sz) (hcap : n ≤ cap) (hm : cap ≤ maxLen) : Sl (w.alloc (.cells C.toArray t)) (some ⟨k, 0, none⟩) n cap sz C := by
  subst hk
  exact ⟨hl, hcap, hm, .inr ⟨w.heap.size, 0, rfl, by simp, fun j u hu => by simp [hu]⟩⟩

theorem frozen_setCell {w : World} {a b : Addr} {v : Value} : (w.setCell a v).frozen? b = w.frozen? b := by
  by_cases h : b.block = a.block
  · simp only [World.frozen?, World.setCell, Array.getElem?_modify, h, if_true]
    cases w.heap[a.block]? with
    | none => rfl
    | some o => cases o <;> rfl
  · exact World.frozen?_of_block (Below.heap_setCell _ _ _ _ h)

theorem Box2.set {w : World} {r : Nat} {x y : Value} (h : Box2 w r x y) (x' y' : Value) : Box2 ((w.setCell ⟨r, 0, none⟩ x').setCell ⟨r, 1, none⟩ y') r x' y' := by
  have e1 : (w.setCell ⟨r, 0, none⟩ x').cell? ⟨r, 1, none⟩ = some y := by rw [World.cell?_setCell_other _ _ _ _ (by simp)]; exact h.c1
  have e0 : (w.setCell ⟨r, 0, none⟩ x').cell? ⟨r, 0, none⟩ = some x' := World.cell?_setCell_same _ _ _ h.c0
  refine ⟨?_, World.cell?_setCell_same _ _ _ e1, ?_, ?_, ?_⟩
  · rw [World.cell?_setCell_other _ _ _ _ (by simp)]; exact e0
  · rw [frozen_setCell, frozen_setCell]; exact h.f0
  · rw [frozen_setCell, frozen_setCell]; exact h.f1
  · simpa using h.lt

theorem Box2.drew {w : World} {r : Nat} {x y : Value} (h : Box2 w r x y) : Box2 w.drew r x y := h.below (B := w.heap.size) ((Below.refl _ _).drew) h.lt
theorem Sl.drew {w : World} {oa : Option Addr} {n cap sz : Nat} {cs : List Value} (h : Sl w oa n cap sz cs) : Sl w.drew oa n cap sz cs := h.below ((Below.refl _ _).drew) (Nat.le_refl _)

theorem Box2.other {w : World} {r r' : Nat} {x y : Value} (h : Box2 w r' x y) (hne : r ≠ r') (x' y' : Value) : Box2 ((w.setCell ⟨r, 0, none⟩ x').setCell ⟨r, 1, none⟩ y') r' x y := by
  refine ⟨?_, ?_, ?_, ?_, ?_⟩
  · rw [World.cell?_setCell_other _ _ _ _ (by simp), World.cell?_setCell_other _ _ _ _ (by simp)]; exact h.c0
  · rw [World.cell?_setCell_other _ _ _ _ (by simp), World.cell?_setCell_other _ _ _ _ (by simp)]; exact h.c1
  · rw [frozen_setCell, frozen_setCell]; exact h.f0
  · rw [frozen_setCell, frozen_setCell]; exact h.f1
  · simpa using h.lt
theorem below_set2 {B : Nat} {a w : World} (h : Below B a w) {r : Nat} (hr : B ≤ r) (x y : Value) : Below B a ((w.setCell ⟨r, 0, none⟩ x).setCell ⟨r, 1, none⟩ y) := (h.setCell hr _).setCell hr _
end Go.Proofs.YthnhajihkdgifaaDoor
