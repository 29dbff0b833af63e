/- A block of any number of cells. No program in sight. -/
import Derived.Test.YthnhajihkdgifaaDoorKj
namespace Go.Proofs.YthnhajihkdgifaaDoor
open Go.RowKit

/-- A block that begins with the cells cs; none of them is marked. -/
structure Blk (w : World) (r : Nat) (cs : List Value) : Prop where
  c : ∀ j u, cs[j]? = some u → w.cell? ⟨r, j, none⟩ = some u
  f : ∀ j, j < cs.length → w.frozen? ⟨r, j, none⟩ = false
  lt : r < w.heap.size
theorem Blk.new (w : World) (cs : List Value) (t : TypeId) {g : Nat} (hg : g = w.heap.size) : Blk (w.alloc (.cells cs.toArray t)) g cs := by
  subst hg
  exact ⟨fun j u hu => by simp [hu], fun j _ => World.frozen?_alloc_at _ _ _ _ rfl, by simp⟩
theorem Blk.below {w w' : World} {r : Nat} {cs : List Value} (h : Blk w r cs) {B : Nat} (hb : Below B w w') (hr : r < B) : Blk w' r cs :=
  ⟨fun j u hu => (hb.cell (p := ⟨r, j, none⟩) hr).trans (h.c j u hu), fun j hj => (hb.frozen (p := ⟨r, j, none⟩) hr).trans (h.f j hj), Nat.lt_of_lt_of_le h.lt hb.size⟩
theorem Blk.alloc {w : World} {r : Nat} {cs : List Value} (h : Blk w r cs) (o : Obj) : Blk (w.alloc o) r cs := h.below (B := w.heap.size) ((Below.refl _ _).alloc (Nat.le_refl _) _) h.lt
theorem Blk.drew {w : World} {r : Nat} {cs : List Value} (h : Blk w r cs) : Blk w.drew r cs := h.below (B := w.heap.size) ((Below.refl _ _).drew) h.lt
theorem Blk.drewN {w : World} {r : Nat} {cs : List Value} (h : Blk w r cs) (n : Nat) : Blk (w.drewN n) r cs := h.below (B := w.heap.size) (below_drewN (Below.refl _ _) n) h.lt
theorem Blk.set {w : World} {r : Nat} {cs : List Value} (h : Blk w r cs) {k : Nat} (hk : k < cs.length) (v : Value) : Blk (w.setCell ⟨r, k, none⟩ v) r (cs.set k v) := by
  refine ⟨fun j u hu => ?_, fun j hj => by rw [frozen_setCell]; exact h.f j (by simpa using hj), by simpa using h.lt⟩
  rw [List.getElem?_set] at hu
  split at hu
  · rename_i hjk
    subst hjk
    obtain rfl : v = u := by simpa [hk] using hu
    exact World.cell?_setCell_same _ _ _ (h.c k _ (List.getElem?_eq_getElem hk))
  · rename_i hjk
    rw [World.cell?_setCell_other _ _ _ _ (by intro h2; injection h2 with _ h3; exact hjk h3)]
    exact h.c j u hu
theorem Blk.far {w : World} {r : Nat} {cs : List Value} (h : Blk w r cs) {a : Addr} (hne : a.block ≠ r) (v : Value) : Blk (w.setCell a v) r cs := by
  refine ⟨fun j u hu => ?_, fun j hj => by rw [frozen_setCell]; exact h.f j hj, by simpa using h.lt⟩
  rw [World.cell?_setCell_other _ _ _ _ (by intro h2; apply hne; have := congrArg Addr.block h2; first | exact this | exact this.symm)]
  exact h.c j u hu
theorem Box2.far {w : World} {r : Nat} {x y : Value} (h : Box2 w r x y) {a : Addr} (hne : a.block ≠ r) (v : Value) : Box2 (w.setCell a v) r x y := by
  refine ⟨?_, ?_, by rw [frozen_setCell]; exact h.f0, by rw [frozen_setCell]; exact h.f1, by simpa using h.lt⟩
  · rw [World.cell?_setCell_other _ _ _ _ (by intro h2; apply hne; have := congrArg Addr.block h2; first | exact this | exact this.symm)]; exact h.c0
  · rw [World.cell?_setCell_other _ _ _ _ (by intro h2; apply hne; have := congrArg Addr.block h2; first | exact this | exact this.symm)]; exact h.c1
end Go.Proofs.YthnhajihkdgifaaDoor
