/- The intervals of a range at their place. -/
import Derived.Test.YtolfgcoalihmgaaGreatDoorZMDa
namespace Go.Proofs.YtolfgcoalihmgaaGreatDoor
open Go.RowKit
structure RAt (w : World) (r : List Pl.Ivl) (b off : Nat) : Prop where
 lt : b < w.heap.size
 iv : ∀ k (hk : k < r.length), ∃ a1 b1 c1 d1, IvAt w b (off + k * 9) r[k] a1 b1 c1 d1
theorem RAt.below {w w' : World} {r : List Pl.Ivl} {b off : Nat} (h : RAt w r b off) {B : Nat} (hb : Below B w w') (hB : w.heap.size ≤ B) : RAt w' r b off := by
 refine ⟨Nat.lt_of_lt_of_le h.lt hb.size, fun k hk => ?_⟩
 obtain ⟨a1, b1, c1, d1, I⟩ := h.iv k hk
 exact ⟨a1, b1, c1, d1, I.below hb h.lt hB⟩
theorem RAt.bl {w w' : World} {r : List Pl.Ivl} {b off : Nat} (h : RAt w r b off) (hb : Below w.heap.size w w') : RAt w' r b off := h.below hb nle
theorem RAt.al {w : World} {r : List Pl.Ivl} {b off : Nat} (h : RAt w r b off) (o : Obj) : RAt (w.alloc o) r b off := h.below ((Below.refl _ _).alloc nle o) nle
theorem IvAt.far {w : World} {b o : Nat} {x : Pl.Ivl} {a1 b1 : Option Addr} {c1 d1 : Nat} (h : IvAt w b o x a1 b1 c1 d1) {g j : Nat} (hb : b ≠ g) {u : Value} (hu : w.cell? ⟨g, j, none⟩ = some u) (hs : ∀ s, u ≠ .string s) (v : Value) : IvAt (w.setCell ⟨g, j, none⟩ v) b o x a1 b1 c1 d1 :=
 have e : ∀ i, (w.setCell ⟨g, j, none⟩ v).cell? ⟨b, i, none⟩ = w.cell? ⟨b, i, none⟩ := fun i => World.cell?_setCell_other _ _ _ _ (fun e => by injection e with e1 _; first | exact hb e1 | exact hb e1.symm)
 ⟨(e _).trans h.e0, (e _).trans h.e1, (e _).trans h.e2, (e _).trans h.e3, (e _).trans h.e4, (e _).trans h.e5, (e _).trans h.e6, (e _).trans h.e7, (e _).trans h.e8, h.lo.setNS hu hs v, h.hi.setNS hu hs v⟩
theorem RAt.far {w : World} {r : List Pl.Ivl} {b off : Nat} (h : RAt w r b off) {g j : Nat} (hb : b ≠ g) {u : Value} (hu : w.cell? ⟨g, j, none⟩ = some u) (hs : ∀ s, u ≠ .string s) (v : Value) : RAt (w.setCell ⟨g, j, none⟩ v) r b off := by
 refine ⟨by simpa using h.lt, fun k hk => ?_⟩
 obtain ⟨a1, b1, c1, d1, I⟩ := h.iv k hk
 exact ⟨a1, b1, c1, d1, I.far hb hu hs v⟩
end Go.Proofs.YtolfgcoalihmgaaGreatDoor
