/- Contracts: the library's search and copy of a list of integers, whatever its length. -/
import Derived.Test.YtkhkijpkgogncaaUe
namespace Go.Proofs.Ytkhkijpkgogncaa
open Go.RowKit

theorem BinSearch_any (xs : List Int) (n : Int) (oa : Option Addr) (cap : Nat) (w : World) (hs : Sl w oa xs.length cap 1 (intVals xs)) (hm : xs.length ≤ 64) (hp : xs.Pairwise (· < ·)) :
    Calls Try.prog 54 #[.slice oa xs.length cap, .int .i64 n] w fun e w' => e = .returned (.tuple #[.int .i64 ((xs.countP (fun x => decide (x < n)) : Nat) : Int), .bool (xs.contains n)]) ∧ Below w.heap.size w w' := by
  rcases hs.mem with h0 | ⟨b, off, rfl, hlt, hc⟩
  · have hl : xs = [] := by simpa [intVals] using h0
    subst hl
    refine (Try.slices_BinarySearch_int_empty oa cap n w).mono ?_
    rintro e w' ⟨rfl, rfl⟩
    exact ⟨rfl, Below.refl _ _⟩
  · refine (Try.slices_BinarySearch_int b off xs.length cap xs n w (Nat.le_refl _) (by omega) (fun j hj => ?_) ?_).mono ?_
    · rw [List.getD_eq_getElem?_getD, List.getElem?_eq_getElem hj]
      exact hc j _ (intVals_get xs j hj)
    · rw [List.take_length]
      exact hp.imp fun h => by omega
    · rintro e w' ⟨rfl, q, rfl⟩
      rw [List.take_length]
      exact ⟨rfl, below_drewN (Below.refl _ _) q⟩
theorem Clone_any (xs : List Int) (oa : Option Addr) (cap : Nat) (w : World) (hs : Sl w oa xs.length cap 1 (intVals xs)) (hm : xs.length ≤ 64) :
    Calls Try.prog 56 #[.slice oa xs.length cap] w fun e w' => ∃ v, e = .returned v ∧ w'.ownsRow w.heap.size 3 1 v xs.length (intVals xs) ∧ Below w.heap.size w w' := by
  rcases hs.mem with h0 | ⟨b, off, rfl, hlt, hc⟩
  · have hl : xs = [] := by simpa [intVals] using h0
    subst hl
    cases oa with
    | none =>
      refine (Try.slices_Clone_int_nil 0 cap w).mono ?_
      rintro e w' ⟨rfl, rfl⟩
      exact ⟨_, rfl, World.ownsRow_nil _ _ _ _, Below.refl _ _⟩
    | some a =>
      refine (Try.slices_Clone_int_zero a cap w).mono ?_
      rintro e w' ⟨v, rfl, h1, -, h2⟩
      exact ⟨v, rfl, h1, h2⟩
  · refine (Try.slices_Clone_int b off xs.length cap xs w (Nat.le_refl _) (by omega) (fun j hj => ?_)).mono ?_
    · rw [List.getD_eq_getElem?_getD, List.getElem?_eq_getElem hj]
      exact hc j _ (intVals_get xs j hj)
    · rintro e w' ⟨v, rfl, h1, -, h2⟩
      rw [List.take_length] at h1
      exact ⟨v, rfl, h1, h2⟩
end Go.Proofs.Ytkhkijpkgogncaa
