/- Contract: the reference's root of a log. -/
import Derived.Test.YtldepnabkdpokaaTk
namespace Go.Proofs.Ytldepnabkdpokaa
open Go.RowKit

namespace Pl
def sizes (s : List (Int × Nat)) : Nat := (s.map (·.2)).sum
theorem sizes_cons (a : Int) (m : Nat) (s : List (Int × Nat)) : sizes ((a, m) :: s) = m + sizes s := by simp [sizes]
theorem mergeF_step {f : Nat} {a b : Int} {k : Nat} {s : List (Int × Nat)} : mergeF pairS (f + 1) ((a, k) :: (b, k) :: s) = mergeF pairS f ((pairS b a, 2 * k) :: s) := by rw [mergeF, if_pos rfl]
theorem mergeF_stop {f : Nat} {a b : Int} {m k : Nat} {s : List (Int × Nat)} (h : m ≠ k) : mergeF pairS f ((a, m) :: (b, k) :: s) = (a, m) :: (b, k) :: s := by
  cases f with
  | zero => rfl
  | succ f => rw [mergeF, if_neg h]
theorem mergeF_one {f : Nat} {x : Int × Nat} : mergeF pairS f [x] = [x] := by cases f <;> rfl
theorem stackF_snoc (l : List Int) (x : Int) : stackF pairS (l ++ [x]) = pushG pairS (stackF pairS l) x := by simp [stackF]
end Pl

theorem rev_get (t : List (Int × Nat)) (x : Int) (N j : Nat) (h : N + 1 + j = t.length) : (intVals ((x :: t.map fun p => p.1).reverse))[N]? = some (.int .i64 (t[j]'(by omega)).1) := by
  have h2 : N < t.length := by omega
  simp only [intVals, List.reverse_cons, List.map_append, List.map_reverse]
  rw [List.getElem?_append_left (by simp; exact h2), List.getElem?_reverse (by simp; exact h2)]
  simp only [List.length_map, List.map_map, List.getElem?_map]
  rw [show t.length - 1 - N = j by omega, List.getElem?_eq_getElem (by omega)]
  rfl
/-- The head of the outer loop. -/
def LogRel (xs : List Int) (w : World) (v3 v4 u : Value) (wr : World) : Prop :=
  ∃ k : Nat, k ≤ xs.length ∧ u = .int .i64 (k : Int) ∧ Two wr w.heap.size v3 v4 (Pl.stackF Pl.pairS (xs.take k)) ∧ Below w.heap.size w wr ∧ Pl.sizes (Pl.stackF Pl.pairS (xs.take k)) = k ∧ (Pl.stackF Pl.pairS (xs.take k)).length ≤ k ∧ ∀ p ∈ Pl.stackF Pl.pairS (xs.take k), Pl.isDigestB p.1 = true
/-- The head of the inner loop. -/
def MergeRel (S : List (Int × Nat)) (N : Nat) (w : World) (v3 v4 u : Value) (wr : World) : Prop :=
  ∃ (s : List (Int × Nat)) (f : Nat), 0 < s.length ∧ s.length ≤ f + 1 ∧ u = .int .i64 (s.length : Int) ∧ Two wr w.heap.size v3 v4 s ∧ Below w.heap.size w wr ∧ Pl.sizes s = N ∧ s.length ≤ N ∧ (∀ p ∈ s, Pl.isDigestB p.1 = true) ∧ Hid (Pl.mergeF Pl.pairS f s = S)

end Go.Proofs.Ytldepnabkdpokaa
