/- A list gone through, one element of one package left out. No program in sight. -/
import Derived.Test.YtolfgcoalihmgaaGreatDoorZMQl
namespace Go.Proofs.YtolfgcoalihmgaaGreatDoor
namespace Pl
def flt {α : Type} (b : Bool) (k m : Nat) (l : List α) : List α := if b = true then (l.take m).eraseIdx k else l.take m
theorem flt_zero {α : Type} (b : Bool) (k : Nat) (l : List α) : flt b k 0 l = [] := by
 unfold flt
 split
 · rw [List.take_zero]; rfl
 · exact List.take_zero
theorem flt_skip {α : Type} {k : Nat} {l : List α} (h : k < l.length) : flt true k (k + 1) l = flt true k k l := by
 unfold flt
 have e : (l.take k).length = k := by rw [List.length_take]; omega
 have e2 : (l.take k).eraseIdx k = l.take k := List.eraseIdx_of_length_le (by omega)
 rw [if_pos rfl, if_pos rfl, List.take_succ_eq_append_getElem h, e2, List.eraseIdx_append_of_length_le (by omega), e, Nat.sub_self]
 simp
theorem flt_add {α : Type} {b : Bool} {k m : Nat} {l : List α} (h : m < l.length) (hn : b = false ∨ m ≠ k) : flt b k (m + 1) l = flt b k m l ++ [l[m]] := by
 unfold flt
 have e : (l.take m).length = m := by rw [List.length_take]; omega
 cases b with
 | false => rw [if_neg (by decide), if_neg (by decide)]; exact List.take_succ_eq_append_getElem h
 | true =>
   have hn : m ≠ k := hn.resolve_left (by decide)
   rw [if_pos rfl, if_pos rfl, List.take_succ_eq_append_getElem h]
   by_cases c : m < k
   · rw [List.eraseIdx_of_length_le (by rw [List.length_append, e]; simp; omega), List.eraseIdx_of_length_le (by omega)]
   · rw [List.eraseIdx_append_of_lt_length (by omega)]
theorem flt_end {α : Type} (b : Bool) (k : Nat) (l : List α) : flt b k l.length l = if b = true then l.eraseIdx k else l := by
 unfold flt
 rw [List.take_length]
theorem flt_len {α : Type} (b : Bool) (k m : Nat) (l : List α) : (flt b k m l).length ≤ l.length := by
 unfold flt
 split
 · exact Nat.le_trans (List.length_eraseIdx_le ..) (by rw [List.length_take]; omega)
 · rw [List.length_take]; omega
theorem less1_at (u : Uni) {p : Nat} (hp : p < u.length) (k i : Nat) (hi : i < u.length) : (less1 u p k)[i]? = some (flt (decide (p = i)) k u[i].length u[i]) := by
 rw [less1_get u hp, flt_end]
 by_cases e : p = i
 · subst e
   rw [if_pos rfl, if_pos (decide_eq_true rfl)]
 · rw [if_neg e, if_neg (fun h => e (of_decide_eq_true h)), List.getElem?_eq_getElem hi]
theorem less1_take (u : Uni) {p : Nat} (hp : p < u.length) (k i : Nat) (hi : i < u.length) : (less1 u p k).take (i + 1) = (less1 u p k).take i ++ [flt (decide (p = i)) k u[i].length u[i]] := by
 have h := less1_at u hp k i hi
 have hl : i < (less1 u p k).length := by rw [less1_len]; exact hi
 rw [List.take_succ_eq_append_getElem hl]
 rw [List.getElem?_eq_getElem hl] at h
 rw [Option.some.inj h]
end Pl
end Go.Proofs.YtolfgcoalihmgaaGreatDoor
