/- The bytes of a string, and none. No program in sight. -/
import Derived.Test.YthnhajihkdgifaaDoorMg
namespace Go.Proofs.YthnhajihkdgifaaDoor
open Go.RowKit

theorem ba_toList (s : ByteArray) : s.toList = s.data.toList := by
  have loop : ∀ (n i : Nat) (r : List UInt8), s.size - i = n → ByteArray.toList.loop s i r = r.reverse ++ s.data.toList.drop i := by
    intro n
    induction n with
    | zero =>
      intro i r h
      rw [ByteArray.toList.loop]
      have hs : s.size = s.data.toList.length := rfl
      rw [if_neg (by omega), List.drop_of_length_le (by omega), List.append_nil]
    | succ n ih =>
      intro i r h
      have hs : s.size = s.data.toList.length := rfl
      rw [ByteArray.toList.loop, if_pos (by omega), ih (i + 1) _ (by omega), List.reverse_cons, List.append_assoc]
      congr 1
      rw [List.drop_eq_getElem_cons (show i < s.data.toList.length by omega)]
      show s.get! i :: _ = _
      congr 1
      show s.data[i]! = _
      rw [getElem!_pos s.data i (by have : s.data.size = s.size := rfl; omega)]
      rfl
  unfold ByteArray.toList
  rw [loop s.size 0 [] rfl]
  rfl
namespace Pl
theorem toList_ne {s : ByteArray} (h : s.size ≠ 0) : s.toList.isEmpty = false := by
  rw [List.isEmpty_eq_false_iff]
  intro h2
  have := congrArg List.length h2
  rw [ba_toList] at this
  simp at this
  subst this; exact h rfl
theorem toList_nil {s : ByteArray} (h : s.size = 0) : s.toList = [] := by
  rw [ba_toList]
  exact List.eq_nil_of_length_eq_zero (by simpa using h)
end Pl
end Go.Proofs.YthnhajihkdgifaaDoor
