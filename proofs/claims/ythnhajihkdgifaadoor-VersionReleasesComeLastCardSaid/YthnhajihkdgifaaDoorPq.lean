/- Orders of lists, met step by step; digits of numbers. No program in sight. -/
import Derived.Test.YthnhajihkdgifaaDoorPp
import Derived.Lib.ItoaNum
namespace Go.Proofs.YthnhajihkdgifaaDoor
namespace Pl

/-- The first k places compare as equal. -/
def EqTo {α : Type} (c : α → α → Int) (a b : List α) (k : Nat) : Prop := ∀ j (h1 : j < a.length) (h2 : j < b.length), j < k → c a[j] b[j] = 0
theorem EqTo.zero {α : Type} (c : α → α → Int) (a b : List α) : EqTo c a b 0 := fun _ _ _ h => absurd h (by omega)
theorem EqTo.succ {α : Type} {c : α → α → Int} {a b : List α} {k : Nat} (h : EqTo c a b k) (h1 : k < a.length) (h2 : k < b.length) (e : c a[k] b[k] = 0) : EqTo c a b (k + 1) := fun j j1 j2 hj => by
  by_cases hk : j = k
  · subst hk; exact e
  · exact h j j1 j2 (by omega)
theorem lexL_at {α : Type} {c : α → α → Int} : ∀ {a b : List α} {k : Nat} (_ : EqTo c a b k) (h1 : k < a.length) (h2 : k < b.length), c a[k] b[k] ≠ 0 → lexL c a b = c a[k] b[k]
  | [], _, _, _, h1, _, _ => by simp at h1
  | _ :: _, [], _, _, _, h2, _ => by simp at h2
  | x :: a, y :: b, 0, _, _, _, hne => by
    simp only [List.getElem_cons_zero] at *
    rw [lexL, if_neg hne]
  | x :: a, y :: b, k + 1, h, h1, h2, hne => by
    have h0 := h 0 (by simp) (by simp) (by omega)
    simp only [List.getElem_cons_zero, List.getElem_cons_succ] at *
    rw [lexL, if_pos h0]
    exact lexL_at (k := k) (fun j j1 j2 hj => by have := h (j + 1) (by simpa using j1) (by simpa using j2) (by omega); simpa using this) (by simpa using h1) (by simpa using h2) hne
theorem lexL_end {α : Type} {c : α → α → Int} : ∀ {a b : List α} {k : Nat} (_ : EqTo c a b k), k ≤ a.length → k ≤ b.length → (k = a.length ∨ k = b.length) → lexL c a b = sgn (a.length : Int) (b.length : Int)
  | [], [], _, _, _, _, _ => by simp [lexL, sgn]
  | [], y :: b, _, _, _, _, _ => by simp only [lexL, sgn, List.length_nil, List.length_cons]; rw [if_pos (by omega)]
  | x :: a, [], _, _, _, _, _ => by simp only [lexL, sgn, List.length_nil, List.length_cons]; rw [if_neg (by omega), if_pos (by omega)]
  | x :: a, y :: b, 0, _, _, _, h => by simp at h
  | x :: a, y :: b, k + 1, h, h1, h2, h3 => by
    have h0 := h 0 (by simp) (by simp) (by omega)
    simp only [List.getElem_cons_zero] at h0
    simp only [List.length_cons] at *
    rw [lexL, if_pos h0, lexL_end (k := k) (fun j j1 j2 hj => by have := h (j + 1) (by simpa using j1) (by simpa using j2) (by omega); simpa using this) (by omega) (by omega) (by omega)]
    unfold sgn
    repeat' split <;> omega

/-- The digits of a number. -/
def digS (n : Int) : List UInt8 := Lib.decDigits n.toNat
end Pl
end Go.Proofs.YthnhajihkdgifaaDoor
