/- Contract: the reference's check of an inclusion proof. -/
import Derived.Test.YtldepnabkdpokaaTh
namespace Go.Proofs.Ytldepnabkdpokaa
open Go.RowKit

namespace Pl
theorem shiftF_le : ∀ (f a b : Nat), (shiftF f a b).2 ≤ b ∧ (a ≤ b → (shiftF f a b).1 ≤ (shiftF f a b).2)
  | 0, _, _ => ⟨Nat.le_refl _, fun h => h⟩
  | f + 1, a, b => by
    rw [shiftF]
    split
    · have h := shiftF_le f (a / 2) (b / 2)
      exact ⟨Nat.le_trans h.1 (Nat.div_le_self _ _), fun h2 => h.2 (Nat.div_le_div_right h2)⟩
    · exact ⟨Nat.le_refl _, fun h => h⟩
theorem oddF_le : ∀ (f a b : Nat), (oddF f a b).2 ≤ b ∧ (a ≤ b → (oddF f a b).1 ≤ (oddF f a b).2)
  | 0, _, _ => ⟨Nat.le_refl _, fun h => h⟩
  | f + 1, a, b => by
    rw [oddF]
    split
    · have h := oddF_le f (a / 2) (b / 2)
      exact ⟨Nat.le_trans h.1 (Nat.div_le_self _ _), fun h2 => h.2 (Nat.div_le_div_right h2)⟩
    · exact ⟨Nat.le_refl _, fun h => h⟩
theorem bitsF_zero (f a : Nat) : bitsF f a 0 = [] := by cases f <;> simp [bitsF]
theorem bitsF_odd {f a b : Nat} (hb : b ≠ 0) (h : a % 2 = 1 ∨ a = b) : bitsF (f + 1) a b = false :: bitsF f ((shiftF 7 a b).1 / 2) ((shiftF 7 a b).2 / 2) := by rw [bitsF, if_neg hb, if_pos h]
theorem bitsF_even {f a b : Nat} (hb : b ≠ 0) (h : ¬ (a % 2 = 1 ∨ a = b)) : bitsF (f + 1) a b = true :: bitsF f (a / 2) (b / 2) := by rw [bitsF, if_neg hb, if_neg h]
end Pl

def IncRel (p : List Int) (root : Int) (F : Bool) (x y z u : Value) : Prop :=
  ∃ (f a b k : Nat) (r : Int), x = .int .i64 (a : Int) ∧ y = .int .i64 (b : Int) ∧ z = .int .i64 r ∧ u = .int .i64 (k : Int) ∧ k ≤ p.length ∧ a ≤ b ∧ b ≤ 63 ∧ b < 2 ^ f ∧ Pl.isDigestB r = true ∧ Hid (Pl.inclB (Pl.bitsF f a b) r (p.drop k) root = F)
def ShRel (sa sb : Nat) (x y : Value) : Prop := ∃ (g a' b' : Nat), x = .int .i64 (a' : Int) ∧ y = .int .i64 (b' : Int) ∧ g ≤ 7 ∧ a' ≤ 63 ∧ b' ≤ 63 ∧ a' < 2 ^ g ∧ Hid (Pl.shiftF g a' b' = (sa, sb))

end Go.Proofs.Ytldepnabkdpokaa
