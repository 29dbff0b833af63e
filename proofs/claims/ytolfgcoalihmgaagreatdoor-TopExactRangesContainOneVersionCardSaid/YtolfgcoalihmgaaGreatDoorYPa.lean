/- Plain facts on the digest's arithmetic: no program in sight. -/
import Derived.Test.YtolfgcoalihmgaaGreatDoorZMPo
import Derived.WalkKit
namespace Go.Proofs.YtolfgcoalihmgaaGreatDoor
open Go.RowKit
theorem and_one (E : Int) (h0 : 0 ≤ E) (h1 : E ≤ 9223372036854775807) : bits BinOp.and IntKind.i64 E 1 = E % 2 := by
 obtain ⟨n, rfl⟩ := Int.eq_ofNat_of_zero_le h0
 have hx : n &&& 1 < 2 := by rw [Nat.and_one_is_mod]; omega
 have h1 : (BitVec.ofInt 64 (n : Int)).toNat = n := by
  rw [BitVec.ofInt_natCast, BitVec.toNat_ofNat]; exact Nat.mod_eq_of_lt (by omega)
 have h2 : (BitVec.ofInt 64 (1 : Int)).toNat = 1 := by decide
 show IntKind.i64.wrap ((BitVec.ofInt 64 (n : Int) &&& BitVec.ofInt 64 (1 : Int)).toNat : Int) = _
 rw [BitVec.toNat_and, h1, h2, IntKind.wrap_i64, Nat.and_one_is_mod]
 omega
namespace Pl
theorem M_eq : M = 2305843009213693951 := rfl
theorem emm (x k : Int) : (x % M * k) % M = (x * k) % M := by
 rw [Int.mul_emod, Int.emod_emod, ← Int.mul_emod]
/-- One round of multiplication by doubling keeps the result. -/
theorem mul_odd (a k o : Int) : ((o + a) % M + (2 * a % M) * k) % M = (o + a * (2 * k + 1)) % M := by
 have e : o + a * (2 * k + 1) = (o + a) + (2 * a) * k := by
  rw [Int.mul_add, Int.mul_one, ← Int.mul_assoc, Int.mul_comm a 2]; omega
 rw [e, Int.emod_add_emod, Int.add_emod, emm, ← Int.add_emod]
theorem mul_even (a k o : Int) : (o + (2 * a % M) * k) % M = (o + a * (2 * k)) % M := by
 have e : a * (2 * k) = (2 * a) * k := by rw [← Int.mul_assoc, Int.mul_comm a 2]
 rw [e, Int.add_emod, emm, ← Int.add_emod]
def stepS (h b : Int) : Int := (h * 257 + b + 1) % M
def ofS (l : List UInt8) : Int := l.foldl (fun h b => stepS h (b.toNat : Int)) 1
theorem mod_range (x : Int) : 0 ≤ x % M ∧ x % M < M := ⟨Int.emod_nonneg _ (by decide), Int.emod_lt_of_pos _ (by decide)⟩
theorem stepS_range (a b : Int) : 0 ≤ stepS a b ∧ stepS a b < M := mod_range _
theorem ofS_snoc (l : List UInt8) (b : UInt8) : ofS (l ++ [b]) = stepS (ofS l) (b.toNat : Int) := by
 simp [ofS, List.foldl_append]
theorem next_eq (x b : Int) (hb : 0 ≤ b) (hb' : b < 2305843009213693951) : (wrap64 (x % M + b)).tmod 2305843009213693951 = (x + b) % M := by
 have h := mod_range x
 rw [M_eq] at h
 rw [M_eq, IntWalk.wrap64_in _ (by omega), Int.tmod_eq_emod_of_nonneg (by omega), Int.emod_add_emod]
theorem foldl_range (l : List UInt8) : ∀ h, 0 ≤ h ∧ h < M → 0 ≤ l.foldl (fun h b => stepS h (b.toNat : Int)) h ∧ l.foldl (fun h b => stepS h (b.toNat : Int)) h < M := by
 induction l with
 | nil => intro h hh; exact hh
 | cons b l ih => intro h _; exact ih _ (stepS_range _ _)
theorem ofS_range (l : List UInt8) : 0 ≤ ofS l ∧ ofS l < M := foldl_range l 1 (by decide)
end Pl
end Go.Proofs.YtolfgcoalihmgaaGreatDoor
