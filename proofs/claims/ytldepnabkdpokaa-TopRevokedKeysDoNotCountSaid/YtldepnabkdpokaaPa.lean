/- Plain facts on the digest's arithmetic: no program in sight. -/
import Derived.WalkKit
namespace Go.Proofs.Ytldepnabkdpokaa
open Go.RowKit
theorem and_one (E : Int) (h0 : 0 ≤ E) (h1 : E ≤ 9223372036854775807) : bits BinOp.and IntKind.i64 E 1 = E % 2 := by
  obtain ⟨n, rfl⟩ := Int.eq_ofNat_of_zero_le h0
  have hx : n &&& 1 < 2 := by rw [Nat.and_one_is_mod]; omega
  have h1 : (BitVec.ofInt 64 (n : Int)).toNat = n := by
    rw [BitVec.ofInt_natCast, BitVec.toNat_ofNat]; exact Nat.mod_eq_of_lt (by omega)
  have h2 : (BitVec.ofInt 64 (1 : Int)).toNat = 1 := by decide
  show IntKind.i64.wrap ((BitVec.ofInt 64 (n : Int) &&& BitVec.ofInt 64 (1 : Int)).toNat : Int) = _
  rw [BitVec.toNat_and, h1, h2, IntKind.wrap_i64, Nat.and_one_is_mod]
  omega
namespace Pl

/-- The modulus of digests. -/
def M : Int := 2305843009213693951
theorem M_eq : M = 2305843009213693951 := rfl

theorem emm (x k : Int) : (x % M * k) % M = (x * k) % M := by
  rw [Int.mul_emod, Int.emod_emod, ← Int.mul_emod]
/-- One round of multiplication by doubling keeps the result. -/
theorem mul_odd (a k o : Int) : ((o + a) % M + (2 * a % M) * k) % M = (o + a * (2 * k + 1)) % M := by
  have e : o + a * (2 * k + 1) = (o + a) + (2 * a) * k := by
    rw [Int.mul_add, Int.mul_one, ← Int.mul_assoc, Int.mul_comm a 2]; omega
  rw [e, Int.emod_add_emod, Int.add_emod, emm, ← Int.add_emod]

theorem mul_even (a k o : Int) : (o + (2 * a % M) * k) % M = (o + a * (2 * k)) % M := by
  have e : a * (2 * k) = (2 * a) * k := by rw [← Int.mul_assoc, Int.mul_comm a 2]
  rw [e, Int.add_emod, emm, ← Int.add_emod]

def inB (n lo hi : Int) : Bool := decide (lo ≤ n) && decide (n ≤ hi)
def isKeyB (n : Int) : Bool := inB n 1 1000000000
def isDigestB (n : Int) : Bool := inB n 0 2305843009213693950
theorem inB_true {n lo hi : Int} : inB n lo hi = true ↔ lo ≤ n ∧ n ≤ hi := by simp [inB]
theorem inB_false {n lo hi : Int} : inB n lo hi = false ↔ ¬ (lo ≤ n ∧ n ≤ hi) := by rw [← inB_true]; simp
theorem isKeyB_true {n : Int} : isKeyB n = true ↔ 1 ≤ n ∧ n ≤ 1000000000 := inB_true
theorem isDigestB_true {n : Int} : isDigestB n = true ↔ 0 ≤ n ∧ n ≤ 2305843009213693950 := inB_true
theorem isKeyB_false {n : Int} : isKeyB n = false ↔ ¬ (1 ≤ n ∧ n ≤ 1000000000) := inB_false
theorem isDigestB_false {n : Int} : isDigestB n = false ↔ ¬ (0 ≤ n ∧ n ≤ 2305843009213693950) := inB_false
theorem lt_le {n : Int} : decide (n < 2305843009213693951) = decide (n ≤ 2305843009213693950) := by
  rw [decide_eq_decide]; omega

def pairS (a b : Int) : Int := (a * 1000003 + b * 31 + 7) % M
def stepS (h b : Int) : Int := (h * 257 + b + 1) % M
def ofS (l : List UInt8) : Int := l.foldl (fun h b => stepS h (b.toNat : Int)) 1
def signS (k : Int) (l : List UInt8) : Int := pairS k (ofS l)

theorem mod_range (x : Int) : 0 ≤ x % M ∧ x % M < M := ⟨Int.emod_nonneg _ (by decide), Int.emod_lt_of_pos _ (by decide)⟩
theorem pairS_range (a b : Int) : 0 ≤ pairS a b ∧ pairS a b < M := mod_range _
theorem stepS_range (a b : Int) : 0 ≤ stepS a b ∧ stepS a b < M := mod_range _
theorem ofS_snoc (l : List UInt8) (b : UInt8) : ofS (l ++ [b]) = stepS (ofS l) (b.toNat : Int) := by
  simp [ofS, List.foldl_append]
theorem next_eq (x b : Int) (hb : 0 ≤ b) (hb' : b < 2305843009213693951) : (wrap64 (x % M + b)).tmod 2305843009213693951 = (x + b) % M := by
  have h := mod_range x
  rw [M_eq] at h
  rw [M_eq, IntWalk.wrap64_in _ (by omega), Int.tmod_eq_emod_of_nonneg (by omega), Int.emod_add_emod]
theorem pair_eq (a b : Int) : (a * 1000003 + (b * 31 + 7)) % M = pairS a b := by
  unfold pairS
  rw [Int.add_assoc]
theorem dpair_eq (a b : Int) : (wrap64 (wrap64 (a * 1000003 % M + b * 31 % M) + 7)).tmod 2305843009213693951 = pairS a b := by
  have h := mod_range (a * 1000003)
  have h2 := mod_range (b * 31)
  unfold pairS
  rw [M_eq] at *
  rw [IntWalk.wrap64_in (a * 1000003 % _ + _) (by omega), IntWalk.wrap64_in _ (by omega), Int.tmod_eq_emod_of_nonneg (by omega)]
  omega
theorem of_eq (h : Int) (b : UInt8) : (wrap64 (wrap64 (h * 257 % M + (b.toNat : Int)) + 1)).tmod 2305843009213693951 = stepS h (b.toNat : Int) := by
  have h1 := mod_range (h * 257)
  have h2 := b.toNat_lt
  unfold stepS
  rw [M_eq] at *
  rw [IntWalk.wrap64_in (h * 257 % _ + _) (by omega), IntWalk.wrap64_in _ (by omega), Int.tmod_eq_emod_of_nonneg (by omega)]
  omega
theorem foldl_range (l : List UInt8) : ∀ h, 0 ≤ h ∧ h < M → 0 ≤ l.foldl (fun h b => stepS h (b.toNat : Int)) h ∧ l.foldl (fun h b => stepS h (b.toNat : Int)) h < M := by
  induction l with
  | nil => intro h hh; exact hh
  | cons b l ih => intro h _; exact ih _ (stepS_range _ _)
theorem ofS_range (l : List UInt8) : 0 ≤ ofS l ∧ ofS l < M := foldl_range l 1 (by decide)
end Pl
end Go.Proofs.Ytldepnabkdpokaa
