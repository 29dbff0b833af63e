/- Contracts of the small functions: tests of ranges, the digest's arithmetic. -/
import Derived.Test.YtolfgcoalihmgaaGreatDoorProg
import Derived.Test.YtolfgcoalihmgaaGreatDoorZMPo
import Derived.Test.YtolfgcoalihmgaaGreatDoorYPa
import Derived.Test.YtolfgcoalihmgaaGreatDoorYKa
namespace Go.Proofs.YtolfgcoalihmgaaGreatDoor
open Go.RowKit
theorem mul_any (a b : Int) (w : World) (ha : 0 ≤ a) (ha' : a < 2305843009213693951) (hb : 0 ≤ b) (hb' : b ≤ 9223372036854775807) :
 Calls Tryz.prog 184 #[.int .i64 a, .int .i64 b] w fun e w' => e = .returned (.int .i64 ((a * b) % Pl.M)) ∧ w = w' := by
 go_enter Tryz.func184, Tryz.ntmps184
 go_wp2
 go_loop [0, 1, 5] (fun x y o => ∃ a1 b1 o1 : Int, x = .int .i64 a1 ∧ y = .int .i64 b1 ∧ o = .int .i64 o1 ∧ 0 ≤ a1 ∧ a1 < 2305843009213693951 ∧ 0 ≤ b1 ∧ b1 ≤ 9223372036854775807 ∧ 0 ≤ o1 ∧ o1 < 2305843009213693951 ∧ (o1 + a1 * b1) % Pl.M = (a * b) % Pl.M) (fun _ y _ => (intOf y).toNat)
 case atStart => exact ⟨a, b, 0, rfl, rfl, rfl, ha, ha', hb, hb', by decide, by decide, by rw [Int.zero_add]⟩
 case round =>
  obtain ⟨a1, b1, o1, rfl, rfl, rfl, h1, h2, h3, h4, h5, h6, h7⟩ := hrel
  have H7 := Lib.hid h7
  clear h7
  have hand := and_one b1 h3 h4
  by_cases hz : 0 < b1
  · by_cases hp : b1 % 2 = 1
    · have ht : (bits BinOp.and IntKind.i64 b1 1 == 1) = true := by rw [hand, hp]; rfl
      clear hand
      go_wp2
      go_round
      case rel => exact ⟨_, _, _, rfl, rfl, rfl, by omega, by omega, by omega, by omega, by omega, by omega, by
       rw [← H7.out]; have := Pl.mul_odd a1 (b1 / 2) o1; rw [show 2 * (b1 / 2) + 1 = b1 by omega] at this; exact this⟩
      case measure => simp [intOf]; omega
    · have ht : (bits BinOp.and IntKind.i64 b1 1 == 1) = false := by rw [hand]; simp; omega
      clear hand
      go_wp2
      go_round
      case rel => exact ⟨_, _, _, rfl, rfl, rfl, by omega, by omega, by omega, by omega, by omega, by omega, by
       rw [← H7.out]; have := Pl.mul_even a1 (b1 / 2) o1; rw [show 2 * (b1 / 2) = b1 by omega] at this; exact this⟩
      case measure => simp [intOf]; omega
  · clear hand
    go_wp2
    go_ret
    refine ⟨?_, rfl⟩
    rw [← H7.out]
    have : b1 = 0 := by omega
    subst this
    exact ret_int (by rw [Int.mul_zero, Int.add_zero]; exact (Int.emod_eq_of_lt h5 h6).symm)
theorem next_any (a b f : Int) (w : World) (ha : 0 ≤ a) (ha' : a < 2305843009213693951) (hb : 0 ≤ b) (hb' : b < 2305843009213693951) (hf : 0 ≤ f) (hf' : f ≤ 9223372036854775807) :
 Calls Tryz.prog 154 #[.agg #[.int .i64 a, .int .i64 b], .int .i64 f] w fun e w' => e = .returned (.int .i64 ((a * f + b) % Pl.M)) ∧ Below w.heap.size w w' := by
 go_enter Tryz.func154, Tryz.ntmps154
 go_wp2
 go_quiet ((go_at_call 184; exact quiet_eq (mul_any _ _ _ ha ha' hf hf')))
 go_wp2
 go_ret
 refine ⟨ret_int (Pl.next_eq _ _ hb hb'), ?_⟩
 exact below_drewN ((Below.refl _ _).alloc (Nat.le_refl _) _) _
end Go.Proofs.YtolfgcoalihmgaaGreatDoor
