/- Contracts of the small functions: tests of ranges, the digest's arithmetic. -/
import Derived.Test.YtldepnabkdpokaaProg
import Derived.Test.YtldepnabkdpokaaPa
import Derived.Test.YtldepnabkdpokaaKa
namespace Go.Proofs.Ytldepnabkdpokaa
open Go.RowKit

theorem quiet_eq {P : Program} {f : FuncId} {args : Array Value} {w : World} {n : Nat} {v : Value}
    (h : Calls P f args (w.drewN n) fun e w' => e = .returned v ∧ w.drewN n = w') : Calls P f args (w.drewN n) fun e w'' => e = .returned v ∧ ∃ m, w'' = w.drewN m :=
  h.mono fun _ _ ⟨he, hm⟩ => ⟨he, n, hm.symm⟩
theorem ret_int {k : IntKind} {a b : Int} (h : a = b) : Ending.returned (.int k a) = .returned (.int k b) := by rw [h]

theorem mul_any (a b : Int) (w : World) (ha : 0 ≤ a) (ha' : a < 2305843009213693951) (hb : 0 ≤ b) (hb' : b ≤ 9223372036854775807) :
    Calls Try.prog 65 #[.int .i64 a, .int .i64 b] w fun e w' => e = .returned (.int .i64 ((a * b) % Pl.M)) ∧ w = w' := by
  go_enter Try.func65, Try.ntmps65
  go_wp2
  go_loop [0, 1, 5] (fun x y o => ∃ a1 b1 o1 : Int, x = .int .i64 a1 ∧ y = .int .i64 b1 ∧ o = .int .i64 o1 ∧ 0 ≤ a1 ∧ a1 < 2305843009213693951 ∧ 0 ≤ b1 ∧ b1 ≤ 9223372036854775807 ∧ 0 ≤ o1 ∧ o1 < 2305843009213693951 ∧ (o1 + a1 * b1) % Pl.M = (a * b) % Pl.M) (fun _ y _ => (intOf y).toNat)
  case atStart => exact ⟨a, b, 0, rfl, rfl, rfl, ha, ha', hb, hb', by decide, by decide, by rw [Int.zero_add]⟩
  case round =>
    obtain ⟨a1, b1, o1, rfl, rfl, rfl, h1, h2, h3, h4, h5, h6, h7⟩ := hrel
    have H7 := Lib.hid h7
    clear h7
    have hand := and_one b1 h3 h4
    by_cases hz : 0 < b1
    · by_cases hp : b1 % 2 = 1
      · have ht : (bits BinOp.and IntKind.i64 b1 1 == 1) = true := by rw [hand, hp]; rfl
        clear hand
        go_wp2
        go_round
        case rel => exact ⟨_, _, _, rfl, rfl, rfl, by omega, by omega, by omega, by omega, by omega, by omega, by
          rw [← H7.out]; have := Pl.mul_odd a1 (b1 / 2) o1; rw [show 2 * (b1 / 2) + 1 = b1 by omega] at this; exact this⟩
        case measure => simp [intOf]; omega
      · have ht : (bits BinOp.and IntKind.i64 b1 1 == 1) = false := by rw [hand]; simp; omega
        clear hand
        go_wp2
        go_round
        case rel => exact ⟨_, _, _, rfl, rfl, rfl, by omega, by omega, by omega, by omega, by omega, by omega, by
          rw [← H7.out]; have := Pl.mul_even a1 (b1 / 2) o1; rw [show 2 * (b1 / 2) = b1 by omega] at this; exact this⟩
        case measure => simp [intOf]; omega
    · clear hand
      go_wp2
      go_ret
      refine ⟨?_, rfl⟩
      rw [← H7.out]
      have : b1 = 0 := by omega
      subst this
      exact ret_int (by rw [Int.mul_zero, Int.add_zero]; exact (Int.emod_eq_of_lt h5 h6).symm)

theorem ret_bool {a b : Bool} (h : a = b) : Ending.returned (.bool a) = .returned (.bool b) := by rw [h]

theorem isKey_any (n : Int) (w : World) :
    Calls Try.prog 27 #[.int .i64 n] w fun e w' => e = .returned (.bool (Pl.isKeyB n)) ∧ w = w' := by
  go_enter Try.func27, Try.ntmps27
  go_wp2
  all_goals (go_ret; exact ⟨ret_bool (by unfold Pl.isKeyB Pl.inB; simp; omega), rfl⟩)
theorem isDigest_any (n : Int) (w : World) :
    Calls Try.prog 31 #[.int .i64 n] w fun e w' => e = .returned (.bool (Pl.isDigestB n)) ∧ w = w' := by
  go_enter Try.func31, Try.ntmps31
  go_wp2
  all_goals (go_ret; exact ⟨ret_bool (by unfold Pl.isDigestB Pl.inB; simp [Pl.lt_le]; omega), rfl⟩)
theorem is_any (n : Int) (w : World) :
    Calls Try.prog 48 #[.int .i64 n] w fun e w' => e = .returned (.bool (Pl.isDigestB n)) ∧ w = w' := by
  go_enter Try.func48, Try.ntmps48
  go_wp2
  all_goals (go_ret; exact ⟨ret_bool (by unfold Pl.isDigestB Pl.inB; simp [Pl.lt_le]; omega), rfl⟩)
theorem rin_any (n lo hi : Int) (w : World) :
    Calls Try.prog 32 #[.int .i64 n, .int .i64 lo, .int .i64 hi] w fun e w' => e = .returned (.bool (Pl.inB n lo hi)) ∧ w = w' := by
  go_enter Try.func32, Try.ntmps32
  go_wp2
  all_goals (go_ret; exact ⟨ret_bool (by unfold Pl.inB; simp; omega), rfl⟩)
theorem rIsKey_any (n : Int) (w : World) :
    Calls Try.prog 12 #[.int .i64 n] w fun e w' => e = .returned (.bool (Pl.isKeyB n)) ∧ w = w' := by
  go_enter Try.func12, Try.ntmps12
  go_wp2_with (go_at_call 32; refine (rin_any _ _ _ _).mono ?_; rintro e w' ⟨rfl, rfl⟩)
  go_ret; exact ⟨rfl, rfl⟩
theorem rIsDigest_any (n : Int) (w : World) :
    Calls Try.prog 34 #[.int .i64 n] w fun e w' => e = .returned (.bool (Pl.isDigestB n)) ∧ w = w' := by
  go_enter Try.func34, Try.ntmps34
  go_wp2_with (go_at_call 32; refine (rin_any _ _ _ _).mono ?_; rintro e w' ⟨rfl, rfl⟩)
  go_ret; exact ⟨rfl, rfl⟩
theorem rfault_any (a b : Int) (w : World) :
    Calls Try.prog 33 #[.int .i64 a, .int .i64 b] w fun e w' => e = .returned (.agg #[.int .i64 a, .int .i64 b]) ∧ Below w.heap.size w w' := by
  go_enter Try.func33, Try.ntmps33
  go_wp2
  go_returns
  refine ⟨rfl, ?_⟩
  go_grown
theorem next_any (a b f : Int) (w : World) (ha : 0 ≤ a) (ha' : a < 2305843009213693951) (hb : 0 ≤ b) (hb' : b < 2305843009213693951) (hf : 0 ≤ f) (hf' : f ≤ 9223372036854775807) :
    Calls Try.prog 47 #[.agg #[.int .i64 a, .int .i64 b], .int .i64 f] w fun e w' => e = .returned (.int .i64 ((a * f + b) % Pl.M)) ∧ Below w.heap.size w w' := by
  go_enter Try.func47, Try.ntmps47
  go_wp2
  go_quiet ((go_at_call 65; exact quiet_eq (mul_any _ _ _ ha ha' hf hf')))
  go_wp2
  go_ret
  refine ⟨ret_int (Pl.next_eq _ _ hb hb'), ?_⟩
  exact below_drewN ((Below.refl _ _).alloc (Nat.le_refl _) _) _

theorem pair_any (a b : Int) (w : World) (ha : 0 ≤ a) (ha' : a < 2305843009213693951) (hb : 0 ≤ b) (hb' : b < 2305843009213693951) :
    Calls Try.prog 49 #[.int .i64 a, .int .i64 b] w fun e w' => e = .returned (.int .i64 (Pl.pairS a b)) ∧ Below w.heap.size w w' := by
  have hr := Pl.mod_range (b * 31 + 7)
  have hr1 := hr.1
  have hr2 := hr.2
  have hr2 : (b * 31 + 7) % Pl.M < 2305843009213693951 := hr2
  clear hr
  go_enter Try.func49, Try.ntmps49
  go_wp2_with fail
  refine (next_any _ _ _ _ (by omega) (by omega) (by omega) (by omega) (by omega) (by omega)).mono ?_
  rintro e w1 ⟨rfl, hb1⟩
  go_wp2_with fail
  refine (next_any _ _ _ _ (by omega) (by omega) (by omega) (by omega) (by omega) (by omega)).mono ?_
  rintro e w2 ⟨rfl, hb2⟩
  go_wp2
  go_ret
  exact ⟨ret_int (Pl.pair_eq a b), hb1.trans (hb2.mono hb1.size)⟩

/-- Two digests are combined. -/
theorem Pair_ok (a b : Int) (w : World) (ha : Pl.isDigestB a = true) (hb : Pl.isDigestB b = true) :
    Calls Try.prog 29 #[.int .i64 a, .int .i64 b] w fun e w' => e = .returned (.tuple #[.int .i64 (Pl.pairS a b), .agg #[.int .i64 0, .int .i64 0]]) ∧ Below w.heap.size w w' := by
  have ra := Pl.isDigestB_true.1 ha
  have rb := Pl.isDigestB_true.1 hb
  have i0 : ∀ w, (Instr.index 79 (.agg #[.int .i64 a, .int .i64 b]) (.int .i64 0)).run Try.prog w = .ok (.int .i64 a) w := fun _ => by kernel_rfl
  have i1 : ∀ w, (Instr.index 79 (.agg #[.int .i64 a, .int .i64 b]) (.int .i64 1)).run Try.prog w = .ok (.int .i64 b) w := fun _ => by kernel_rfl
  go_enter Try.func29, Try.ntmps29
  go_wp2
  refine wp_loop_rounds 3 ?_
  rw [rounds_succ]
  go_wp2_with (go_at_call 48; refine (is_any _ _).mono ?_; rintro e w' ⟨rfl, rfl⟩)
  rw [rounds_succ]
  go_wp2_with (go_at_call 48; refine (is_any _ _).mono ?_; rintro e w' ⟨rfl, rfl⟩)
  rw [rounds_succ]
  go_wp2_with fail
  refine (pair_any _ _ _ (by omega) (by omega) (by omega) (by omega)).mono ?_
  rintro e w1 ⟨rfl, hb1⟩
  obtain ⟨hc1, hf1⟩ := bcell hb1
  go_wp2_with fail
  refine bodyPost_ret (v := .tuple #[.int .i64 (Pl.pairS a b), .agg #[.int .i64 0, .int .i64 0]]) (by simp [results, Try.results29, go_sem, hc1]) rfl ⟨rfl, ?_⟩
  exact ((((Below.refl _ _).alloc (Nat.le_refl _) _).trans (hb1.mono (by simp))).setCell (by simp) _).setCell (by simp) _
end Go.Proofs.Ytldepnabkdpokaa
