/- Contracts: lists that must be digests; the split; two roots. -/
import Derived.Test.YtldepnabkdpokaaXa
import Derived.Test.YtldepnabkdpokaaPf
namespace Go.Proofs.Ytldepnabkdpokaa
open Go.RowKit

namespace Pl
def prfF (xs : List Int) : Int × Int := if xs.length ≤ 64 then digF 4 xs else (2, -1)
theorem digF_cases (hi : Int) (xs : List Int) : digF hi xs = (0, 0) ∧ (∀ x ∈ xs, isDigestB x = true) ∨ (digF hi xs).1 ≠ 0 := by
  unfold digF
  cases hf : xs.findIdx? (fun x => !isDigestB x) with
  | none => exact .inl ⟨rfl, UpTo.of_none hf⟩
  | some i => exact .inr (by simp)
theorem prfF_cases (xs : List Int) : prfF xs = (0, 0) ∧ xs.length ≤ 64 ∧ (∀ x ∈ xs, isDigestB x = true) ∨ (prfF xs).1 ≠ 0 := by
  unfold prfF
  by_cases h : xs.length ≤ 64
  · rw [if_pos h]
    rcases digF_cases 4 xs with ⟨h1, h2⟩ | h1
    · exact .inl ⟨h1, h, h2⟩
    · exact .inr h1
  · rw [if_neg h]; exact .inr (by decide)
theorem logF_cases (xs : List Int) : msgF xs = (0, 0) ∧ xs.length ≤ 64 ∧ (∀ x ∈ xs, isDigestB x = true) ∨ (msgF xs).1 ≠ 0 := by
  unfold msgF
  by_cases h : xs.length ≤ 64
  · rw [if_pos h]
    rcases digF_cases 0 xs with ⟨h1, h2⟩ | h1
    · exact .inl ⟨h1, h, h2⟩
    · exact .inr h1
  · rw [if_neg h]; exact .inr (by decide)
end Pl

theorem digests_any (hi : Int) (xs : List Int) (oa : Option Addr) (cap : Nat) (w : World) (hs : Sl w oa xs.length cap 1 (intVals xs)) (hm : xs.length ≤ 64) (h0 : 0 ≤ hi) (h1 : hi ≤ 4) :
    Calls Try.prog 50 #[.int .i64 hi, .slice oa xs.length cap] w fun e w' => e = .returned (.agg #[.int .i64 (Pl.digF hi xs).1, .int .i64 (Pl.digF hi xs).2]) ∧ Below w.heap.size w w' := by
  rcases hs.mem with h0 | ⟨b, off, rfl, hlt, hc⟩
  · have hl : xs = [] := by simpa [intVals] using h0
    subst hl
    clear hm
    go_enter Try.func50, Try.ntmps50
    go_wp2
    go_rounds 1
    go_returns
    exact ⟨rfl, by go_grown⟩
  · clear hs
    go_enter Try.func50, Try.ntmps50
    go_wp2
    go_loopw [9] (fun i wr => ∃ k : Nat, k ≤ xs.length ∧ i = .int .i64 k ∧ UpTo Pl.isDigestB xs k ∧ Below (w.heap.size + 1) (w.alloc (.cells #[.int .i64 0, .int .i64 0] 27)) wr) (fun i _ => xs.length - (intOf i).toNat)
    case atStart => exact ⟨0, Nat.zero_le _, rfl, UpTo.zero _ _, Below.refl _ _⟩
    case round =>
      obtain ⟨k, hk, rfl, hu, hb⟩ := hrel
      have B1 : Below w.heap.size w wr := bcall (by go_grown) hb (by simp)
      obtain ⟨c0, c1, f0, f1, l1⟩ := (Box2.new w (.int .i64 0) (.int .i64 0) 27).below hb (by simp)
      by_cases hlt2 : k < xs.length
      · have hcell : wr.cell? ⟨b, off + k, none⟩ = some (.int .i64 xs[k]) := by
          rw [B1.cell (p := ⟨b, off + k, none⟩) hlt]
          exact hc k _ (intVals_get xs k hlt2)
        clear hc
        by_cases hd : Pl.isDigestB xs[k] = true
        · go_wp2_with (go_at_call 31; refine (isDigest_any _ _).mono ?_; rintro e w' ⟨rfl, rfl⟩)
          go_roundw
          case rel => exact ⟨k + 1, hlt2, by go_num, hu.succ hlt2 hd, hb⟩
          case measure => simp [intOf]; omega
        · have hd : Pl.isDigestB xs[k] = false := by simpa using hd
          have E := Lib.hid (show Pl.digF hi xs = (3, hi + (k : Int)) by unfold Pl.digF; rw [hu.bad hlt2 hd])
          go_wp2_with (go_at_call 31; refine (isDigest_any _ _).mono ?_; rintro e w' ⟨rfl, rfl⟩)
          refine bodyPost_ret (v := .agg #[.int .i64 3, .int .i64 (hi + (k : Int))]) (by simp [results, Try.results50, go_sem, c0, c1]) rfl ⟨by rw [E.out], by go_grown⟩
      · obtain rfl : k = xs.length := by omega
        have E := Lib.hid (show Pl.digF hi xs = (0, 0) by unfold Pl.digF; rw [hu.all])
        go_wp2_with fail
        refine bodyPost_ret (v := .agg #[.int .i64 0, .int .i64 0]) (by simp [results, Try.results50, go_sem, c0, c1]) rfl ⟨by rw [E.out], by go_grown⟩
theorem tcheck_any (xs : List Int) (oa : Option Addr) (cap : Nat) (w : World) (hs : Sl w oa xs.length cap 1 (intVals xs)) (hm : xs.length ≤ 9223372036854775807) :
    Calls Try.prog 36 #[.slice oa xs.length cap] w fun e w' => e = .returned (.agg #[.int .i64 (Pl.msgF xs).1, .int .i64 (Pl.msgF xs).2]) ∧ Below w.heap.size w w' := by
  by_cases hn : xs.length ≤ 64
  · have E := Lib.hid (show Pl.msgF xs = Pl.digF 0 xs by unfold Pl.msgF; rw [if_pos hn])
    go_enter Try.func36, Try.ntmps36
    go_wp2_with fail
    refine (digests_any 0 xs oa cap _ (hs.below ((Below.refl _ _).alloc (Nat.le_refl _) _) (Nat.le_refl _)) hn (by decide) (by decide)).mono ?_
    rintro e w1 ⟨rfl, hb⟩
    obtain ⟨c0, c1, f0, f1, l1⟩ := (Box2.new w (.int .i64 0) (.int .i64 0) 27).below hb (by simp)
    have B1 : Below w.heap.size w w1 := bcall (by go_grown) hb (by simp)
    go_wp2_with fail
    refine bodyPost_ret (v := .agg #[.int .i64 (Pl.digF 0 xs).1, .int .i64 (Pl.digF 0 xs).2]) (by simp [results, Try.results36, go_sem, c0, c1]) rfl ⟨by rw [E.out], by go_grown⟩
  · have E := Lib.hid (show Pl.msgF xs = (2, -1) by unfold Pl.msgF; rw [if_neg hn])
    go_enter Try.func36, Try.ntmps36
    go_wp2
    go_returns
    exact ⟨by rw [E.out], by go_grown⟩
theorem checkProof_any (xs : List Int) (oa : Option Addr) (cap : Nat) (w : World) (hs : Sl w oa xs.length cap 1 (intVals xs)) (hm : xs.length ≤ 9223372036854775807) :
    Calls Try.prog 40 #[.slice oa xs.length cap] w fun e w' => e = .returned (.agg #[.int .i64 (Pl.prfF xs).1, .int .i64 (Pl.prfF xs).2]) ∧ Below w.heap.size w w' := by
  by_cases hn : xs.length ≤ 64
  · have E := Lib.hid (show Pl.prfF xs = Pl.digF 4 xs by unfold Pl.prfF; rw [if_pos hn])
    go_enter Try.func40, Try.ntmps40
    go_wp2_with fail
    refine (digests_any 4 xs oa cap _ (hs.below ((Below.refl _ _).alloc (Nat.le_refl _) _) (Nat.le_refl _)) hn (by decide) (by decide)).mono ?_
    rintro e w1 ⟨rfl, hb⟩
    obtain ⟨c0, c1, f0, f1, l1⟩ := (Box2.new w (.int .i64 0) (.int .i64 0) 27).below hb (by simp)
    have B1 : Below w.heap.size w w1 := bcall (by go_grown) hb (by simp)
    go_wp2_with fail
    refine bodyPost_ret (v := .agg #[.int .i64 (Pl.digF 4 xs).1, .int .i64 (Pl.digF 4 xs).2]) (by simp [results, Try.results40, go_sem, c0, c1]) rfl ⟨by rw [E.out], by go_grown⟩
  · have E := Lib.hid (show Pl.prfF xs = (2, -1) by unfold Pl.prfF; rw [if_neg hn])
    go_enter Try.func40, Try.ntmps40
    go_wp2
    go_returns
    exact ⟨by rw [E.out], by go_grown⟩
theorem LeavesFault_any (xs : List Int) (oa : Option Addr) (cap : Nat) (w : World) (hs : Sl w oa xs.length cap 1 (intVals xs)) (hm : xs.length ≤ 9223372036854775807) :
    Calls Try.prog 13 #[.slice oa xs.length cap] w fun e w' => e = .returned (.agg #[.int .i64 (Pl.msgF xs).1, .int .i64 (Pl.msgF xs).2]) ∧ Below w.heap.size w w' := by
  by_cases hn : xs.length ≤ 64
  · rcases hs.mem with h0 | ⟨b, off, rfl, hlt, hc⟩
    · have hl : xs = [] := by simpa [intVals] using h0
      subst hl
      clear hn hm
      go_enter Try.func13, Try.ntmps13
      go_wp2
      go_rounds 1
      go_returns
      exact ⟨rfl, by go_grown⟩
    · clear hs
      have e1 : Pl.msgF xs = Pl.digF 0 xs := by simp [Pl.msgF, hn]
      rw [e1]
      clear e1
      go_enter Try.func13, Try.ntmps13
      go_wp2
      go_loopw [3] (fun i wr => ∃ k : Nat, k ≤ xs.length ∧ i = .int .i64 k ∧ UpTo Pl.isDigestB xs k ∧ Below (w.heap.size + 1) (w.alloc (.cells #[.int .i64 0, .int .i64 0] 27)) wr) (fun i _ => xs.length - (intOf i).toNat)
      case atStart => exact ⟨0, Nat.zero_le _, rfl, UpTo.zero _ _, Below.refl _ _⟩
      case round =>
        obtain ⟨k, hk, rfl, hu, hb⟩ := hrel
        have B1 : Below w.heap.size w wr := bcall (by go_grown) hb (by simp)
        obtain ⟨c0, c1, f0, f1, l1⟩ := (Box2.new w (.int .i64 0) (.int .i64 0) 27).below hb (by simp)
        by_cases hlt2 : k < xs.length
        · have hcell : wr.cell? ⟨b, off + k, none⟩ = some (.int .i64 xs[k]) := by
            rw [B1.cell (p := ⟨b, off + k, none⟩) hlt]
            exact hc k _ (intVals_get xs k hlt2)
          clear hc
          by_cases hd : Pl.isDigestB xs[k] = true
          · go_wp2_with (go_at_call 34; refine (rIsDigest_any _ _).mono ?_; rintro e w' ⟨rfl, rfl⟩)
            go_roundw
            case rel => exact ⟨k + 1, hlt2, by go_num, hu.succ hlt2 hd, hb⟩
            case measure => simp [intOf]; omega
          · have hd : Pl.isDigestB xs[k] = false := by simpa using hd
            have E := Lib.hid (show Pl.digF 0 xs = (3, (k : Int)) by unfold Pl.digF; rw [hu.bad hlt2 hd]; try simp)
            go_wp2_with (go_at_call 34; refine (rIsDigest_any _ _).mono ?_; rintro e w' ⟨rfl, rfl⟩)
            refine (rfault_any _ _ _).mono ?_
            rintro e w2 ⟨rfl, hb2⟩
            have B2 : Below w.heap.size w w2 := bcall B1 hb2 (by omega)
            obtain ⟨c0, c1, f0, f1, l2⟩ := (Box2.mk c0 c1 f0 f1 l1).below hb2 l1
            go_wp2_with fail
            refine bodyPost_ret (v := .agg #[.int .i64 3, .int .i64 ((k : Int))]) (by simp [results, Try.results13, go_sem, c0, c1]) rfl ⟨by rw [E.out], by go_grown⟩
        · obtain rfl : k = xs.length := by omega
          have E := Lib.hid (show Pl.digF 0 xs = (0, 0) by unfold Pl.digF; rw [hu.all])
          go_wp2_with fail
          refine bodyPost_ret (v := .agg #[.int .i64 0, .int .i64 0]) (by simp [results, Try.results13, go_sem, c0, c1]) rfl ⟨by rw [E.out], by go_grown⟩
  · have e1 : Pl.msgF xs = (2, -1) := by simp [Pl.msgF, hn]
    rw [e1]
    go_enter Try.func13, Try.ntmps13
    go_wp2_with fail
    refine (rfault_any _ _ _).mono ?_
    rintro e w1 ⟨rfl, hb⟩
    obtain ⟨c0, c1, f0, f1, l1⟩ := (Box2.new w (.int .i64 0) (.int .i64 0) 27).below hb (by simp)
    have B1 : Below w.heap.size w w1 := bcall (by go_grown) hb (by simp)
    go_wp2_with fail
    refine bodyPost_ret (v := .agg #[.int .i64 2, .int .i64 (-1)]) (by simp [results, Try.results13, go_sem, c0, c1]) rfl ⟨rfl, by go_grown⟩
theorem split_any (n : Nat) (w : World) (hn : n ≤ 64) :
    Calls Try.prog 51 #[.int .i64 (n : Int)] w fun e w' => e = .returned (.int .i64 (Pl.splitN n : Int)) ∧ w = w' := by
  go_enter Try.func51, Try.ntmps51
  go_wp2
  go_loop [3] (fun k => ∃ f q : Nat, f ≤ 7 ∧ q = 2 ^ (7 - f) ∧ k = .int .i64 (q : Int) ∧ Hid (Pl.splitF f q n = Pl.splitN n)) (fun k => 128 - (intOf k).toNat)
  case atStart => exact ⟨7, 1, Nat.le_refl _, rfl, rfl, rfl⟩
  case round =>
    obtain ⟨f, q, hf, hq, rfl, hu⟩ := hrel
    have hq2 : q ≤ 128 := by
      rw [hq]
      exact Nat.pow_le_pow_right (n := 2) (by decide) (show 7 - f ≤ 7 by omega)
    by_cases hlt : 2 * q < n
    · rcases f with _ | f
      · subst hq
        exact absurd hlt (by simp; omega)
      · have hp : q * 2 = 2 ^ (7 - f) := by
          rw [hq, show 7 - f = (7 - (f + 1)) + 1 by omega, Nat.pow_succ]
        have E := Lib.hid (show Pl.splitF f (q * 2) n = Pl.splitN n by
          have := hu.out
          rw [Pl.splitF, if_pos hlt, Nat.mul_comm] at this
          exact this)
        have hq0 : 0 < q := by rw [hq]; exact Nat.pow_pos (by decide)
        replace hp := Lib.hid hp
        clear hq
        have h2 : (2 * (q : Int)) < (n : Int) := by omega
        go_wp2
        go_round
        case rel => exact ⟨f, q * 2, by omega, hp.out, by go_num, E⟩
        case measure => simp [intOf]; omega
    · have E := Lib.hid (show q = Pl.splitN n by
        have := hu.out
        rcases f with _ | f
        · exact this
        · rw [Pl.splitF, if_neg hlt] at this
          exact this)
      clear hq
      have h2 : ¬ (2 * (q : Int)) < (n : Int) := by omega
      go_wp2
      go_ret
      exact ⟨ret_int (by rw [← E.out]), rfl⟩
theorem tpair_any (a b : Int) (w : World) (ha : Pl.isDigestB a = true) (hb : Pl.isDigestB b = true) :
    Calls Try.prog 52 #[.int .i64 a, .int .i64 b] w fun e w' => e = .returned (.int .i64 (Pl.pairS a b)) ∧ Below w.heap.size w w' := by
  go_enter Try.func52, Try.ntmps52
  go_wp2_with fail
  refine (Pair_ok a b _ ha hb).mono ?_
  rintro e w1 ⟨rfl, hb1⟩
  have B1 := hb1.alloc hb1.size (.cells #[.int .i64 0, .int .i64 0] 27)
  go_wp2_with fail
  go_ret
  exact ⟨rfl, B1⟩
end Go.Proofs.Ytldepnabkdpokaa
