/- Contracts of small helpers of the laws. -/
import Derived.Test.YtkhkijpkgogncaaWi
namespace Go.Proofs.Ytkhkijpkgogncaa
open Go.RowKit

theorem Has_any (xs : List Int) (n : Int) (oa : Option Addr) (cap : Nat) (w : World) (hs : Sl w oa xs.length cap 1 (intVals xs)) (hm : xs.length ≤ 9223372036854775807) :
    Calls Try.prog 30 #[.slice oa xs.length cap, .int .i64 n] w fun e w' => e = .returned (.bool (decide (n ∈ xs))) ∧ w = w' := by
  rcases hs.mem with h0 | ⟨b, off, rfl, hlt, hc⟩
  · have hl : xs = [] := by simpa [intVals] using h0
    subst hl
    go_enter Try.func30, Try.ntmps30
    go_wp2
    go_rounds 1
    go_ret
    exact ⟨ret_bool (by simp), rfl⟩
  · clear hs
    go_enter Try.func30, Try.ntmps30
    go_wp2
    go_loop [5] (fun i => ∃ k : Nat, k ≤ xs.length ∧ i = .int .i64 k ∧ Hid (n ∉ xs.take k)) (fun i => xs.length - (intOf i).toNat)
    case atStart => exact ⟨0, Nat.zero_le _, rfl, by show n ∉ [] ; simp⟩
    case round =>
      obtain ⟨k, hk, rfl, hu⟩ := hrel
      by_cases hlt2 : k < xs.length
      · have hcell : w.cell? ⟨b, off + k, none⟩ = some (.int .i64 xs[k]) := hc k _ (intVals_get xs k hlt2)
        clear hc
        by_cases he : xs[k] = n
        · have t1 : (xs[k] == n) = true := by simp [he]
          have E := Lib.hid (show n ∈ xs from he ▸ List.getElem_mem hlt2)
          clear he
          go_wp2
          go_ret
          exact ⟨ret_bool (by simp [E.out]), rfl⟩
        · have t1 : (xs[k] == n) = false := by simp [he]
          have E := Lib.hid (show n ∉ xs.take (k + 1) by rw [take_succ xs k hlt2]; simp only [List.mem_append, List.mem_singleton, not_or]; exact ⟨hu.out, fun e => he e.symm⟩)
          clear he
          go_wp2
          go_round
          case rel => exact ⟨k + 1, hlt2, by go_num, E⟩
          case measure => simp [intOf]; omega
      · have E := Lib.hid (show n ∉ xs by have := hu.out; rwa [List.take_of_length_le (by omega)] at this)
        go_wp2
        go_ret
        exact ⟨ret_bool (by simp [E.out]), rfl⟩
theorem lin_any (n lo hi : Int) (w : World) :
    Calls Try.prog 18 #[.int .i64 n, .int .i64 lo, .int .i64 hi] w fun e w' => e = .returned (.bool (Pl.inB n lo hi)) ∧ w = w' := by
  go_enter Try.func18, Try.ntmps18
  go_wp2
  all_goals (go_ret; exact ⟨ret_bool (by unfold Pl.inB; simp; omega), rfl⟩)
end Go.Proofs.Ytkhkijpkgogncaa
