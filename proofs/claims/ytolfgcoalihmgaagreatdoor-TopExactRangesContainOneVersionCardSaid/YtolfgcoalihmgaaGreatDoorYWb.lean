/- Contracts: digests of data, signatures. -/
import Derived.Test.YtolfgcoalihmgaaGreatDoorZMPo
import Derived.Test.YtolfgcoalihmgaaGreatDoorYWa
namespace Go.Proofs.YtolfgcoalihmgaaGreatDoor
open Go.RowKit
namespace Pl
end Pl
theorem take_succ {α : Type} (l : List α) (k : Nat) (h : k < l.length) : l.take (k + 1) = l.take k ++ [l[k]] := by
 rw [List.take_succ_eq_append_getElem h]
/-- The digest of data that is not too long. -/
theorem Of_ok (l : List UInt8) (oa : Option Addr) (cap : Nat) (w : World) (hs : Sl w oa l.length cap 1 (byteVals l)) (hn : l.length ≤ 4096) :
 Calls Tryz.prog 128 #[.slice oa l.length cap] w fun e w' => e = .returned (.tuple #[.int .i64 (Pl.ofS l), .agg #[.int .i64 0, .int .i64 0]]) ∧ Below w.heap.size w w' := by
 rcases hs.mem with h0 | ⟨b, off, rfl, hlt, hc⟩
 · have hl : l = [] := by simpa [byteVals] using h0
   subst hl
   clear hn
   go_enter Tryz.func128, Tryz.ntmps128
   go_wp2
   go_rounds 1
   go_returns
   exact ⟨rfl, by go_grown⟩
 · clear hs
   go_enter Tryz.func128, Tryz.ntmps128
   go_wp2
   go_loopw [4, 13] (fun h i wr => ∃ k : Nat, k ≤ l.length ∧ i = .int .i64 k ∧ h = .int .i64 (Pl.ofS (l.take k)) ∧ Below (w.heap.size + 1) (w.alloc (.cells #[.int .i64 0, .int .i64 0] 27)) wr) (fun _ i _ => l.length - (intOf i).toNat)
   case atStart => exact ⟨0, Nat.zero_le _, rfl, rfl, Below.refl _ _⟩
   case round =>
    obtain ⟨k, hk, rfl, rfl, hb⟩ := hrel
    by_cases hlt2 : k < l.length
    · have hcell : wr.cell? ⟨b, off + k, none⟩ = some (.int .u8 (l[k].toNat : Int)) := by
       rw [hb.cell (p := ⟨b, off + k, none⟩) (by simp; omega), World.cell?_alloc_past _ _ _ hlt]
       exact hc k _ (byteVals_get l k hlt2)
      have hr := Pl.ofS_range (l.take k)
      have hr1 := hr.1
      have hr2 : Pl.ofS (l.take k) < 2305843009213693951 := hr.2
      have hu := l[k].toNat_lt
      clear hc hr
      go_wp2_with fail
      refine (next_any _ _ _ _ hr1 hr2 (by omega) (by omega) (by omega) (by omega)).mono ?_
      rintro e w1 ⟨rfl, hb1⟩
      go_wp2_with fail
      go_roundw
      case rel => exact ⟨k + 1, hlt2, by go_num, by rw [take_succ l k hlt2, Pl.ofS_snoc]; unfold Pl.stepS; rw [Int.add_assoc], hb.trans (hb1.mono (by have := hb.size; simpa using this))⟩
      case measure => simp [intOf]; omega
    · obtain rfl : k = l.length := by omega
      obtain ⟨hc1, hf1⟩ := bcell hb
      go_wp2_with fail
      refine bodyPost_ret (v := .tuple #[.int .i64 (Pl.ofS l), .agg #[.int .i64 0, .int .i64 0]]) (by simp [results, Tryz.results128, go_sem, hc1]) rfl ⟨rfl, ?_⟩
      exact ((((Below.refl _ _).alloc (Nat.le_refl _) _).trans (hb.mono (by simp))).setCell (by simp) _).setCell (by simp) _
namespace Pl
end Pl
end Go.Proofs.YtolfgcoalihmgaaGreatDoor
