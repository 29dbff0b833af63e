/- Contracts of the reference's small functions on versions: digits, identifiers, signs. -/
import Derived.Test.YthnhajihkdgifaaDoorMg
import Derived.Test.YthnhajihkdgifaaDoorPp
namespace Go.Proofs.YthnhajihkdgifaaDoor
open Go.RowKit

theorem beqF {a b : Int} (h : a ≠ b) : (a == b) = false := by simp [h]
theorem beqT {a b : Int} (h : a = b) : (a == b) = true := by simp [h]
theorem bneF {a b : Int} (h : a = b) : (a != b) = false := by simp [h]
theorem bneT {a b : Int} (h : a ≠ b) : (a != b) = true := by simp [h]
namespace Pl
/-- At least one byte, only digits. -/
def numB (s : List UInt8) : Bool := digsB s && decide (0 < s.length)
theorem bsl_len (s : ByteArray) : (bsl s).length = s.size := rfl
theorem bsl_take (s : ByteArray) (k : Nat) (h : k < s.size) : (bsl s).take (k + 1) = (bsl s).take k ++ [s[k]] := by
  unfold bsl
  rw [List.take_succ_eq_append_getElem (by simpa using h)]; rfl
theorem digs_snoc {l : List UInt8} {c : UInt8} : digsB (l ++ [c]) = (digsB l && digB c) := by simp [digsB]
theorem digs_mem {s : ByteArray} {k : Nat} (h : k < s.size) (hd : digB s[k] = false) : digsB (bsl s) = false := by
  unfold digsB
  rw [List.all_eq_false]
  exact ⟨s[k], by unfold bsl; exact List.getElem_mem (by simpa using h), by simp [hd]⟩
theorem digB_of {c : UInt8} (h1 : 48 ≤ (c.toNat : Int)) (h2 : (c.toNat : Int) ≤ 57) : digB c = true := digB_iff.2 (by omega)
theorem digB_not {c : UInt8} (h : (c.toNat : Int) < 48 ∨ 57 < (c.toNat : Int)) : digB c = false := by
  rw [← Bool.not_eq_true, digB_iff]; omega
end Pl

theorem Sign3_any (a b : Int) (w : World) : Calls Tryd.prog 31 #[.int .i64 a, .int .i64 b] w fun e w' => e = .returned (.int .i64 (Pl.sgn a b)) ∧ w = w' := by
  go_enter Tryd.func31, Tryd.ntmps31
  go_wp2
  all_goals (go_ret; exact ⟨ret_int (by unfold Pl.sgn; repeat' split <;> omega), rfl⟩)

theorem Numeric_any (s : ByteArray) (w : World) (hs : s.size ≤ 9223372036854775807) :
    Calls Tryd.prog 42 #[.string s] w fun e w' => e = .returned (.bool (Pl.numB (Pl.bsl s))) ∧ w = w' := by
  go_enter Tryd.func42, Tryd.ntmps42
  go_wp2
  go_loop [3] (fun i => ∃ k : Nat, k ≤ s.size ∧ i = .int .i64 k ∧ Hid (Pl.digsB ((Pl.bsl s).take k) = true)) (fun i => s.size - (intOf i).toNat)
  case atStart => exact ⟨0, Nat.zero_le _, rfl, rfl⟩
  case round =>
    obtain ⟨k, hk, rfl, hu⟩ := hrel
    by_cases hlt : k < s.size
    · have hts := Lib.hid (Pl.bsl_take s k hlt)
      have hm := Lib.hid (fun h => Pl.digs_mem (s := s) (k := k) hlt h)
      go_wp2
      all_goals first
        | (go_round
           case rel => exact ⟨k + 1, by omega, by go_num, Lib.hid (by rw [hts.out, Pl.digs_snoc, hu.out, Pl.digB_of (by omega) (by omega)]; rfl)⟩
           case measure => simp [intOf]; omega)
        | (go_ret
           exact ⟨ret_bool (by unfold Pl.numB; rw [hm.out (Pl.digB_not (by omega))]; rfl), rfl⟩)
    · have E := Lib.hid (show Pl.digsB (Pl.bsl s) = true by have := hu.out; rwa [List.take_of_length_le (by rw [Pl.bsl_len]; omega)] at this)
      go_wp2
      go_ret
      exact ⟨ret_bool (by unfold Pl.numB; rw [E.out, Pl.bsl_len]; simp), rfl⟩
end Go.Proofs.YthnhajihkdgifaaDoor
