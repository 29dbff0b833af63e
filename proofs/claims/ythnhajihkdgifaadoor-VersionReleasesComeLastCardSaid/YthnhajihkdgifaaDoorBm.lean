/- Contracts of the reference: decimal digits; the part before a byte; canonical numbers. -/
import Derived.Test.YthnhajihkdgifaaDoorBl
namespace Go.Proofs.YthnhajihkdgifaaDoor
open Go.RowKit

namespace Pl
theorem digS_small {n : Nat} (h : n < 10) : Lib.decDigits n = [UInt8.ofNat (48 + n)] := by rw [Lib.decDigits, dif_pos h]
theorem digS_big {n : Nat} (h : ¬ n < 10) : Lib.decDigits n = Lib.decDigits (n / 10) ++ [UInt8.ofNat (48 + n % 10)] := by rw [Lib.decDigits, dif_neg h]
theorem pick_digit : ∀ d : Fin 10, (⟨#[48, 49, 50, 51, 52, 53, 54, 55, 56, 57]⟩ : ByteArray).extract d.val (d.val + 1) = ⟨#[UInt8.ofNat (48 + d.val)]⟩ := by decide +kernel
/-- One digit. -/
def dg (d : Nat) : ByteArray := ⟨#[UInt8.ofNat (48 + d)]⟩
theorem pick_digit' {d : Nat} (h : d < 10) : (⟨#[48, 49, 50, 51, 52, 53, 54, 55, 56, 57]⟩ : ByteArray).extract d (d + 1) = dg d := pick_digit ⟨d, h⟩
theorem dec_len : ∀ (k n : Nat), n < 10 ^ (k + 1) → (Lib.decDigits n).length ≤ k + 1
  | 0, n, h => by rw [digS_small (by simpa using h)]; simp
  | k + 1, n, h => by
    by_cases h10 : n < 10
    · rw [digS_small h10]; simp
    · rw [digS_big h10, List.length_append]
      have := dec_len k (n / 10) (by rw [Nat.pow_succ] at h; omega)
      simp; omega
theorem dec_len10 {n : Nat} (h : n ≤ 1000000000) : (Lib.decDigits n).length ≤ 10 := dec_len 9 n (by omega)
/-- The digits as a string. -/
def decS (n : Nat) : ByteArray := ⟨(Lib.decDigits n).toArray⟩
theorem decS_size {n : Nat} (h : n ≤ 1000000000) : (decS n).size ≤ 10 := by
  have := dec_len10 h
  unfold decS
  show (Lib.decDigits n).toArray.size ≤ 10
  simpa using this
theorem dg_size (d : Nat) : (dg d).size = 1 := rfl
theorem ba_app (a b : List UInt8) : (⟨a.toArray⟩ : ByteArray) ++ ⟨b.toArray⟩ = ⟨(a ++ b).toArray⟩ := by
  apply ByteArray.ext
  simp
end Pl

theorem Digits_any : ∀ (n : Nat) (w : World), n ≤ 1000000000 → Calls Tryd.prog 36 #[.int .i64 (n : Int)] w fun e w' => e = .returned (.string (Pl.decS n)) ∧ ∃ q, w' = w.drewN q := by
  intro n
  induction n using Nat.strongRecOn with
  | _ n ih =>
    intro w hn
    by_cases h : n < 10
    · have E := Lib.hid (Pl.digS_small h)
      have P := Pl.pick_digit' h
      go_enter Tryd.func36, Tryd.ntmps36
      go_wp2_with fail
      go_ret
      exact ⟨by show Ending.returned (Value.string (Pl.dg n)) = _; rw [Pl.decS, E.out]; rfl, 0, rfl⟩
    · have E := Lib.hid (Pl.digS_big h)
      obtain ⟨D, hD⟩ : ∃ D, n % 10 = D := ⟨_, rfl⟩
      obtain ⟨Q, hQ⟩ : ∃ Q, n / 10 = Q := ⟨_, rfl⟩
      rw [hD, hQ] at E
      have P := Pl.pick_digit' (show D < 10 by omega)
      have I := Lib.hid (ih Q (by omega))
      have d1 : (n : Int).tdiv 10 = (Q : Int) := by rw [Int.tdiv_eq_ediv_of_nonneg (by omega)]; omega
      have d2 : (n : Int).tmod 10 = (D : Int) := by rw [Int.tmod_eq_emod_of_nonneg (by omega)]; omega
      have hQ2 : Q ≤ 1000000000 := by omega
      have hD2 : D < 10 := by omega
      clear ih hD hQ
      have s1 : ((Pl.decS Q).size : Int) ≤ 8388608 := by have := Pl.decS_size hQ2; omega
      have s2 : ((Pl.dg D).size : Int) ≤ 8388608 := by rw [Pl.dg_size]; omega
      have EQ := Lib.hid (show Pl.decS Q ++ Pl.dg D = Pl.decS n by unfold Pl.decS Pl.dg; rw [E.out, ← Pl.ba_app])
      generalize Pl.decS Q = SQ at *
      generalize Pl.dg D = SD at *
      have d3 : IntKind.i64.wrap (D : Int) = (D : Int) := IntWalk.i64_in _ (by omega)
      have d4 : IntKind.i64.wrap (Q : Int) = (Q : Int) := IntWalk.i64_in _ (by omega)
      have d5 : IntKind.i64.wrap ((D : Int) + 1) = (D : Int) + 1 := IntWalk.i64_in _ (by omega)
      have d6 : (D : Int) + 1 ≤ 10 := by omega
      have d7 : (0 : Int) ≤ (D : Int) + 1 := by omega
      have d8 : ((D : Int) + 1).toNat = D + 1 := by omega
      go_enter Tryd.func36, Tryd.ntmps36
      go_wp2_with fail
      go_quiet ((go_at_call 36; exact quiet_q (I.out _ hQ2)))
      go_wp2_with fail
      go_ret
      exact ⟨by show Ending.returned (Value.string (SQ ++ SD)) = _; rw [EQ.out], _, rfl⟩
end Go.Proofs.YthnhajihkdgifaaDoor
