/- Contracts of package version and of the reference: identifiers and their order. -/
import Derived.Test.YthnhajihkdgifaaDoorBc
namespace Go.Proofs.YthnhajihkdgifaaDoor
open Go.RowKit

namespace Pl
theorem idcB_yes {c : UInt8} (h : 48 ≤ (c.toNat : Int) ∧ (c.toNat : Int) ≤ 57 ∨ 97 ≤ (c.toNat : Int) ∧ (c.toNat : Int) ≤ 122 ∨ 65 ≤ (c.toNat : Int) ∧ (c.toNat : Int) ≤ 90 ∨ (c.toNat : Int) = 45) : idcB c = true := by
  rw [idcB_eq]; simp only [Bool.or_eq_true, inB_true, decide_eq_true_eq]; omega
theorem idcB_no {c : UInt8} (h : ¬ (48 ≤ (c.toNat : Int) ∧ (c.toNat : Int) ≤ 57 ∨ 97 ≤ (c.toNat : Int) ∧ (c.toNat : Int) ≤ 122 ∨ 65 ≤ (c.toNat : Int) ∧ (c.toNat : Int) ≤ 90 ∨ (c.toNat : Int) = 45)) : idcB c = false := by
  rw [← Bool.not_eq_true, idcB_eq]; simp only [Bool.or_eq_true, inB_true, decide_eq_true_eq]; omega
theorem lead_cases (s : ByteArray) (h0 : 0 < s.size) : digsB (bsl s) = false ∧ leadB (bsl s) = false ∨ digsB (bsl s) = true ∧ s.size ≤ 1 ∧ leadB (bsl s) = false ∨
    digsB (bsl s) = true ∧ 1 < s.size ∧ ((s[0].toNat : Int) == 48) = false ∧ leadB (bsl s) = false ∨ digsB (bsl s) = true ∧ 1 < s.size ∧ ((s[0].toNat : Int) == 48) = true ∧ leadB (bsl s) = true := by
  unfold leadB
  rw [bsl_len, head_get h0]
  cases hd : digsB (bsl s) with
  | false => exact .inl ⟨rfl, rfl⟩
  | true =>
    by_cases h1 : s.size ≤ 1
    · exact .inr (.inl ⟨rfl, h1, by rw [decide_eq_false (by omega)]; rfl⟩)
    · rw [decide_eq_true (show 1 < s.size by omega)]
      by_cases hz : (s[0].toNat : Int) = 48
      · refine .inr (.inr (.inr ⟨rfl, by omega, by simp [hz], ?_⟩))
        have : s[0] = 48 := by rw [← UInt8.toNat_inj]; show _ = 48; omega
        rw [this]; rfl
      · refine .inr (.inr (.inl ⟨rfl, by omega, by simp [hz], ?_⟩))
        have : s[0] ≠ 48 := fun h => hz (by rw [h]; rfl)
        simp [this]
end Pl

set_option maxHeartbeats 1000000 in
theorem identifier_any (s : ByteArray) (w : World) (hs : s.size ≤ 9223372036854775807) :
    Calls Tryd.prog 29 #[.string s] w fun e w' => e = .returned (.bool (Pl.identB (Pl.bsl s))) ∧ Below w.heap.size w w' := by
  by_cases h1 : 1 ≤ s.size ∧ s.size ≤ 8
  · have t1 : ((s.size : Int) == 0) = false := beqF (by omega)
    go_enter Tryd.func29, Tryd.ntmps29
    go_wp2_with fail
    go_loop [15] (fun i => ∃ k : Nat, k ≤ s.size ∧ i = .int .i64 k ∧ Hid (((Pl.bsl s).take k).all Pl.idcB = true)) (fun i => s.size - (intOf i).toNat)
    case atStart => exact ⟨0, Nat.zero_le _, rfl, rfl⟩
    case round =>
      obtain ⟨k, hk, rfl, hu⟩ := hrel
      by_cases hlt : k < s.size
      · have hgood := Lib.hid (fun h => Pl.idcB_snoc (s := s) (k := k) hlt hu.out h)
        have hbad := Lib.hid (fun h => Pl.idcB_bad (s := s) (k := k) hlt h)
        have h255 : (s[k].toNat : Int) ≤ 255 := by have := s[k].toNat_lt; omega
        by_cases h45 : (s[k].toNat : Int) = 45
        · have a1 := beqT h45
          have a2 := bneF h45
          replace h45 := Lib.hid h45
          go_wp2_with fail
          all_goals
            go_round
            case rel => exact ⟨k + 1, by omega, by go_num, Lib.hid (hgood.out (Pl.idcB_yes (.inr (.inr (.inr h45.out)))))⟩
            case measure => simp [intOf]; omega
        · have a1 := beqF h45
          have a2 := bneT h45
          replace h45 := Lib.hid h45
          go_wp2_with fail
          all_goals first
            | (go_round
               case rel => exact ⟨k + 1, by omega, by go_num, Lib.hid (hgood.out (Pl.idcB_yes (by omega)))⟩
               case measure => simp [intOf]; omega)
            | (have h46 := h45.out
               go_ret
               exact ⟨ret_bool (hbad.out (Pl.idcB_no (by omega))).symm, Below.refl _ _⟩)
      · have hall : (Pl.bsl s).all Pl.idcB = true := by
          have := hu.out
          rwa [List.take_of_length_le (by rw [Pl.bsl_len]; omega)] at this
        have ha := Lib.hid (Pl.all_ascii hall)
        have E := Lib.hid (show Pl.identB (Pl.bsl s) = !Pl.leadB (Pl.bsl s) by rw [Pl.identB_lead, hall, Pl.bsl_len]; simp [h1])
        have h0 : 0 < s.size := by omega
        clear hall
        rcases Pl.lead_cases s h0 with ⟨d1, d2⟩ | ⟨d1, d3, d2⟩ | ⟨d1, d3, d4, d2⟩ | ⟨d1, d3, d4, d2⟩
        rotate_left 1
        · have t2 : ((s.size : Int) == 1) = true := beqT (by omega)
          rw [d2] at E
          clear d2
          go_wp2_with (go_at_call 43; refine (numeric_any _ _ ha.out).mono ?_; rintro e w' ⟨rfl, hb⟩)
          go_ret
          exact ⟨ret_bool E.out.symm, hb⟩
        · have t2 : ((s.size : Int) == 1) = false := beqF (by omega)
          have t3 : ((s[0].toNat : Int) != 48) = true := by rw [bne, d4]; rfl
          rw [d2] at E
          clear d2
          go_wp2_with (go_at_call 43; refine (numeric_any _ _ ha.out).mono ?_; rintro e w' ⟨rfl, hb⟩)
          go_ret
          exact ⟨ret_bool E.out.symm, hb⟩
        · have t2 : ((s.size : Int) == 1) = false := beqF (by omega)
          have t3 : ((s[0].toNat : Int) != 48) = false := by rw [bne, d4]; rfl
          rw [d2] at E
          clear d2
          go_wp2_with (go_at_call 43; refine (numeric_any _ _ ha.out).mono ?_; rintro e w' ⟨rfl, hb⟩)
          go_ret
          exact ⟨ret_bool E.out.symm, hb⟩
        all_goals
          rw [d2] at E
          clear d2
          go_wp2_with (go_at_call 43; refine (numeric_any _ _ ha.out).mono ?_; rintro e w' ⟨rfl, hb⟩)
          go_ret
          exact ⟨ret_bool E.out.symm, hb⟩
  · have E := Lib.hid (show Pl.identB (Pl.bsl s) = false by
      rw [Pl.identB_lead, Pl.bsl_len]
      by_cases h : 1 ≤ s.size
      · rw [decide_eq_false (show ¬ s.size ≤ 8 by omega)]; simp
      · rw [decide_eq_false h]; simp)
    have hc : s.size = 0 ∨ 8 < s.size := by omega
    clear h1
    rcases hc with hc | hc
    · have t1 : ((s.size : Int) == 0) = true := by simp [hc]
      clear hc
      go_enter Tryd.func29, Tryd.ntmps29
      go_wp2_with fail
      go_ret
      exact ⟨ret_bool E.out.symm, Below.refl _ _⟩
    · have t1 : ((s.size : Int) == 0) = false := beqF (by omega)
      go_enter Tryd.func29, Tryd.ntmps29
      go_wp2_with fail
      go_ret
      exact ⟨ret_bool E.out.symm, Below.refl _ _⟩
end Go.Proofs.YthnhajihkdgifaaDoor
