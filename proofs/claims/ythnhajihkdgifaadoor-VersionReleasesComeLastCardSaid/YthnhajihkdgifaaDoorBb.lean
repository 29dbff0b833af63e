/- Contracts of the reference: values of digits, identifiers, their order. -/
import Derived.Test.YthnhajihkdgifaaDoorBa
namespace Go.Proofs.YthnhajihkdgifaaDoor
open Go.RowKit

namespace Pl
theorem valL_snoc (l : List UInt8) (c : UInt8) : valL (l ++ [c]) = 10 * valL l + ((c.toNat : Int) - 48) := by
  unfold valL; rw [List.foldl_append]; rfl
theorem digs_take {l : List UInt8} (h : digsB l = true) (k : Nat) : digsB (l.take k) = true := by
  unfold digsB at *
  rw [List.all_eq_true] at *
  exact fun x hx => h x (List.mem_of_mem_take hx)
theorem digs_get {s : ByteArray} {k : Nat} (h : digsB (bsl s) = true) (hk : k < s.size) : 48 ≤ (s[k].toNat : Int) ∧ (s[k].toNat : Int) ≤ 57 := by
  unfold digsB at h
  rw [List.all_eq_true] at h
  have := digB_iff.1 (h s[k] (by unfold bsl; exact List.getElem_mem (by simpa using hk)))
  omega
theorem valL_le8 {l : List UInt8} (h : digsB l = true) (hl : l.length ≤ 8) : 0 ≤ valL l ∧ valL l < 100000000 := by
  have h1 := valL_bounds h
  have h2 : (10 : Int) ^ l.length ≤ 10 ^ 8 := by
    have := Nat.pow_le_pow_right (n := 10) (by omega) hl
    exact_mod_cast this
  omega
theorem idcB_snoc {s : ByteArray} {k : Nat} (hk : k < s.size) (hu : ((bsl s).take k).all idcB = true) (h : idcB s[k] = true) : ((bsl s).take (k + 1)).all idcB = true := by
  rw [bsl_take s k hk, List.all_append, hu]; simp [h]
theorem idcB_bad {s : ByteArray} {k : Nat} (hk : k < s.size) (h : idcB s[k] = false) : identB (bsl s) = false := by
  have : (bsl s).all idcB = false := by
    rw [List.all_eq_false]
    exact ⟨s[k], by unfold bsl; exact List.getElem_mem (by simpa using hk), by simp [h]⟩
  unfold identB; rw [this]; simp
theorem idcB_eq (c : UInt8) : idcB c = (inB (c.toNat : Int) 48 57 || inB (c.toNat : Int) 97 122 || inB (c.toNat : Int) 65 90 || decide ((c.toNat : Int) = 45)) := by
  have e : (c == 45) = decide ((c.toNat : Int) = 45) := by
    rw [Bool.eq_iff_iff]; simp [← UInt8.toNat_inj]; omega
  unfold idcB digB inB
  rw [e]
  congr 1
  congr 1
  · congr 1
    · rw [Bool.eq_iff_iff]; simp; omega
    · rw [Bool.eq_iff_iff]; simp; omega
  · rw [Bool.eq_iff_iff]; simp; omega
/-- A zero ahead of other digits. -/
def leadB (s : List UInt8) : Bool := digsB s && decide (1 < s.length) && s.head? == some 48
theorem identB_lead (s : List UInt8) : identB s = (decide (1 ≤ s.length) && decide (s.length ≤ 8) && s.all idcB && !leadB s) := rfl
theorem head_get {s : ByteArray} (h : 0 < s.size) : (bsl s).head? = some s[0] := by
  have : (bsl s)[0]? = some s[0] := by
    rw [List.getElem?_eq_getElem (by simpa [bsl_len] using h)]; rfl
  rw [← this, List.head?_eq_getElem?]
end Pl

theorem value_any (s : ByteArray) (w : World) (hs : s.size ≤ 8) (hd : Pl.digsB (Pl.bsl s) = true) :
    Calls Tryd.prog 48 #[.string s] w fun e w' => e = .returned (.int .i64 (Pl.valL (Pl.bsl s))) ∧ w = w' := by
  have HD := Lib.hid hd
  clear hd
  go_enter Tryd.func48, Tryd.ntmps48
  go_wp2
  go_loop [3, 4] (fun n i => ∃ k : Nat, k ≤ s.size ∧ i = .int .i64 k ∧ n = .int .i64 (Pl.valL ((Pl.bsl s).take k))) (fun _ i => s.size - (intOf i).toNat)
  case atStart => exact ⟨0, Nat.zero_le _, rfl, rfl⟩
  case round =>
    obtain ⟨k, hk, rfl, rfl⟩ := hrel
    by_cases hlt : k < s.size
    · have hts := Lib.hid (show Pl.valL ((Pl.bsl s).take (k + 1)) = _ by rw [Pl.bsl_take s k hlt, Pl.valL_snoc])
      have hb := Pl.valL_le8 (Pl.digs_take HD.out k) (by rw [List.length_take, Pl.bsl_len]; omega)
      have hc := Pl.digs_get HD.out hlt
      generalize Pl.valL ((Pl.bsl s).take k) = V at *
      go_wp2
      go_round
      case rel => exact ⟨k + 1, by omega, by go_num, by rw [hts.out]⟩
      case measure => simp [intOf]; omega
    · have e : (Pl.bsl s).take k = Pl.bsl s := List.take_of_length_le (by rw [Pl.bsl_len]; omega)
      rw [e]
      clear e
      go_wp2
      go_ret
      exact ⟨rfl, rfl⟩

set_option maxHeartbeats 1000000 in
theorem Identifier_any (s : ByteArray) (w : World) (hs : s.size ≤ 9223372036854775807) :
    Calls Tryd.prog 28 #[.string s] w fun e w' => e = .returned (.bool (Pl.identB (Pl.bsl s))) ∧ w = w' := by
  by_cases h1 : 1 ≤ s.size ∧ s.size ≤ 8
  · have i1 : Pl.inB (s.size : Int) 1 8 = true := Pl.inB_true.2 (by omega)
    have hlen := Lib.hid (Pl.bsl_len s)
    cases hl : Pl.leadB (Pl.bsl s) with
    | true =>
      have E := Lib.hid (show Pl.identB (Pl.bsl s) = false by rw [Pl.identB_lead, hl]; simp)
      have h2 := hl
      unfold Pl.leadB at h2
      simp only [Bool.and_eq_true, decide_eq_true_eq, beq_iff_eq] at h2
      have hn : Pl.numB (Pl.bsl s) = true := by unfold Pl.numB; rw [h2.1.1]; simp [hlen.out]; omega
      have hz : ((s[0]'(by omega)).toNat : Int) = 48 := by
        have := h2.2
        rw [Pl.head_get (by omega)] at this
        simp only [Option.some.injEq] at this
        rw [this]; rfl
      have hz' : (((s[0]'(by omega)).toNat : Int) == 48) = true := by simp [hz]
      have hgt : 1 < s.size := by have := h2.1.2; rw [hlen.out] at this; exact this
      clear h2 hl hz
      go_enter Tryd.func28, Tryd.ntmps28
      go_wp2_with (first | (go_at_call 26; refine (rin_any _ _ _ _).mono ?_; rintro e w' ⟨rfl, rfl⟩) | (go_at_call 42; refine (Numeric_any _ _ hs).mono ?_; rintro e w' ⟨rfl, rfl⟩))
      go_ret
      exact ⟨ret_bool E.out.symm, rfl⟩
    | false =>
      have hcase : Pl.numB (Pl.bsl s) = false ∨ (Pl.numB (Pl.bsl s) = true ∧ s.size ≤ 1) ∨ (Pl.numB (Pl.bsl s) = true ∧ 1 < s.size ∧ ∃ h : 0 < s.size, ((s[0].toNat : Int) == 48) = false) := by
        cases hn : Pl.numB (Pl.bsl s) with
        | false => exact .inl rfl
        | true =>
          right
          by_cases hg : 1 < s.size
          · right
            refine ⟨rfl, hg, by omega, ?_⟩
            have h2 := hl
            unfold Pl.leadB at h2
            unfold Pl.numB at hn
            simp only [Bool.and_eq_true] at hn
            rw [hn.1, hlen.out, decide_eq_true hg, Pl.head_get (by omega)] at h2
            simp only [Bool.true_and, beq_eq_false_iff_ne, ne_eq, Option.some.injEq] at h2
            rw [beq_eq_false_iff_ne]
            intro h3
            exact h2 (by rw [← UInt8.toNat_inj]; show _ = 48; omega)
          · exact .inl ⟨rfl, by omega⟩
      have HL := Lib.hid hl
      clear hl
      rcases hcase with hn | ⟨hn, hg⟩ | ⟨hn, hg, _, hz⟩
      all_goals
        go_enter Tryd.func28, Tryd.ntmps28
        go_wp2_with (first | (go_at_call 26; refine (rin_any _ _ _ _).mono ?_; rintro e w' ⟨rfl, rfl⟩) | (go_at_call 42; refine (Numeric_any _ _ hs).mono ?_; rintro e w' ⟨rfl, rfl⟩))
        go_loop [3] (fun i => ∃ k : Nat, k ≤ s.size ∧ i = .int .i64 k ∧ Hid (((Pl.bsl s).take k).all Pl.idcB = true)) (fun i => s.size - (intOf i).toNat)
        case atStart => exact ⟨0, Nat.zero_le _, rfl, rfl⟩
        case round =>
          obtain ⟨k, hk, rfl, hu⟩ := hrel
          by_cases hlt : k < s.size
          · have hgood := Lib.hid (fun h => Pl.idcB_snoc (s := s) (k := k) hlt hu.out h)
            have hbad := Lib.hid (fun h => Pl.idcB_bad (s := s) (k := k) hlt h)
            have hq := Pl.idcB_eq s[k]
            have finG : Pl.idcB s[k] = true → Hid (((Pl.bsl s).take (k + 1)).all Pl.idcB = true) := fun h => hgood.out h
            have hc : Pl.inB (s[k].toNat : Int) 48 57 = true ∧ Pl.idcB s[k] = true ∨ Pl.inB (s[k].toNat : Int) 48 57 = false ∧ Pl.inB (s[k].toNat : Int) 97 122 = true ∧ Pl.idcB s[k] = true ∨
                Pl.inB (s[k].toNat : Int) 48 57 = false ∧ Pl.inB (s[k].toNat : Int) 97 122 = false ∧ Pl.inB (s[k].toNat : Int) 65 90 = true ∧ Pl.idcB s[k] = true ∨
                Pl.inB (s[k].toNat : Int) 48 57 = false ∧ Pl.inB (s[k].toNat : Int) 97 122 = false ∧ Pl.inB (s[k].toNat : Int) 65 90 = false ∧ ((s[k].toNat : Int) != 45) = false ∧ Pl.idcB s[k] = true ∨
                Pl.inB (s[k].toNat : Int) 48 57 = false ∧ Pl.inB (s[k].toNat : Int) 97 122 = false ∧ Pl.inB (s[k].toNat : Int) 65 90 = false ∧ ((s[k].toNat : Int) != 45) = true ∧ Pl.idcB s[k] = false := by
              rw [hq]
              cases Pl.inB (s[k].toNat : Int) 48 57 <;> cases Pl.inB (s[k].toNat : Int) 97 122 <;> cases Pl.inB (s[k].toNat : Int) 65 90 <;> simp
              by_cases h45 : (s[k].toNat : Int) = 45
              · left; exact h45
              · right; exact h45
            have h255 : (s[k].toNat : Int) ≤ 255 := by have := s[k].toNat_lt; omega
            clear hq hgood
            rcases hc with ⟨a1, g⟩ | ⟨a1, a2, g⟩ | ⟨a1, a2, a3, g⟩ | ⟨a1, a2, a3, a4, g⟩ | ⟨a1, a2, a3, a4, g⟩
            all_goals first
              | (replace finG := finG g
                 clear g hbad
                 go_wp2_with (go_at_call 26; refine (rin_any _ _ _ _).mono ?_; rintro e w' ⟨rfl, rfl⟩)
                 go_round
                 case rel => exact ⟨k + 1, by omega, by go_num, finG⟩
                 case measure => simp [intOf]; omega)
              | (have E := Lib.hid (hbad.out g)
                 clear g hbad finG
                 go_wp2_with (go_at_call 26; refine (rin_any _ _ _ _).mono ?_; rintro e w' ⟨rfl, rfl⟩)
                 go_ret
                 exact ⟨ret_bool E.out.symm, rfl⟩)
          · have E := Lib.hid (show Pl.identB (Pl.bsl s) = true by
              have := hu.out
              rw [List.take_of_length_le (by rw [Pl.bsl_len]; omega)] at this
              rw [Pl.identB_lead, this, HL.out, Pl.bsl_len]
              simp [h1])
            go_wp2
            go_ret
            exact ⟨ret_bool E.out.symm, rfl⟩
  · have i1 : Pl.inB (s.size : Int) 1 8 = false := Pl.inB_false.2 (by omega)
    have E := Lib.hid (show Pl.identB (Pl.bsl s) = false by
      rw [Pl.identB_lead, Pl.bsl_len]
      by_cases h : 1 ≤ s.size
      · rw [decide_eq_false (show ¬ s.size ≤ 8 by omega)]; simp
      · rw [decide_eq_false h]; simp)
    clear h1
    go_enter Tryd.func28, Tryd.ntmps28
    go_wp2_with (first | (go_at_call 26; refine (rin_any _ _ _ _).mono ?_; rintro e w' ⟨rfl, rfl⟩) | (go_at_call 42; refine (Numeric_any _ _ hs).mono ?_; rintro e w' ⟨rfl, rfl⟩))
    go_ret
    exact ⟨ret_bool E.out.symm, rfl⟩
end Go.Proofs.YthnhajihkdgifaaDoor
