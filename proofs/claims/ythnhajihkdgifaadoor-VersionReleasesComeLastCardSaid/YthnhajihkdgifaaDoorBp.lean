/- Contracts of the reference: the part before a byte; canonical numbers. -/
import Derived.Test.YthnhajihkdgifaaDoorBo
namespace Go.Proofs.YthnhajihkdgifaaDoor
open Go.RowKit

namespace Pl
theorem while_at {α : Type} {p : α → Bool} : ∀ {xs : List α} {k : Nat}, UpTo p xs k → k ≤ xs.length → (∀ h : k < xs.length, p xs[k] = false) → xs.takeWhile p = xs.take k ∧ xs.dropWhile p = xs.drop k
  | [], k, _, hk, _ => by
    have : k = 0 := by simpa using hk
    subst this
    exact ⟨rfl, rfl⟩
  | x :: xs, 0, _, _, hs => by
    have := hs (by simp)
    simp only [List.getElem_cons_zero] at this
    exact ⟨by rw [List.takeWhile_cons_of_neg (by simp [this])]; rfl, by rw [List.dropWhile_cons_of_neg (by simp [this])]; rfl⟩
  | x :: xs, k + 1, h, hk, hs => by
    have h0 := h 0 (by simp) (by omega)
    simp only [List.getElem_cons_zero] at h0
    have ih := while_at (p := p) (xs := xs) (k := k) (fun j hj hjk => by have := h (j + 1) (by simpa using hj) (by omega); simpa using this) (by simpa using hk) (fun h2 => by have := hs (by simpa using h2); simpa using this)
    exact ⟨by rw [List.takeWhile_cons_of_pos (by simp [h0]), ih.1]; rfl, by rw [List.dropWhile_cons_of_pos (by simp [h0]), ih.2]; rfl⟩
theorem mkS_bsl (s : ByteArray) : mkS (bsl s) = s := by simp [mkS, bsl]
theorem mkS_take (s : ByteArray) (k : Nat) : mkS ((bsl s).take k) = s.extract 0 k := by
  rw [← mkS_bsl (s.extract 0 k)]
  congr 1
  show _ = (s.extract 0 k).data.toList
  rw [Lib.extract_from_zero]; rfl
theorem mkS_drop (s : ByteArray) (k : Nat) : mkS ((bsl s).drop k) = s.extract k s.size := by
  rw [← mkS_bsl (s.extract k s.size)]
  congr 1
  show _ = (s.extract k s.size).data.toList
  rw [Lib.extract_to_end]; rfl
end Pl

set_option maxHeartbeats 1000000 in
theorem until_any (s : ByteArray) (x y : Int) (w : World) (hs : s.size ≤ 9223372036854775807) :
    Calls Tryd.prog 40 #[.string s, .int .u8 x, .int .u8 y] w fun e w' => e = .returned (.tuple #[.string (Pl.mkS (Pl.untilA x y (Pl.bsl s))), .string (Pl.mkS (Pl.untilZ x y (Pl.bsl s)))]) ∧ ∃ q, w' = w.drewN q := by
  have fin : ∀ (k : Nat), UpTo (Pl.notE x y) (Pl.bsl s) k → k ≤ s.size → (∀ h : k < s.size, Pl.notE x y s[k] = false) → s.extract 0 k = Pl.mkS (Pl.untilA x y (Pl.bsl s)) ∧ s.extract k s.size = Pl.mkS (Pl.untilZ x y (Pl.bsl s)) := fun k h1 h2 h3 => by
    have h := Pl.while_at h1 (by rw [Pl.bsl_len]; exact h2) (fun h => h3 (by rwa [Pl.bsl_len] at h))
    unfold Pl.untilA Pl.untilZ
    rw [h.1, h.2, Pl.mkS_take, Pl.mkS_drop]
    exact ⟨rfl, rfl⟩
  replace fin := Lib.hid fin
  go_enter Tryd.func40, Tryd.ntmps40
  go_wp2_with fail
  go_loop [8] (fun i => ∃ k : Nat, k ≤ s.size ∧ i = .int .i64 k ∧ Hid (UpTo (Pl.notE x y) (Pl.bsl s) k)) (fun i => s.size - (intOf i).toNat)
  case atStart => exact ⟨0, Nat.zero_le _, rfl, UpTo.zero _ _⟩
  case round =>
    obtain ⟨k, hk, rfl, hu⟩ := hrel
    have k0 : (0 : Int) ≤ (k : Int) := by omega
    have k1 : (k : Int) ≤ (s.size : Int) := by omega
    by_cases hlt : k < s.size
    · have sc := Lib.hid (fun h : Pl.notE x y s[k] = true => hu.out.succ (by rw [Pl.bsl_len]; exact hlt) h)
      have en := Lib.hid (fun h : Pl.notE x y s[k] = false => fin.out k hu.out hk (fun _ => h))
      by_cases h1 : (s[k].toNat : Int) = x
      · have t1 := bneF h1
        have t2 := beqT h1
        obtain ⟨E1, E2⟩ := en.out (by unfold Pl.notE; rw [t2]; rfl)
        have F1 := Lib.hid E1
        have F2 := Lib.hid E2
        clear E1 E2 en sc h1
        go_wp2_with fail
        go_quiet (fail)
        go_wp2_with fail
        go_returns
        exact ⟨by rw [← F1.out, ← F2.out]; rfl, _, rfl⟩
      · by_cases h2 : (s[k].toNat : Int) = y
        · have t1 := bneT h1
          have t2 := beqF h1
          have t3 := bneF h2
          have t4 := beqT h2
          obtain ⟨E1, E2⟩ := en.out (by unfold Pl.notE; rw [t4]; simp)
          have F1 := Lib.hid E1
          have F2 := Lib.hid E2
          clear E1 E2 en sc h1 h2
          go_wp2_with fail
          go_quiet (fail)
          go_wp2_with fail
          go_returns
          exact ⟨by rw [← F1.out, ← F2.out]; rfl, _, rfl⟩
        · have t1 := bneT h1
          have t2 := beqF h1
          have t3 := bneT h2
          have t4 := beqF h2
          have st := Lib.hid (sc.out (by unfold Pl.notE; rw [t2, t4]; rfl))
          clear en sc h1 h2
          go_wp2_with fail
          go_round
          case rel => exact ⟨k + 1, hlt, by go_num, st⟩
          case measure => simp [intOf]; omega
    · obtain ⟨E1, E2⟩ := fin.out k hu.out hk (fun h => absurd h hlt)
      have F1 := Lib.hid E1
      have F2 := Lib.hid E2
      clear E1 E2
      go_wp2_with fail
      go_quiet (fail)
      go_wp2_with fail
      go_returns
      exact ⟨by rw [← F1.out, ← F2.out]; rfl, _, rfl⟩
namespace Pl
theorem valL_app (a b : List UInt8) : valL (a ++ b) = valL a * 10 ^ b.length + valL b := by
  show (a ++ b).foldl _ 0 = _
  rw [List.foldl_append, fold_val]; rfl
theorem valL_take {l : List UInt8} (h : digsB l = true) (k : Nat) : valL (l.take k) ≤ valL l := by
  have h1 := digs_take h k
  have h2 : digsB (l.drop k) = true := by
    unfold digsB at h ⊢
    rw [List.all_eq_true] at h ⊢
    exact fun x hx => h x (List.mem_of_mem_drop hx)
  have b1 := valL_bounds h1
  have b2 := valL_bounds h2
  conv => rhs; rw [← List.take_append_drop k l, valL_app]
  have hp : (1 : Int) ≤ 10 ^ (l.drop k).length := Int.pow_pos (show (0 : Int) < 10 by omega)
  have := Int.mul_le_mul_of_nonneg_left hp b1.1
  omega
theorem numOf_no {l : List UInt8} (h : numB l = false ∨ 19 < l.length ∨ leadB l = true ∨ 1000000000 < valL l) : numOf l = -1 := by
  unfold numOf
  rw [if_neg]
  rintro ⟨h1, h2, h3⟩
  simp only [canonB, Bool.and_eq_true, Bool.or_eq_true, decide_eq_true_eq] at h1
  rcases h with h | h | h | h
  · unfold numB at h; rw [h1.1.1, decide_eq_true h1.1.2] at h; cases h
  · omega
  · simp only [leadB, Bool.and_eq_true, decide_eq_true_eq] at h
    rcases h1.2 with h4 | h4
    · omega
    · rw [h.2] at h4; cases h4
  · omega
theorem numOf_yes {l : List UInt8} (h1 : numB l = true) (h2 : l.length ≤ 19) (h3 : leadB l = false) (h4 : valL l ≤ 1000000000) : numOf l = valL l := by
  unfold numOf
  simp only [numB, Bool.and_eq_true, decide_eq_true_eq] at h1
  rw [if_pos]
  refine ⟨?_, h2, h4⟩
  unfold canonB
  rw [h1.1, decide_eq_true h1.2]
  simp only [leadB, h1.1, Bool.true_and, Bool.and_eq_false_iff, decide_eq_false_iff_not] at h3
  rcases h3 with h3 | h3
  · rw [decide_eq_true (by omega)]; rfl
  · rw [h3]; simp
theorem num_digs {l : List UInt8} (h : numB l = true) : digsB l = true := by
  simp only [numB, Bool.and_eq_true] at h; exact h.1
end Pl

set_option maxHeartbeats 1000000 in
theorem NumberOf_any (s : ByteArray) (w : World) (hs : s.size ≤ 9223372036854775807) :
    Calls Tryd.prog 41 #[.string s, .int .i64 1000000000] w fun e w' => e = .returned (.int .i64 (Pl.numOf (Pl.bsl s))) ∧ w = w' := by
  cases hn : Pl.numB (Pl.bsl s) with
  | false =>
    have E := Lib.hid (Pl.numOf_no (.inl hn))
    go_enter Tryd.func41, Tryd.ntmps41
    go_wp2_with (go_at_call 42; refine (Numeric_any _ _ (by assumption)).mono ?_; rintro e w' ⟨rfl, rfl⟩)
    go_ret
    exact ⟨ret_int E.out.symm, rfl⟩
  | true =>
    by_cases h19 : 19 < s.size
    · have E := Lib.hid (Pl.numOf_no (l := Pl.bsl s) (.inr (.inl (by rw [Pl.bsl_len]; exact h19))))
      go_enter Tryd.func41, Tryd.ntmps41
      go_wp2_with (go_at_call 42; refine (Numeric_any _ _ (by assumption)).mono ?_; rintro e w' ⟨rfl, rfl⟩)
      go_ret
      exact ⟨ret_int E.out.symm, rfl⟩
    · have h0 : 0 < s.size := by
        simp only [Pl.numB, Bool.and_eq_true, Pl.bsl_len] at hn
        exact of_decide_eq_true hn.2
      have HD := Lib.hid (Pl.num_digs hn)
      have YES := Lib.hid (fun h3 h4 => Pl.numOf_yes hn (by rw [Pl.bsl_len]; omega) h3 h4)
      have NOT := Lib.hid (fun h => Pl.numOf_no (l := Pl.bsl s) (.inr (.inr (.inr h))))
      have LEAD := Lib.hid (fun h => Pl.numOf_no (l := Pl.bsl s) (.inr (.inr (.inl h))))
      rcases Pl.lead_cases s h0 with ⟨d1, d2⟩ | ⟨d1, d3, d2⟩ | ⟨d1, d3, d4, d2⟩ | ⟨d1, d3, d4, d2⟩
      · rw [HD.out] at d1; cases d1
      rotate_left 2
      · have E := Lib.hid (LEAD.out d2)
        clear d1 d2 YES NOT LEAD
        go_enter Tryd.func41, Tryd.ntmps41
        go_wp2_with (go_at_call 42; refine (Numeric_any _ _ (by assumption)).mono ?_; rintro e w' ⟨rfl, rfl⟩)
        go_ret
        exact ⟨ret_int E.out.symm, rfl⟩
      all_goals
        have YES := Lib.hid (fun h4 => YES.out d2 h4)
        clear d1 d2 LEAD
        go_enter Tryd.func41, Tryd.ntmps41
        go_wp2_with (go_at_call 42; refine (Numeric_any _ _ (by assumption)).mono ?_; rintro e w' ⟨rfl, rfl⟩)
        go_loop [5, 6] (fun n i => ∃ k : Nat, k ≤ s.size ∧ i = .int .i64 k ∧ n = .int .i64 (Pl.valL ((Pl.bsl s).take k)) ∧ Pl.valL ((Pl.bsl s).take k) ≤ 1000000000) (fun _ i => s.size - (intOf i).toNat)
        case atStart => exact ⟨0, Nat.zero_le _, rfl, rfl, by simp [Pl.valL]⟩
        case round =>
          obtain ⟨k, hk, rfl, rfl, hv⟩ := hrel
          by_cases hlt : k < s.size
          · have hts := Lib.hid (show Pl.valL ((Pl.bsl s).take (k + 1)) = _ by rw [Pl.bsl_take s k hlt, Pl.valL_snoc])
            have hb := (Pl.valL_bounds (Pl.digs_take HD.out k)).1
            have hc := Pl.digs_get HD.out hlt
            have hm := Lib.hid (Pl.valL_take HD.out (k + 1))
            generalize Pl.valL ((Pl.bsl s).take k) = V at *
            by_cases hg : 10 * V + ((s[k].toNat : Int) - 48) ≤ 1000000000
            · have g1 : decide ((1000000000 - ((s[k].toNat : Int) - 48)) / 10 < V) = false := by simp; omega
              have g2 : V ≤ (1000000000 - ((s[k].toNat : Int) - 48)) / 10 := by omega
              have hv2 := Lib.hid (show Pl.valL ((Pl.bsl s).take (k + 1)) ≤ 1000000000 by rw [hts.out]; exact hg)
              go_wp2_with fail
              go_round
              case rel => exact ⟨k + 1, hlt, by go_num, by rw [hts.out], hv2.out⟩
              case measure => simp [intOf]; omega
            · have g2 : (1000000000 - ((s[k].toNat : Int) - 48)) / 10 < V := by omega
              have E := Lib.hid (NOT.out (by have h1 := hm.out; rw [hts.out] at h1; omega))
              go_wp2_with fail
              go_ret
              exact ⟨ret_int E.out.symm, rfl⟩
          · have e : (Pl.bsl s).take k = Pl.bsl s := List.take_of_length_le (by rw [Pl.bsl_len]; omega)
            rw [e] at hv ⊢
            have E := Lib.hid (YES.out hv)
            clear e
            go_wp2_with fail
            go_ret
            exact ⟨ret_int E.out.symm, rfl⟩
end Go.Proofs.YthnhajihkdgifaaDoor
