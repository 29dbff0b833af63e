/- Contracts of package keyring: the check of an event. -/
import Derived.Test.YtldepnabkdpokaaMg
import Derived.Test.YtldepnabkdpokaaKu
import Derived.Test.YtldepnabkdpokaaKl
import Derived.Test.YtldepnabkdpokaaKe
namespace Go.Proofs.Ytldepnabkdpokaa
open Go.RowKit

theorem kIsTime_any (n : Int) (w : World) : Calls Try.prog 24 #[.int .i64 n] w fun e w' => e = .returned (.bool (Pl.isTimeB n)) ∧ w = w' := by
  go_enter Try.func24, Try.ntmps24
  go_wp2
  all_goals (go_ret; exact ⟨ret_bool (by unfold Pl.isTimeB Pl.inB; simp; omega), rfl⟩)
theorem isUser_any (n : Int) (w : World) : Calls Try.prog 23 #[.int .i64 n] w fun e w' => e = .returned (.bool (Pl.isUserB n)) ∧ w = w' := by
  go_enter Try.func23, Try.ntmps23
  go_wp2
  all_goals (go_ret; exact ⟨ret_bool (by unfold Pl.isUserB Pl.inB; simp; omega), rfl⟩)
theorem zeroL (w : World) : (zeroValue 57).run Try.prog w = .ok (lifeV Pl.Life.zero) w := by kernel_rfl
set_option maxHeartbeats 2000000 in
theorem check_any (kd ky us tm last : Int) (l : List Pl.Ev) (g n : Nat) (w : World) (hm : KM Try.prog 3 w g n l) (hw : (Lit.int .i64 ky).wf = true) :
    Calls Try.prog 44 #[.agg #[.int .i64 kd, .int .i64 ky, .int .i64 us, .int .i64 tm], .int .i64 last, .map (some g)] w fun e w' => e = .returned (.int .i64 (Pl.evC l last ⟨kd, ky, us, tm⟩)) ∧ Below w.heap.size w w' := by
  obtain ⟨X, hX⟩ : ∃ x, Pl.evC l last ⟨kd, ky, us, tm⟩ = x := ⟨_, rfl⟩
  rw [hX]
  unfold Pl.evC at hX
  simp only at hX
  have q1 : (Pl.lifeOf l ky).isSome = decide (0 ≤ Pl.keyTime l ky 1) := by unfold Pl.lifeOf; split <;> simp [*]
  have q2 : 0 ≤ Pl.keyTime l ky 1 → (Pl.lifeD l ky).gone = decide (0 ≤ Pl.keyTime l ky 2) := by intro h; unfold Pl.lifeD Pl.lifeOf; rw [if_pos h]; rfl
  by_cases k1 : kd = 1
  · subst k1
    cases hk : Pl.isKeyB ky with
    | false =>
      have E := Lib.hid (show X = 3 by rw [← hX, if_neg (by omega), if_pos (by simp [hk])])
      clear hX q1 q2
      go_enter Try.func44, Try.ntmps44
      go_wp2_with (first | (at_lookup; refine wp_look_ok rfl _ _ 53 rfl Try.underlying3 Try.underlying53 zeroL (hm.below (by go_grown) hm.lt) rfl rfl hw ?_) | (go_at_call 27; refine (isKey_any _ _).mono ?_; rintro e w' ⟨rfl, rfl⟩) | (go_at_call 23; refine (isUser_any _ _).mono ?_; rintro e w' ⟨rfl, rfl⟩) | (go_at_call 24; refine (kIsTime_any _ _).mono ?_; rintro e w' ⟨rfl, rfl⟩))
      go_ret
      exact ⟨ret_int E.out.symm, by go_grown⟩
    | true =>
      cases hu : Pl.isUserB us with
      | false =>
        have E := Lib.hid (show X = 3 by rw [← hX, if_neg (by omega), if_pos (by simp [hk, hu])])
        clear hX q1 q2
        go_enter Try.func44, Try.ntmps44
        go_wp2_with (first | (at_lookup; refine wp_look_ok rfl _ _ 53 rfl Try.underlying3 Try.underlying53 zeroL (hm.below (by go_grown) hm.lt) rfl rfl hw ?_) | (go_at_call 27; refine (isKey_any _ _).mono ?_; rintro e w' ⟨rfl, rfl⟩) | (go_at_call 23; refine (isUser_any _ _).mono ?_; rintro e w' ⟨rfl, rfl⟩) | (go_at_call 24; refine (kIsTime_any _ _).mono ?_; rintro e w' ⟨rfl, rfl⟩))
        go_ret
        exact ⟨ret_int E.out.symm, by go_grown⟩
      | true =>
        cases ht : Pl.isTimeB tm with
        | false =>
          have E := Lib.hid (show X = 3 by rw [← hX, if_neg (by omega), if_pos (by simp [hk, hu, ht])])
          clear hX q1 q2
          go_enter Try.func44, Try.ntmps44
          go_wp2_with (first | (at_lookup; refine wp_look_ok rfl _ _ 53 rfl Try.underlying3 Try.underlying53 zeroL (hm.below (by go_grown) hm.lt) rfl rfl hw ?_) | (go_at_call 27; refine (isKey_any _ _).mono ?_; rintro e w' ⟨rfl, rfl⟩) | (go_at_call 23; refine (isUser_any _ _).mono ?_; rintro e w' ⟨rfl, rfl⟩) | (go_at_call 24; refine (kIsTime_any _ _).mono ?_; rintro e w' ⟨rfl, rfl⟩))
          go_ret
          exact ⟨ret_int E.out.symm, by go_grown⟩
        | true =>
          by_cases hl : tm < last
          · have v1 : decide (tm < last) = true := by simp [hl]
            have E := Lib.hid (show X = 5 by rw [← hX, if_neg (by omega), if_neg (by rw [hk, hu, ht]; decide), if_pos (by omega)])
            clear hX q1 q2 hl
            go_enter Try.func44, Try.ntmps44
            go_wp2_with (first | (at_lookup; refine wp_look_ok rfl _ _ 53 rfl Try.underlying3 Try.underlying53 zeroL (hm.below (by go_grown) hm.lt) rfl rfl hw ?_) | (go_at_call 27; refine (isKey_any _ _).mono ?_; rintro e w' ⟨rfl, rfl⟩) | (go_at_call 23; refine (isUser_any _ _).mono ?_; rintro e w' ⟨rfl, rfl⟩) | (go_at_call 24; refine (kIsTime_any _ _).mono ?_; rintro e w' ⟨rfl, rfl⟩))
            go_ret
            exact ⟨ret_int E.out.symm, by go_grown⟩
          · have v1 : decide (tm < last) = false := by simp [hl]
            skip
            by_cases hn : 0 ≤ Pl.keyTime l ky 1
            · rw [decide_eq_true hn] at q1
              have E := Lib.hid (show X = 7 by rw [← hX, if_neg (by omega), if_neg (by rw [hk, hu, ht]; decide), if_neg (by omega), if_pos ⟨rfl, hn⟩])
              clear hX q2 hn hl
              go_enter Try.func44, Try.ntmps44
              go_wp2_with (first | (at_lookup; refine wp_look_ok rfl _ _ 53 rfl Try.underlying3 Try.underlying53 zeroL (hm.below (by go_grown) hm.lt) rfl rfl hw ?_) | (go_at_call 27; refine (isKey_any _ _).mono ?_; rintro e w' ⟨rfl, rfl⟩) | (go_at_call 23; refine (isUser_any _ _).mono ?_; rintro e w' ⟨rfl, rfl⟩) | (go_at_call 24; refine (kIsTime_any _ _).mono ?_; rintro e w' ⟨rfl, rfl⟩))
              go_ret
              exact ⟨ret_int E.out.symm, by go_grown⟩
            · rw [decide_eq_false hn] at q1
              have E := Lib.hid (show X = 0 by rw [← hX, if_neg (by omega), if_neg (by rw [hk, hu, ht]; decide), if_neg (by omega), if_neg (fun h => hn h.2), if_neg (by omega), if_neg (by omega)])
              clear hX q2 hn hl
              go_enter Try.func44, Try.ntmps44
              go_wp2_with (first | (at_lookup; refine wp_look_ok rfl _ _ 53 rfl Try.underlying3 Try.underlying53 zeroL (hm.below (by go_grown) hm.lt) rfl rfl hw ?_) | (go_at_call 27; refine (isKey_any _ _).mono ?_; rintro e w' ⟨rfl, rfl⟩) | (go_at_call 23; refine (isUser_any _ _).mono ?_; rintro e w' ⟨rfl, rfl⟩) | (go_at_call 24; refine (kIsTime_any _ _).mono ?_; rintro e w' ⟨rfl, rfl⟩))
              go_ret
              exact ⟨ret_int E.out.symm, by go_grown⟩
  · by_cases k2 : kd = 2
    · subst k2
      cases hk : Pl.isKeyB ky with
      | false =>
        have E := Lib.hid (show X = 3 by rw [← hX, if_neg (by omega), if_pos (by simp [hk])])
        clear hX q1 q2
        go_enter Try.func44, Try.ntmps44
        go_wp2_with (first | (at_lookup; refine wp_look_ok rfl _ _ 53 rfl Try.underlying3 Try.underlying53 zeroL (hm.below (by go_grown) hm.lt) rfl rfl hw ?_) | (go_at_call 27; refine (isKey_any _ _).mono ?_; rintro e w' ⟨rfl, rfl⟩) | (go_at_call 23; refine (isUser_any _ _).mono ?_; rintro e w' ⟨rfl, rfl⟩) | (go_at_call 24; refine (kIsTime_any _ _).mono ?_; rintro e w' ⟨rfl, rfl⟩))
        go_ret
        exact ⟨ret_int E.out.symm, by go_grown⟩
      | true =>
        cases hu : Pl.isUserB us with
        | false =>
          have E := Lib.hid (show X = 3 by rw [← hX, if_neg (by omega), if_pos (by simp [hk, hu])])
          clear hX q1 q2
          go_enter Try.func44, Try.ntmps44
          go_wp2_with (first | (at_lookup; refine wp_look_ok rfl _ _ 53 rfl Try.underlying3 Try.underlying53 zeroL (hm.below (by go_grown) hm.lt) rfl rfl hw ?_) | (go_at_call 27; refine (isKey_any _ _).mono ?_; rintro e w' ⟨rfl, rfl⟩) | (go_at_call 23; refine (isUser_any _ _).mono ?_; rintro e w' ⟨rfl, rfl⟩) | (go_at_call 24; refine (kIsTime_any _ _).mono ?_; rintro e w' ⟨rfl, rfl⟩))
          go_ret
          exact ⟨ret_int E.out.symm, by go_grown⟩
        | true =>
          cases ht : Pl.isTimeB tm with
          | false =>
            have E := Lib.hid (show X = 3 by rw [← hX, if_neg (by omega), if_pos (by simp [hk, hu, ht])])
            clear hX q1 q2
            go_enter Try.func44, Try.ntmps44
            go_wp2_with (first | (at_lookup; refine wp_look_ok rfl _ _ 53 rfl Try.underlying3 Try.underlying53 zeroL (hm.below (by go_grown) hm.lt) rfl rfl hw ?_) | (go_at_call 27; refine (isKey_any _ _).mono ?_; rintro e w' ⟨rfl, rfl⟩) | (go_at_call 23; refine (isUser_any _ _).mono ?_; rintro e w' ⟨rfl, rfl⟩) | (go_at_call 24; refine (kIsTime_any _ _).mono ?_; rintro e w' ⟨rfl, rfl⟩))
            go_ret
            exact ⟨ret_int E.out.symm, by go_grown⟩
          | true =>
            by_cases u0 : us = 0
            · subst u0
              by_cases hl : tm < last
              · have v1 : decide (tm < last) = true := by simp [hl]
                have E := Lib.hid (show X = 5 by rw [← hX, if_neg (by omega), if_neg (by rw [hk, hu, ht]; decide), if_pos (by omega)])
                clear hX q1 q2 hl
                go_enter Try.func44, Try.ntmps44
                go_wp2_with (first | (at_lookup; refine wp_look_ok rfl _ _ 53 rfl Try.underlying3 Try.underlying53 zeroL (hm.below (by go_grown) hm.lt) rfl rfl hw ?_) | (go_at_call 27; refine (isKey_any _ _).mono ?_; rintro e w' ⟨rfl, rfl⟩) | (go_at_call 23; refine (isUser_any _ _).mono ?_; rintro e w' ⟨rfl, rfl⟩) | (go_at_call 24; refine (kIsTime_any _ _).mono ?_; rintro e w' ⟨rfl, rfl⟩))
                go_ret
                exact ⟨ret_int E.out.symm, by go_grown⟩
              · have v1 : decide (tm < last) = false := by simp [hl]
                skip
                by_cases hn : 0 ≤ Pl.keyTime l ky 1
                · rw [decide_eq_true hn] at q1
                  replace q2 := q2 hn
                  by_cases hr : 0 ≤ Pl.keyTime l ky 2
                  · rw [decide_eq_true hr] at q2
                    have E := Lib.hid (show X = 11 by rw [← hX, if_neg (by omega), if_neg (by rw [hk, hu, ht]; decide), if_neg (by omega), if_neg (by omega), if_neg (by omega), if_pos ⟨rfl, hr⟩])
                    clear hX hn hl hr
                    go_enter Try.func44, Try.ntmps44
                    go_wp2_with (first | (at_lookup; refine wp_look_ok rfl _ _ 53 rfl Try.underlying3 Try.underlying53 zeroL (hm.below (by go_grown) hm.lt) rfl rfl hw ?_) | (go_at_call 27; refine (isKey_any _ _).mono ?_; rintro e w' ⟨rfl, rfl⟩) | (go_at_call 23; refine (isUser_any _ _).mono ?_; rintro e w' ⟨rfl, rfl⟩) | (go_at_call 24; refine (kIsTime_any _ _).mono ?_; rintro e w' ⟨rfl, rfl⟩))
                    go_ret
                    exact ⟨ret_int E.out.symm, by go_grown⟩
                  · rw [decide_eq_false hr] at q2
                    have E := Lib.hid (show X = 0 by rw [← hX, if_neg (by omega), if_neg (by rw [hk, hu, ht]; decide), if_neg (by omega), if_neg (by omega), if_neg (by omega), if_neg (by omega)])
                    clear hX hn hl hr
                    go_enter Try.func44, Try.ntmps44
                    go_wp2_with (first | (at_lookup; refine wp_look_ok rfl _ _ 53 rfl Try.underlying3 Try.underlying53 zeroL (hm.below (by go_grown) hm.lt) rfl rfl hw ?_) | (go_at_call 27; refine (isKey_any _ _).mono ?_; rintro e w' ⟨rfl, rfl⟩) | (go_at_call 23; refine (isUser_any _ _).mono ?_; rintro e w' ⟨rfl, rfl⟩) | (go_at_call 24; refine (kIsTime_any _ _).mono ?_; rintro e w' ⟨rfl, rfl⟩))
                    go_ret
                    exact ⟨ret_int E.out.symm, by go_grown⟩
                · rw [decide_eq_false hn] at q1
                  have E := Lib.hid (show X = 6 by rw [← hX, if_neg (by omega), if_neg (by rw [hk, hu, ht]; decide), if_neg (by omega), if_neg (by omega), if_pos (by omega)])
                  clear hX q2 hn hl
                  go_enter Try.func44, Try.ntmps44
                  go_wp2_with (first | (at_lookup; refine wp_look_ok rfl _ _ 53 rfl Try.underlying3 Try.underlying53 zeroL (hm.below (by go_grown) hm.lt) rfl rfl hw ?_) | (go_at_call 27; refine (isKey_any _ _).mono ?_; rintro e w' ⟨rfl, rfl⟩) | (go_at_call 23; refine (isUser_any _ _).mono ?_; rintro e w' ⟨rfl, rfl⟩) | (go_at_call 24; refine (kIsTime_any _ _).mono ?_; rintro e w' ⟨rfl, rfl⟩))
                  go_ret
                  exact ⟨ret_int E.out.symm, by go_grown⟩
            · have u1 : (us == 0) = false := by simp [u0]
              have u2 : (us != 0) = true := by simp [u0]
              have E := Lib.hid (show X = 5 by rw [← hX, if_neg (by omega), if_neg (by rw [hk, hu, ht]; decide), if_pos (by omega)])
              clear hX q1 q2 u0
              go_enter Try.func44, Try.ntmps44
              go_wp2_with (first | (at_lookup; refine wp_look_ok rfl _ _ 53 rfl Try.underlying3 Try.underlying53 zeroL (hm.below (by go_grown) hm.lt) rfl rfl hw ?_) | (go_at_call 27; refine (isKey_any _ _).mono ?_; rintro e w' ⟨rfl, rfl⟩) | (go_at_call 23; refine (isUser_any _ _).mono ?_; rintro e w' ⟨rfl, rfl⟩) | (go_at_call 24; refine (kIsTime_any _ _).mono ?_; rintro e w' ⟨rfl, rfl⟩))
              go_ret
              exact ⟨ret_int E.out.symm, by go_grown⟩
    · have u1 : (kd == 1) = false := by simp [k1]
      have u2 : (kd != 2) = true := by simp [k2]
      have u3 : (kd == 2) = false := by simp [k2]
      have u4 : (kd != 1) = true := by simp [k1]
      have E := Lib.hid (show X = 4 by rw [← hX, if_pos ⟨k1, k2⟩])
      clear hX q1 q2 k1 k2
      go_enter Try.func44, Try.ntmps44
      go_wp2_with (first | (at_lookup; refine wp_look_ok rfl _ _ 53 rfl Try.underlying3 Try.underlying53 zeroL (hm.below (by go_grown) hm.lt) rfl rfl hw ?_) | (go_at_call 27; refine (isKey_any _ _).mono ?_; rintro e w' ⟨rfl, rfl⟩) | (go_at_call 23; refine (isUser_any _ _).mono ?_; rintro e w' ⟨rfl, rfl⟩) | (go_at_call 24; refine (kIsTime_any _ _).mono ?_; rintro e w' ⟨rfl, rfl⟩))
      go_ret
      exact ⟨ret_int E.out.symm, by go_grown⟩
end Go.Proofs.Ytldepnabkdpokaa
