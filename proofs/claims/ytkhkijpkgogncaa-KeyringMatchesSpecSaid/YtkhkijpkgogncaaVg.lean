/- Contract: the fault of a keyring, by the reference. -/
import Derived.Test.YtkhkijpkgogncaaVb
import Derived.Test.YtkhkijpkgogncaaVf
import Derived.Deep.DeepCutAuto
namespace Go.Proofs.Ytkhkijpkgogncaa
open Go.RowKit

theorem KeyTime_cut (l : List Pl.Ev) (i : Nat) (hi : i ≤ l.length) (k kd : Int) (ob : Option Addr) (cap : Nat) (w : World) (hs : Sl w ob i cap 4 (quadVals (l.take i))) (hm : l.length ≤ 9223372036854775807) :
    Calls Try.prog 40 #[.slice ob i cap, .int .i64 k, .int .i64 kd] w fun e w' => e = .returned (.int .i64 (Pl.keyTime (l.take i) k kd)) ∧ Below w.heap.size w w' := by
  have hl : (l.take i).length = i := by rw [List.length_take]; omega
  refine (KeyTime_any (l.take i) i hl k kd ob cap w (by rw [hl]; exact hs) (by omega)).mono ?_
  rintro e w' ⟨rfl, rfl⟩
  exact ⟨rfl, Below.refl _ _⟩
theorem lastT_at (l : List Pl.Ev) (k : Nat) (h0 : 0 < k) (hk : k ≤ l.length) : Pl.lastT (l.take k) = (l[k - 1]'(by omega)).time := by
  obtain ⟨j, rfl⟩ : ∃ j, k = j + 1 := ⟨k - 1, by omega⟩
  rw [List.take_succ_eq_append_getElem (by omega), Pl.lastT_snoc]
  rfl
set_option maxRecDepth 100000 in
set_option maxHeartbeats 4000000 in
theorem KeyringFault_any (l : List Pl.Ev) (oa : Option Addr) (cap : Nat) (w : World) (hs : Sl w oa l.length cap 4 (quadVals l)) (hm : l.length ≤ 9223372036854775807) :
    Calls Try.prog 31 #[.slice oa l.length cap] w fun e w' => e = .returned (.agg #[.int .i64 (Pl.krF l).1, .int .i64 (Pl.krF l).2]) ∧ Below w.heap.size w w' := by
  by_cases hn : l.length ≤ 40
  · obtain ⟨F, hF⟩ : ∃ F, Pl.krAt l l.length 0 = F := ⟨_, rfl⟩
    rw [show Pl.krF l = F by unfold Pl.krF; rw [if_pos hn, hF]]
    replace hF := Lib.hid hF
    have hcap := hs.hcap
    have hmax := hs.hmax
    unfold maxLen at hmax
    have hn' : decide (40 < l.length) = false := by simp; omega
    have hn2 : decide ((40 : Int) < (l.length : Int)) = false := by simp; omega
    go_enter Try.func31, Try.ntmps31
    go_wp2
    go_loopw [3] (fun i wr => ∃ k : Nat, k ≤ l.length ∧ i = .int .i64 (k : Int) ∧ Hid (Pl.krAt l (l.length - k) k = F) ∧ Hid (∀ j, j < k → Pl.evAt l j = 0) ∧ Box2 wr w.heap.size (.int .i64 0) (.int .i64 0) ∧ Below w.heap.size w wr) (fun i _ => l.length - (intOf i).toNat)
    case atStart => exact ⟨0, Nat.zero_le _, rfl, hF, Lib.hid (fun j hj => absurd hj (by omega)), Box2.new w (.int .i64 0) (.int .i64 0) 26, by go_grown⟩
    case round =>
      obtain ⟨k, hk, rfl, hu, hv, hbx, hbw⟩ := hrel
      have sw := hbw.size
      have hsr := hs.below hbw (Nat.le_refl _)
      by_cases hlt : k < l.length
      · obtain ⟨b, off, rfl, hb, c0, c1, c2, c3⟩ := hsr.quad hlt
        have hst := hsr.takeQ (k := k) hk (ob := some ⟨b, off, none⟩) (.inl rfl)
        have HS := Lib.hid (Pl.krAt_step l k hlt)
        have HE := Lib.hid (evAt_eq l k hlt)
        have t1 : decide (k < l.length) = true := by simp; omega
        have t2 : (k : Int) < (l.length : Int) := by omega
        have t3 : (k : Int) ≤ (cap : Int) := by omega
        obtain ⟨⟨kd, ky, us, tm⟩, he⟩ : ∃ e, l[k] = e := ⟨_, rfl⟩
        rw [he] at c0 c1 c2 c3 HE
        simp only at c0 c1 c2 c3
        clear he
        obtain ⟨X0, X1, Xf, Xg, Xl⟩ := hbx
        -- the last time
        have HP : ∃ lt : Int, Hid (Pl.lastT (l.take k) = lt) ∧ (0 < k → wr.cell? ⟨b, off + (k - 1) * 4 + 3, none⟩ = some (.int .i64 lt)) ∧ Hid (k = 0 → lt = 0) := by
          by_cases h0 : 0 < k
          · obtain ⟨b', off', hb', _, _, _, _, d3⟩ := hsr.quad (k := k - 1) (by omega)
            cases hb'
            exact ⟨_, Lib.hid (lastT_at l k h0 hk), fun _ => d3, Lib.hid (fun h => absurd h (by omega))⟩
          · obtain rfl : k = 0 := by omega
            exact ⟨0, Lib.hid rfl, fun h => absurd h (by omega), Lib.hid (fun _ => rfl)⟩
        obtain ⟨lt, HLT, d3, hlt0⟩ := HP
        rw [HLT.out] at HE
        obtain ⟨C, hC⟩ : ∃ C, Pl.evAt l k = C := ⟨_, rfl⟩
        have HCE := hC
        rw [HE.out] at HCE
        unfold Pl.evC at HCE
        simp only at HCE
        have BADF := Lib.hid (show C ≠ 0 → F = (C, (k : Int)) from fun h => by rw [← hu.out, HS.out, hC, if_neg h])
        have OKF := Lib.hid (show C = 0 → Pl.krAt l (l.length - (k + 1)) (k + 1) = F from fun h => by rw [← hu.out, HS.out, hC, if_pos h])
        have OKV := Lib.hid (show C = 0 → ∀ j, j < k + 1 → Pl.evAt l j = 0 from fun h0 j hj => by
          by_cases h : j = k
          · rw [h, hC, h0]
          · exact hv.out j (by omega))
        clear hC HE HS
        by_cases k0 : kd = 1 ∨ kd = 2
        · have ki : Pl.inB kd 1 2 = true := by unfold Pl.inB; rw [Bool.and_eq_true, decide_eq_true_eq, decide_eq_true_eq]; omega
          cases hk1 : Pl.isKeyB ky with
          | false =>
            have E := Lib.hid (BADF.out (by rw [← HCE, if_neg (by omega), if_pos (by simp [hk1])]; decide))
            have EC := Lib.hid (show C = 3 by rw [← HCE, if_neg (by omega), if_pos (by simp [hk1])])
            clear BADF OKF OKV HCE d3
            go_wp2_with (first | (go_at_call 16; refine (rIsKey_any _ _).mono ?_; rintro e w' ⟨rfl, rfl⟩) | (go_at_call 44; refine (rin_any _ _ _ _).mono ?_; rintro e w' ⟨rfl, rfl⟩))
            refine (rfault_any _ _ _).mono ?_
            rintro e w2 ⟨rfl, hb2⟩
            have B2 : Below w.heap.size w w2 := bcall (by go_grown) hb2 (by go_size)
            have s2 := B2.size
            have q2 : wr.heap.size + 1 ≤ w2.heap.size := by have h := hb2.size; first | omega | (simp at h; omega)
            obtain ⟨X0, X1, Xf, Xg, Xl⟩ := ((Box2.mk X0 X1 Xf Xg Xl).alloc (.cells #[.int .i64 kd, .int .i64 ky, .int .i64 us, .int .i64 tm] 63)).below hb2 (by go_size)
            have VB := (Blk.new wr [.int .i64 kd, .int .i64 ky, .int .i64 us, .int .i64 tm] 63 (g := wr.heap.size) (by go_size)).below hb2 (by go_size)
            have V0 := VB.c 0 _ rfl
            have V1 := VB.c 1 _ rfl
            have V2 := VB.c 2 _ rfl
            have V3 := VB.c 3 _ rfl
            have Vf0 := VB.f 0 (Nat.le_of_ble_eq_true rfl)
            have Vf1 := VB.f 1 (Nat.le_of_ble_eq_true rfl)
            have Vf2 := VB.f 2 (Nat.le_of_ble_eq_true rfl)
            have Vf3 := VB.f 3 (Nat.le_of_ble_eq_true rfl)
            have Vl := VB.lt
            replace hst := (hst.below (by go_grown) (Nat.le_refl _)).below hb2 (Nat.le_refl _)
            clear hb2
            go_wp2_with fail
            have RB := (Box2.mk X0 X1 Xf Xg Xl).set (.int .i64 3) (.int .i64 (k : Int))
            obtain ⟨RB0, RB1, -, -, -⟩ := RB
            refine bodyPost_ret (v := .agg #[.int .i64 3, .int .i64 (k : Int)]) (by simp [results, Try.results31, go_sem, RB0, RB1]) rfl ⟨by rw [E.out, EC.out], by go_grown⟩
          | true =>
            cases hu1 : Pl.isUserB us with
            | false =>
              have E := Lib.hid (BADF.out (by rw [← HCE, if_neg (by omega), if_pos (by simp [hk1, hu1])]; decide))
              have EC := Lib.hid (show C = 3 by rw [← HCE, if_neg (by omega), if_pos (by simp [hk1, hu1])])
              clear BADF OKF OKV HCE d3
              replace hu1 : Pl.inB us 0 7 = false := hu1
              go_wp2_with (first | (go_at_call 16; refine (rIsKey_any _ _).mono ?_; rintro e w' ⟨rfl, rfl⟩) | (go_at_call 44; refine (rin_any _ _ _ _).mono ?_; rintro e w' ⟨rfl, rfl⟩))
              refine (rfault_any _ _ _).mono ?_
              rintro e w2 ⟨rfl, hb2⟩
              have B2 : Below w.heap.size w w2 := bcall (by go_grown) hb2 (by go_size)
              have s2 := B2.size
              have q2 : wr.heap.size + 1 ≤ w2.heap.size := by have h := hb2.size; first | omega | (simp at h; omega)
              obtain ⟨X0, X1, Xf, Xg, Xl⟩ := ((Box2.mk X0 X1 Xf Xg Xl).alloc (.cells #[.int .i64 kd, .int .i64 ky, .int .i64 us, .int .i64 tm] 63)).below hb2 (by go_size)
              have VB := (Blk.new wr [.int .i64 kd, .int .i64 ky, .int .i64 us, .int .i64 tm] 63 (g := wr.heap.size) (by go_size)).below hb2 (by go_size)
              have V0 := VB.c 0 _ rfl
              have V1 := VB.c 1 _ rfl
              have V2 := VB.c 2 _ rfl
              have V3 := VB.c 3 _ rfl
              have Vf0 := VB.f 0 (Nat.le_of_ble_eq_true rfl)
              have Vf1 := VB.f 1 (Nat.le_of_ble_eq_true rfl)
              have Vf2 := VB.f 2 (Nat.le_of_ble_eq_true rfl)
              have Vf3 := VB.f 3 (Nat.le_of_ble_eq_true rfl)
              have Vl := VB.lt
              replace hst := (hst.below (by go_grown) (Nat.le_refl _)).below hb2 (Nat.le_refl _)
              clear hb2
              go_wp2_with fail
              have RB := (Box2.mk X0 X1 Xf Xg Xl).set (.int .i64 3) (.int .i64 (k : Int))
              obtain ⟨RB0, RB1, -, -, -⟩ := RB
              refine bodyPost_ret (v := .agg #[.int .i64 3, .int .i64 (k : Int)]) (by simp [results, Try.results31, go_sem, RB0, RB1]) rfl ⟨by rw [E.out, EC.out], by go_grown⟩
            | true =>
              cases ht1 : Pl.isTimeB tm with
              | false =>
                have E := Lib.hid (BADF.out (by rw [← HCE, if_neg (by omega), if_pos (by simp [hk1, hu1, ht1])]; decide))
                have EC := Lib.hid (show C = 3 by rw [← HCE, if_neg (by omega), if_pos (by simp [hk1, hu1, ht1])])
                clear BADF OKF OKV HCE d3
                replace hu1 : Pl.inB us 0 7 = true := hu1
                replace ht1 : Pl.inB tm 0 100000 = false := ht1
                go_wp2_with (first | (go_at_call 16; refine (rIsKey_any _ _).mono ?_; rintro e w' ⟨rfl, rfl⟩) | (go_at_call 44; refine (rin_any _ _ _ _).mono ?_; rintro e w' ⟨rfl, rfl⟩))
                refine (rfault_any _ _ _).mono ?_
                rintro e w2 ⟨rfl, hb2⟩
                have B2 : Below w.heap.size w w2 := bcall (by go_grown) hb2 (by go_size)
                have s2 := B2.size
                have q2 : wr.heap.size + 1 ≤ w2.heap.size := by have h := hb2.size; first | omega | (simp at h; omega)
                obtain ⟨X0, X1, Xf, Xg, Xl⟩ := ((Box2.mk X0 X1 Xf Xg Xl).alloc (.cells #[.int .i64 kd, .int .i64 ky, .int .i64 us, .int .i64 tm] 63)).below hb2 (by go_size)
                have VB := (Blk.new wr [.int .i64 kd, .int .i64 ky, .int .i64 us, .int .i64 tm] 63 (g := wr.heap.size) (by go_size)).below hb2 (by go_size)
                have V0 := VB.c 0 _ rfl
                have V1 := VB.c 1 _ rfl
                have V2 := VB.c 2 _ rfl
                have V3 := VB.c 3 _ rfl
                have Vf0 := VB.f 0 (Nat.le_of_ble_eq_true rfl)
                have Vf1 := VB.f 1 (Nat.le_of_ble_eq_true rfl)
                have Vf2 := VB.f 2 (Nat.le_of_ble_eq_true rfl)
                have Vf3 := VB.f 3 (Nat.le_of_ble_eq_true rfl)
                have Vl := VB.lt
                replace hst := (hst.below (by go_grown) (Nat.le_refl _)).below hb2 (Nat.le_refl _)
                clear hb2
                go_wp2_with fail
                have RB := (Box2.mk X0 X1 Xf Xg Xl).set (.int .i64 3) (.int .i64 (k : Int))
                obtain ⟨RB0, RB1, -, -, -⟩ := RB
                refine bodyPost_ret (v := .agg #[.int .i64 3, .int .i64 (k : Int)]) (by simp [results, Try.results31, go_sem, RB0, RB1]) rfl ⟨by rw [E.out, EC.out], by go_grown⟩
              | true =>
                have htm := (Pl.isTimeB_true.1 ht1).1
                rw [if_neg (by omega), if_neg (by rw [hk1, hu1, ht1]; decide)] at HCE
                replace hu1 : Pl.inB us 0 7 = true := hu1
                replace ht1 : Pl.inB tm 0 100000 = true := ht1
                replace HCE := Lib.hid HCE
                replace htm := Lib.hid htm
                replace k0 := Lib.hid k0
                go_upto_region 11 with (first | (go_at_call 16; refine (rIsKey_any _ _).mono ?_; rintro e w' ⟨rfl, rfl⟩) | (go_at_call 44; refine (rin_any _ _ _ _).mono ?_; rintro e w' ⟨rfl, rfl⟩))
                go_cut [67] (fun s wx => ∃ b : Bool, s = .bool b ∧ Hid (b = true ↔ ((kd = 2 ∧ us ≠ 0) ∨ tm < lt)) ∧ wx = (wr.alloc (.cells #[.int .i64 kd, .int .i64 ky, .int .i64 us, .int .i64 tm] 63)).drew)
                case first =>
                  by_cases k2 : kd = 2
                  · have a1 : (kd == 2) = true := by simp [k2]
                    by_cases u0 : us = 0
                    · have a2 : (us != 0) = false := by simp [u0]
                      by_cases h0 : 0 < k
                      · replace d3 := d3 h0
                        have ei : ((k : Int) - 1).toNat = k - 1 := by omega
                        have e2 : IntKind.i64.wrap ((k : Int) - 1) = (k : Int) - 1 := IntWalk.i64_in _ (by omega)
                        have e3 : (0 : Int) ≤ (k : Int) - 1 := by omega
                        have e3' : (1 : Int) ≤ (k : Int) := by omega
                        have e4 : (k : Int) - 1 < (l.length : Int) := by omega
                        have e6 : decide (0 < k) = true := by simp; omega
                        have e7 : decide ((0 : Int) < (k : Int)) = true := by simp; omega
                        by_cases hl : tm < lt
                        · have v1 : decide (tm < lt) = true := by simp [hl]
                          have hbad : (kd = 2 ∧ us ≠ 0) ∨ tm < lt := .inr hl
                          clear hl
                          clear BADF OKF OKV HCE
                          refine wp_region_ord [0, 1, 2, 3, 4, 5, 6, 7, 8, 9, 10, 11, 12, 13, 14, 15, 16, 17, 18, 19, 20, 21, 22] (by kernel_rfl) (by kernel_rfl) ?_
                          repeat (refine wpI_rd rfl rfl ?_; go_big_quiet_step (fail); refine wpQuiet_nil ?_)
                          refine wpI_nil ?_
                          try simp only [Act.put, List.setIfInBounds_toArray, List.set_cons_zero, List.set_cons_succ]
                          go_wp2_with fail
                          go_meet
                          exact ⟨true, rfl, Lib.hid ⟨fun _ => hbad, fun _ => rfl⟩, rfl⟩
                        · have v1 : decide (tm < lt) = false := by simp [hl]
                          have hbad : ¬ ((kd = 2 ∧ us ≠ 0) ∨ tm < lt) := by omega
                          clear hl
                          clear BADF OKF OKV HCE
                          refine wp_region_ord [0, 1, 2, 3, 4, 5, 6, 7, 8, 9, 10, 11, 12, 13, 14, 15, 16, 17, 18, 19, 20, 21, 22] (by kernel_rfl) (by kernel_rfl) ?_
                          repeat (refine wpI_rd rfl rfl ?_; go_big_quiet_step (fail); refine wpQuiet_nil ?_)
                          refine wpI_nil ?_
                          try simp only [Act.put, List.setIfInBounds_toArray, List.set_cons_zero, List.set_cons_succ]
                          go_wp2_with fail
                          go_meet
                          exact ⟨false, rfl, Lib.hid ⟨(fun h => by cases h), (fun h => absurd h hbad)⟩, rfl⟩
                      · have e6 : decide (0 < k) = false := by simp; omega
                        have e7 : decide ((0 : Int) < (k : Int)) = false := by simp; omega
                        have hbad : ¬ ((kd = 2 ∧ us ≠ 0) ∨ tm < lt) := by have := hlt0.out (by omega); have := htm.out; omega
                        clear d3
                        clear BADF OKF OKV HCE
                        refine wp_region_ord [0, 1, 2, 3, 4, 5, 6, 7, 8, 9, 10, 11, 12, 13, 14, 15, 16, 17, 18, 19, 20, 21, 22] (by kernel_rfl) (by kernel_rfl) ?_
                        repeat (refine wpI_rd rfl rfl ?_; go_big_quiet_step (fail); refine wpQuiet_nil ?_)
                        refine wpI_nil ?_
                        try simp only [Act.put, List.setIfInBounds_toArray, List.set_cons_zero, List.set_cons_succ]
                        go_wp2_with fail
                        go_meet
                        exact ⟨false, rfl, Lib.hid ⟨(fun h => by cases h), (fun h => absurd h hbad)⟩, rfl⟩
                    · have a2 : (us != 0) = true := by simp [u0]
                      have hbad : (kd = 2 ∧ us ≠ 0) ∨ tm < lt := .inl ⟨k2, u0⟩
                      clear d3 u0
                      clear BADF OKF OKV HCE
                      refine wp_region_ord [0, 1, 2, 3, 4, 5, 6, 7, 8, 9, 10, 11, 12, 13, 14, 15, 16, 17, 18, 19, 20, 21, 22] (by kernel_rfl) (by kernel_rfl) ?_
                      repeat (refine wpI_rd rfl rfl ?_; go_big_quiet_step (fail); refine wpQuiet_nil ?_)
                      refine wpI_nil ?_
                      try simp only [Act.put, List.setIfInBounds_toArray, List.set_cons_zero, List.set_cons_succ]
                      go_wp2_with fail
                      go_meet
                      exact ⟨true, rfl, Lib.hid ⟨fun _ => hbad, fun _ => rfl⟩, rfl⟩
                  · have a1 : (kd == 2) = false := by simp [k2]
                    by_cases h0 : 0 < k
                    · replace d3 := d3 h0
                      have ei : ((k : Int) - 1).toNat = k - 1 := by omega
                      have e2 : IntKind.i64.wrap ((k : Int) - 1) = (k : Int) - 1 := IntWalk.i64_in _ (by omega)
                      have e3 : (0 : Int) ≤ (k : Int) - 1 := by omega
                      have e3' : (1 : Int) ≤ (k : Int) := by omega
                      have e4 : (k : Int) - 1 < (l.length : Int) := by omega
                      have e6 : decide (0 < k) = true := by simp; omega
                      have e7 : decide ((0 : Int) < (k : Int)) = true := by simp; omega
                      by_cases hl : tm < lt
                      · have v1 : decide (tm < lt) = true := by simp [hl]
                        have hbad : (kd = 2 ∧ us ≠ 0) ∨ tm < lt := .inr hl
                        clear hl
                        clear BADF OKF OKV HCE
                        refine wp_region_ord [0, 1, 2, 3, 4, 5, 6, 7, 8, 9, 10, 11, 12, 13, 14, 15, 16, 17, 18, 19, 20, 21, 22] (by kernel_rfl) (by kernel_rfl) ?_
                        repeat (refine wpI_rd rfl rfl ?_; go_big_quiet_step (fail); refine wpQuiet_nil ?_)
                        refine wpI_nil ?_
                        try simp only [Act.put, List.setIfInBounds_toArray, List.set_cons_zero, List.set_cons_succ]
                        go_wp2_with fail
                        go_meet
                        exact ⟨true, rfl, Lib.hid ⟨fun _ => hbad, fun _ => rfl⟩, rfl⟩
                      · have v1 : decide (tm < lt) = false := by simp [hl]
                        have hbad : ¬ ((kd = 2 ∧ us ≠ 0) ∨ tm < lt) := by omega
                        clear hl
                        clear BADF OKF OKV HCE
                        refine wp_region_ord [0, 1, 2, 3, 4, 5, 6, 7, 8, 9, 10, 11, 12, 13, 14, 15, 16, 17, 18, 19, 20, 21, 22] (by kernel_rfl) (by kernel_rfl) ?_
                        repeat (refine wpI_rd rfl rfl ?_; go_big_quiet_step (fail); refine wpQuiet_nil ?_)
                        refine wpI_nil ?_
                        try simp only [Act.put, List.setIfInBounds_toArray, List.set_cons_zero, List.set_cons_succ]
                        go_wp2_with fail
                        go_meet
                        exact ⟨false, rfl, Lib.hid ⟨(fun h => by cases h), (fun h => absurd h hbad)⟩, rfl⟩
                    · have e6 : decide (0 < k) = false := by simp; omega
                      have e7 : decide ((0 : Int) < (k : Int)) = false := by simp; omega
                      have hbad : ¬ ((kd = 2 ∧ us ≠ 0) ∨ tm < lt) := by have := hlt0.out (by omega); have := htm.out; omega
                      clear d3
                      clear BADF OKF OKV HCE
                      refine wp_region_ord [0, 1, 2, 3, 4, 5, 6, 7, 8, 9, 10, 11, 12, 13, 14, 15, 16, 17, 18, 19, 20, 21, 22] (by kernel_rfl) (by kernel_rfl) ?_
                      repeat (refine wpI_rd rfl rfl ?_; go_big_quiet_step (fail); refine wpQuiet_nil ?_)
                      refine wpI_nil ?_
                      try simp only [Act.put, List.setIfInBounds_toArray, List.set_cons_zero, List.set_cons_succ]
                      go_wp2_with fail
                      go_meet
                      exact ⟨false, rfl, Lib.hid ⟨(fun h => by cases h), (fun h => absurd h hbad)⟩, rfl⟩
                case rest =>
                  obtain ⟨bl, rfl, hbl, rfl⟩ := hcut
                  clear d3 hlt0
                  cases bl with
                  | true =>
                    have hbad := hbl.out.1 rfl
                    have EC := Lib.hid (show C = 5 by rw [← HCE.out, if_pos hbad])
                    have E := Lib.hid (BADF.out (by rw [EC.out]; decide))
                    clear BADF OKF OKV HCE hbad
                    go_wp2_with fail
                    refine (rfault_any _ _ _).mono ?_
                    rintro e w2 ⟨rfl, hb2⟩
                    have B2 : Below w.heap.size w w2 := bcall (by go_grown) hb2 (by go_size)
                    have s2 := B2.size
                    have q2 : wr.heap.size + 1 ≤ w2.heap.size := by have h := hb2.size; first | omega | (simp at h; omega)
                    obtain ⟨X0, X1, Xf, Xg, Xl⟩ := ((Box2.mk X0 X1 Xf Xg Xl).alloc (.cells #[.int .i64 kd, .int .i64 ky, .int .i64 us, .int .i64 tm] 63)).drew.below hb2 (by go_size)
                    have VB := (Blk.new wr [.int .i64 kd, .int .i64 ky, .int .i64 us, .int .i64 tm] 63 (g := wr.heap.size) (by go_size)).drew.below hb2 (by go_size)
                    have V0 := VB.c 0 _ rfl
                    have V1 := VB.c 1 _ rfl
                    have V2 := VB.c 2 _ rfl
                    have V3 := VB.c 3 _ rfl
                    have Vf0 := VB.f 0 (Nat.le_of_ble_eq_true rfl)
                    have Vf1 := VB.f 1 (Nat.le_of_ble_eq_true rfl)
                    have Vf2 := VB.f 2 (Nat.le_of_ble_eq_true rfl)
                    have Vf3 := VB.f 3 (Nat.le_of_ble_eq_true rfl)
                    have Vl := VB.lt
                    replace hst := (hst.below (by go_grown) (Nat.le_refl _)).below hb2 (Nat.le_refl _)
                    clear hb2
                    go_wp2_with fail
                    have RB := (Box2.mk X0 X1 Xf Xg Xl).set (.int .i64 5) (.int .i64 (k : Int))
                    obtain ⟨RB0, RB1, -, -, -⟩ := RB
                    refine bodyPost_ret (v := .agg #[.int .i64 5, .int .i64 (k : Int)]) (by simp [results, Try.results31, go_sem, RB0, RB1]) rfl ⟨by rw [E.out, EC.out], by go_grown⟩
                  | false =>
                  replace HCE := HCE.out
                  rw [if_neg (fun h => by have := hbl.out.2 h; cases this)] at HCE
                  obtain ⟨ka, hka⟩ : ∃ x, Pl.keyTime (l.take k) ky 1 = x := ⟨_, rfl⟩
                  obtain ⟨kr, hkr⟩ : ∃ x, Pl.keyTime (l.take k) ky 2 = x := ⟨_, rfl⟩
                  have HA := Lib.hid hka
                  have HR := Lib.hid hkr
                  rw [hka, hkr] at HCE
                  replace k0 := k0.out
                  clear hka hkr
                  by_cases k1 : kd = 1
                  · have a1 : (kd == 1) = true := by simp [k1]
                    have a2 : (kd == 2) = false := by simp [k1]
                    by_cases hn : 0 ≤ ka
                    · have w1 : decide (0 ≤ ka) = true := by simp [hn]
                      have E := Lib.hid (BADF.out (by rw [← HCE, if_pos ⟨k1, hn⟩]; decide))
                      have EC := Lib.hid (show C = 7 by rw [← HCE, if_pos ⟨k1, hn⟩])
                      clear BADF OKF OKV HCE hn k1 k0
                      go_wp2_with fail
                      refine wp_region_ord [0, 1, 2, 3, 4, 5, 6] (by kernel_rfl) (by kernel_rfl) ?_
                      repeat (refine wpI_rd rfl rfl ?_; go_big_quiet_step (fail); refine wpQuiet_nil ?_)
                      refine wpI_call (f := 40) (args := #[.slice (some ⟨b, off, none⟩) k cap, .int .i64 ky, .int .i64 1]) rfl rfl rfl (by simp [go_sem]) ?_
                      refine (KeyTime_cut l k hk ky 1 _ cap _ (hst.below (by go_grown) (Nat.le_refl _)) hm).mono ?_
                      rw [HA.out]
                      rintro e w2 ⟨rfl, hb2⟩
                      refine ⟨_, rfl, hb2, ?_⟩
                      have B2 : Below w.heap.size w w2 := bcall (by go_grown) hb2 (by go_size)
                      have s2 := B2.size
                      have q2 : wr.heap.size + 1 ≤ w2.heap.size := by have h := hb2.size; first | omega | (simp at h; omega)
                      obtain ⟨X0, X1, Xf, Xg, Xl⟩ := ((Box2.mk X0 X1 Xf Xg Xl).alloc (.cells #[.int .i64 kd, .int .i64 ky, .int .i64 us, .int .i64 tm] 63)).drew.drew.below hb2 (by go_size)
                      have VB := (Blk.new wr [.int .i64 kd, .int .i64 ky, .int .i64 us, .int .i64 tm] 63 (g := wr.heap.size) (by go_size)).drew.drew.below hb2 (by go_size)
                      have V0 := VB.c 0 _ rfl
                      have V1 := VB.c 1 _ rfl
                      have V2 := VB.c 2 _ rfl
                      have V3 := VB.c 3 _ rfl
                      have Vf0 := VB.f 0 (Nat.le_of_ble_eq_true rfl)
                      have Vf1 := VB.f 1 (Nat.le_of_ble_eq_true rfl)
                      have Vf2 := VB.f 2 (Nat.le_of_ble_eq_true rfl)
                      have Vf3 := VB.f 3 (Nat.le_of_ble_eq_true rfl)
                      have Vl := VB.lt
                      replace hst := (hst.below (by go_grown) (Nat.le_refl _)).below hb2 (Nat.le_refl _)
                      clear hb2
                      try simp only [Act.put, List.setIfInBounds_toArray, List.set_cons_zero, List.set_cons_succ]
                      repeat (refine wpI_rd rfl rfl ?_; go_big_quiet_step (fail); refine wpQuiet_nil ?_)
                      refine wpI_nil ?_
                      try simp only [Act.put, List.setIfInBounds_toArray, List.set_cons_zero, List.set_cons_succ]
                      go_wp2_with fail
                      refine wp_region_ord [0, 1, 2, 3, 4, 5, 6] (by kernel_rfl) (by kernel_rfl) ?_
                      repeat (refine wpI_rd rfl rfl ?_; go_big_quiet_step (fail); refine wpQuiet_nil ?_)
                      refine wpI_call (f := 40) (args := #[.slice (some ⟨b, off, none⟩) k cap, .int .i64 ky, .int .i64 2]) rfl rfl rfl (by simp [go_sem]) ?_
                      refine (KeyTime_cut l k hk ky 2 _ cap _ (hst.below (by go_grown) (Nat.le_refl _)) hm).mono ?_
                      rw [HR.out]
                      rintro e w3 ⟨rfl, hb3⟩
                      refine ⟨_, rfl, hb3, ?_⟩
                      have B3 : Below w.heap.size w w3 := bcall (by go_grown) hb3 (by go_size)
                      have s3 := B3.size
                      have q3 : w2.heap.size ≤ w3.heap.size := by have h := hb3.size; first | omega | (simp at h; omega)
                      obtain ⟨X0, X1, Xf, Xg, Xl⟩ := (Box2.mk X0 X1 Xf Xg Xl).drew.below hb3 (by go_size)
                      clear V0 V1 V2 V3 Vf0 Vf1 Vf2 Vf3 Vl
                      replace VB := VB.drew.below hb3 (by have h := VB.lt; go_size)
                      have V0 := VB.c 0 _ rfl
                      have V1 := VB.c 1 _ rfl
                      have V2 := VB.c 2 _ rfl
                      have V3 := VB.c 3 _ rfl
                      have Vf0 := VB.f 0 (Nat.le_of_ble_eq_true rfl)
                      have Vf1 := VB.f 1 (Nat.le_of_ble_eq_true rfl)
                      have Vf2 := VB.f 2 (Nat.le_of_ble_eq_true rfl)
                      have Vf3 := VB.f 3 (Nat.le_of_ble_eq_true rfl)
                      have Vl := VB.lt
                      replace hst := (hst.below (by go_grown) (Nat.le_refl _)).below hb3 (Nat.le_refl _)
                      clear hb3
                      try simp only [Act.put, List.setIfInBounds_toArray, List.set_cons_zero, List.set_cons_succ]
                      repeat (refine wpI_rd rfl rfl ?_; go_big_quiet_step (fail); refine wpQuiet_nil ?_)
                      refine wpI_nil ?_
                      try simp only [Act.put, List.setIfInBounds_toArray, List.set_cons_zero, List.set_cons_succ]
                      go_wp2_with fail
                      refine (rfault_any _ _ _).mono ?_
                      rintro e w4 ⟨rfl, hb4⟩
                      have B4 : Below w.heap.size w w4 := bcall (by go_grown) hb4 (by go_size)
                      have s4 := B4.size
                      have q4 : w3.heap.size ≤ w4.heap.size := by have h := hb4.size; first | omega | (simp at h; omega)
                      obtain ⟨X0, X1, Xf, Xg, Xl⟩ := (Box2.mk X0 X1 Xf Xg Xl).below hb4 (by go_size)
                      clear V0 V1 V2 V3 Vf0 Vf1 Vf2 Vf3 Vl
                      replace VB := VB.below hb4 (by have h := VB.lt; go_size)
                      have V0 := VB.c 0 _ rfl
                      have V1 := VB.c 1 _ rfl
                      have V2 := VB.c 2 _ rfl
                      have V3 := VB.c 3 _ rfl
                      have Vf0 := VB.f 0 (Nat.le_of_ble_eq_true rfl)
                      have Vf1 := VB.f 1 (Nat.le_of_ble_eq_true rfl)
                      have Vf2 := VB.f 2 (Nat.le_of_ble_eq_true rfl)
                      have Vf3 := VB.f 3 (Nat.le_of_ble_eq_true rfl)
                      have Vl := VB.lt
                      replace hst := hst.below hb4 (Nat.le_refl _)
                      clear hb4
                      go_wp2_with fail
                      have RB := (Box2.mk X0 X1 Xf Xg Xl).set (.int .i64 7) (.int .i64 (k : Int))
                      obtain ⟨RB0, RB1, -, -, -⟩ := RB
                      refine bodyPost_ret (v := .agg #[.int .i64 7, .int .i64 (k : Int)]) (by simp [results, Try.results31, go_sem, RB0, RB1]) rfl ⟨by rw [E.out, EC.out], by go_grown⟩
                    · have w1 : decide (0 ≤ ka) = false := by simp [hn]
                      have EK := Lib.hid (OKF.out (by rw [← HCE, if_neg (fun h => hn h.2), if_neg (by omega), if_neg (by omega)]))
                      have EV := Lib.hid (OKV.out (by rw [← HCE, if_neg (fun h => hn h.2), if_neg (by omega), if_neg (by omega)]))
                      clear BADF OKF OKV HCE hn k1 k0
                      go_wp2_with fail
                      refine wp_region_ord [0, 1, 2, 3, 4, 5, 6] (by kernel_rfl) (by kernel_rfl) ?_
                      repeat (refine wpI_rd rfl rfl ?_; go_big_quiet_step (fail); refine wpQuiet_nil ?_)
                      refine wpI_call (f := 40) (args := #[.slice (some ⟨b, off, none⟩) k cap, .int .i64 ky, .int .i64 1]) rfl rfl rfl (by simp [go_sem]) ?_
                      refine (KeyTime_cut l k hk ky 1 _ cap _ (hst.below (by go_grown) (Nat.le_refl _)) hm).mono ?_
                      rw [HA.out]
                      rintro e w2 ⟨rfl, hb2⟩
                      refine ⟨_, rfl, hb2, ?_⟩
                      have B2 : Below w.heap.size w w2 := bcall (by go_grown) hb2 (by go_size)
                      have s2 := B2.size
                      have q2 : wr.heap.size + 1 ≤ w2.heap.size := by have h := hb2.size; first | omega | (simp at h; omega)
                      obtain ⟨X0, X1, Xf, Xg, Xl⟩ := ((Box2.mk X0 X1 Xf Xg Xl).alloc (.cells #[.int .i64 kd, .int .i64 ky, .int .i64 us, .int .i64 tm] 63)).drew.drew.below hb2 (by go_size)
                      have VB := (Blk.new wr [.int .i64 kd, .int .i64 ky, .int .i64 us, .int .i64 tm] 63 (g := wr.heap.size) (by go_size)).drew.drew.below hb2 (by go_size)
                      have V0 := VB.c 0 _ rfl
                      have V1 := VB.c 1 _ rfl
                      have V2 := VB.c 2 _ rfl
                      have V3 := VB.c 3 _ rfl
                      have Vf0 := VB.f 0 (Nat.le_of_ble_eq_true rfl)
                      have Vf1 := VB.f 1 (Nat.le_of_ble_eq_true rfl)
                      have Vf2 := VB.f 2 (Nat.le_of_ble_eq_true rfl)
                      have Vf3 := VB.f 3 (Nat.le_of_ble_eq_true rfl)
                      have Vl := VB.lt
                      replace hst := (hst.below (by go_grown) (Nat.le_refl _)).below hb2 (Nat.le_refl _)
                      clear hb2
                      try simp only [Act.put, List.setIfInBounds_toArray, List.set_cons_zero, List.set_cons_succ]
                      repeat (refine wpI_rd rfl rfl ?_; go_big_quiet_step (fail); refine wpQuiet_nil ?_)
                      refine wpI_nil ?_
                      try simp only [Act.put, List.setIfInBounds_toArray, List.set_cons_zero, List.set_cons_succ]
                      go_wp2_with fail
                      refine wp_region_ord [0, 1, 2, 3, 4, 5, 6] (by kernel_rfl) (by kernel_rfl) ?_
                      repeat (refine wpI_rd rfl rfl ?_; go_big_quiet_step (fail); refine wpQuiet_nil ?_)
                      refine wpI_call (f := 40) (args := #[.slice (some ⟨b, off, none⟩) k cap, .int .i64 ky, .int .i64 2]) rfl rfl rfl (by simp [go_sem]) ?_
                      refine (KeyTime_cut l k hk ky 2 _ cap _ (hst.below (by go_grown) (Nat.le_refl _)) hm).mono ?_
                      rw [HR.out]
                      rintro e w3 ⟨rfl, hb3⟩
                      refine ⟨_, rfl, hb3, ?_⟩
                      have B3 : Below w.heap.size w w3 := bcall (by go_grown) hb3 (by go_size)
                      have s3 := B3.size
                      have q3 : w2.heap.size ≤ w3.heap.size := by have h := hb3.size; first | omega | (simp at h; omega)
                      obtain ⟨X0, X1, Xf, Xg, Xl⟩ := (Box2.mk X0 X1 Xf Xg Xl).drew.below hb3 (by go_size)
                      clear V0 V1 V2 V3 Vf0 Vf1 Vf2 Vf3 Vl
                      replace VB := VB.drew.below hb3 (by have h := VB.lt; go_size)
                      have V0 := VB.c 0 _ rfl
                      have V1 := VB.c 1 _ rfl
                      have V2 := VB.c 2 _ rfl
                      have V3 := VB.c 3 _ rfl
                      have Vf0 := VB.f 0 (Nat.le_of_ble_eq_true rfl)
                      have Vf1 := VB.f 1 (Nat.le_of_ble_eq_true rfl)
                      have Vf2 := VB.f 2 (Nat.le_of_ble_eq_true rfl)
                      have Vf3 := VB.f 3 (Nat.le_of_ble_eq_true rfl)
                      have Vl := VB.lt
                      replace hst := (hst.below (by go_grown) (Nat.le_refl _)).below hb3 (Nat.le_refl _)
                      clear hb3
                      try simp only [Act.put, List.setIfInBounds_toArray, List.set_cons_zero, List.set_cons_succ]
                      repeat (refine wpI_rd rfl rfl ?_; go_big_quiet_step (fail); refine wpQuiet_nil ?_)
                      refine wpI_nil ?_
                      try simp only [Act.put, List.setIfInBounds_toArray, List.set_cons_zero, List.set_cons_succ]
                      go_wp2_with fail
                      go_roundw
                      case rel => exact ⟨k + 1, hlt, by go_num, EK, EV, Box2.mk X0 X1 Xf Xg Xl, by go_grown⟩
                      case measure => simp [intOf]; omega
                  · have k2 : kd = 2 := by omega
                    have a1 : (kd == 1) = false := by simp [k1]
                    have a2 : (kd == 2) = true := by simp [k2]
                    by_cases hn : 0 ≤ ka
                    · have w1 : decide (ka < 0) = false := by simp [hn]
                      by_cases hr : 0 ≤ kr
                      · have w2 : decide (0 ≤ kr) = true := by simp [hr]
                        have E := Lib.hid (BADF.out (by rw [← HCE, if_neg (by omega), if_neg (by omega), if_pos ⟨k2, hr⟩]; decide))
                        have EC := Lib.hid (show C = 11 by rw [← HCE, if_neg (by omega), if_neg (by omega), if_pos ⟨k2, hr⟩])
                        clear BADF OKF OKV HCE hn hr k1 k0 k2
                        go_wp2_with fail
                        refine wp_region_ord [0, 1, 2, 3, 4, 5, 6] (by kernel_rfl) (by kernel_rfl) ?_
                        repeat (refine wpI_rd rfl rfl ?_; go_big_quiet_step (fail); refine wpQuiet_nil ?_)
                        refine wpI_call (f := 40) (args := #[.slice (some ⟨b, off, none⟩) k cap, .int .i64 ky, .int .i64 1]) rfl rfl rfl (by simp [go_sem]) ?_
                        refine (KeyTime_cut l k hk ky 1 _ cap _ (hst.below (by go_grown) (Nat.le_refl _)) hm).mono ?_
                        rw [HA.out]
                        rintro e w2 ⟨rfl, hb2⟩
                        refine ⟨_, rfl, hb2, ?_⟩
                        have B2 : Below w.heap.size w w2 := bcall (by go_grown) hb2 (by go_size)
                        have s2 := B2.size
                        have q2 : wr.heap.size + 1 ≤ w2.heap.size := by have h := hb2.size; first | omega | (simp at h; omega)
                        obtain ⟨X0, X1, Xf, Xg, Xl⟩ := ((Box2.mk X0 X1 Xf Xg Xl).alloc (.cells #[.int .i64 kd, .int .i64 ky, .int .i64 us, .int .i64 tm] 63)).drew.drew.below hb2 (by go_size)
                        have VB := (Blk.new wr [.int .i64 kd, .int .i64 ky, .int .i64 us, .int .i64 tm] 63 (g := wr.heap.size) (by go_size)).drew.drew.below hb2 (by go_size)
                        have V0 := VB.c 0 _ rfl
                        have V1 := VB.c 1 _ rfl
                        have V2 := VB.c 2 _ rfl
                        have V3 := VB.c 3 _ rfl
                        have Vf0 := VB.f 0 (Nat.le_of_ble_eq_true rfl)
                        have Vf1 := VB.f 1 (Nat.le_of_ble_eq_true rfl)
                        have Vf2 := VB.f 2 (Nat.le_of_ble_eq_true rfl)
                        have Vf3 := VB.f 3 (Nat.le_of_ble_eq_true rfl)
                        have Vl := VB.lt
                        replace hst := (hst.below (by go_grown) (Nat.le_refl _)).below hb2 (Nat.le_refl _)
                        clear hb2
                        try simp only [Act.put, List.setIfInBounds_toArray, List.set_cons_zero, List.set_cons_succ]
                        repeat (refine wpI_rd rfl rfl ?_; go_big_quiet_step (fail); refine wpQuiet_nil ?_)
                        refine wpI_nil ?_
                        try simp only [Act.put, List.setIfInBounds_toArray, List.set_cons_zero, List.set_cons_succ]
                        go_wp2_with fail
                        refine wp_region_ord [0, 1, 2, 3, 4, 5, 6] (by kernel_rfl) (by kernel_rfl) ?_
                        repeat (refine wpI_rd rfl rfl ?_; go_big_quiet_step (fail); refine wpQuiet_nil ?_)
                        refine wpI_call (f := 40) (args := #[.slice (some ⟨b, off, none⟩) k cap, .int .i64 ky, .int .i64 2]) rfl rfl rfl (by simp [go_sem]) ?_
                        refine (KeyTime_cut l k hk ky 2 _ cap _ (hst.below (by go_grown) (Nat.le_refl _)) hm).mono ?_
                        rw [HR.out]
                        rintro e w3 ⟨rfl, hb3⟩
                        refine ⟨_, rfl, hb3, ?_⟩
                        have B3 : Below w.heap.size w w3 := bcall (by go_grown) hb3 (by go_size)
                        have s3 := B3.size
                        have q3 : w2.heap.size ≤ w3.heap.size := by have h := hb3.size; first | omega | (simp at h; omega)
                        obtain ⟨X0, X1, Xf, Xg, Xl⟩ := (Box2.mk X0 X1 Xf Xg Xl).drew.below hb3 (by go_size)
                        clear V0 V1 V2 V3 Vf0 Vf1 Vf2 Vf3 Vl
                        replace VB := VB.drew.below hb3 (by have h := VB.lt; go_size)
                        have V0 := VB.c 0 _ rfl
                        have V1 := VB.c 1 _ rfl
                        have V2 := VB.c 2 _ rfl
                        have V3 := VB.c 3 _ rfl
                        have Vf0 := VB.f 0 (Nat.le_of_ble_eq_true rfl)
                        have Vf1 := VB.f 1 (Nat.le_of_ble_eq_true rfl)
                        have Vf2 := VB.f 2 (Nat.le_of_ble_eq_true rfl)
                        have Vf3 := VB.f 3 (Nat.le_of_ble_eq_true rfl)
                        have Vl := VB.lt
                        replace hst := (hst.below (by go_grown) (Nat.le_refl _)).below hb3 (Nat.le_refl _)
                        clear hb3
                        try simp only [Act.put, List.setIfInBounds_toArray, List.set_cons_zero, List.set_cons_succ]
                        repeat (refine wpI_rd rfl rfl ?_; go_big_quiet_step (fail); refine wpQuiet_nil ?_)
                        refine wpI_nil ?_
                        try simp only [Act.put, List.setIfInBounds_toArray, List.set_cons_zero, List.set_cons_succ]
                        go_wp2_with fail
                        refine (rfault_any _ _ _).mono ?_
                        rintro e w4 ⟨rfl, hb4⟩
                        have B4 : Below w.heap.size w w4 := bcall (by go_grown) hb4 (by go_size)
                        have s4 := B4.size
                        have q4 : w3.heap.size ≤ w4.heap.size := by have h := hb4.size; first | omega | (simp at h; omega)
                        obtain ⟨X0, X1, Xf, Xg, Xl⟩ := (Box2.mk X0 X1 Xf Xg Xl).below hb4 (by go_size)
                        clear V0 V1 V2 V3 Vf0 Vf1 Vf2 Vf3 Vl
                        replace VB := VB.below hb4 (by have h := VB.lt; go_size)
                        have V0 := VB.c 0 _ rfl
                        have V1 := VB.c 1 _ rfl
                        have V2 := VB.c 2 _ rfl
                        have V3 := VB.c 3 _ rfl
                        have Vf0 := VB.f 0 (Nat.le_of_ble_eq_true rfl)
                        have Vf1 := VB.f 1 (Nat.le_of_ble_eq_true rfl)
                        have Vf2 := VB.f 2 (Nat.le_of_ble_eq_true rfl)
                        have Vf3 := VB.f 3 (Nat.le_of_ble_eq_true rfl)
                        have Vl := VB.lt
                        replace hst := hst.below hb4 (Nat.le_refl _)
                        clear hb4
                        go_wp2_with fail
                        have RB := (Box2.mk X0 X1 Xf Xg Xl).set (.int .i64 11) (.int .i64 (k : Int))
                        obtain ⟨RB0, RB1, -, -, -⟩ := RB
                        refine bodyPost_ret (v := .agg #[.int .i64 11, .int .i64 (k : Int)]) (by simp [results, Try.results31, go_sem, RB0, RB1]) rfl ⟨by rw [E.out, EC.out], by go_grown⟩
                      · have w2 : decide (0 ≤ kr) = false := by simp [hr]
                        have EK := Lib.hid (OKF.out (by rw [← HCE, if_neg (by omega), if_neg (by omega), if_neg (by omega)]))
                        have EV := Lib.hid (OKV.out (by rw [← HCE, if_neg (by omega), if_neg (by omega), if_neg (by omega)]))
                        clear BADF OKF OKV HCE hn hr k1 k0 k2
                        go_wp2_with fail
                        refine wp_region_ord [0, 1, 2, 3, 4, 5, 6] (by kernel_rfl) (by kernel_rfl) ?_
                        repeat (refine wpI_rd rfl rfl ?_; go_big_quiet_step (fail); refine wpQuiet_nil ?_)
                        refine wpI_call (f := 40) (args := #[.slice (some ⟨b, off, none⟩) k cap, .int .i64 ky, .int .i64 1]) rfl rfl rfl (by simp [go_sem]) ?_
                        refine (KeyTime_cut l k hk ky 1 _ cap _ (hst.below (by go_grown) (Nat.le_refl _)) hm).mono ?_
                        rw [HA.out]
                        rintro e w2 ⟨rfl, hb2⟩
                        refine ⟨_, rfl, hb2, ?_⟩
                        have B2 : Below w.heap.size w w2 := bcall (by go_grown) hb2 (by go_size)
                        have s2 := B2.size
                        have q2 : wr.heap.size + 1 ≤ w2.heap.size := by have h := hb2.size; first | omega | (simp at h; omega)
                        obtain ⟨X0, X1, Xf, Xg, Xl⟩ := ((Box2.mk X0 X1 Xf Xg Xl).alloc (.cells #[.int .i64 kd, .int .i64 ky, .int .i64 us, .int .i64 tm] 63)).drew.drew.below hb2 (by go_size)
                        have VB := (Blk.new wr [.int .i64 kd, .int .i64 ky, .int .i64 us, .int .i64 tm] 63 (g := wr.heap.size) (by go_size)).drew.drew.below hb2 (by go_size)
                        have V0 := VB.c 0 _ rfl
                        have V1 := VB.c 1 _ rfl
                        have V2 := VB.c 2 _ rfl
                        have V3 := VB.c 3 _ rfl
                        have Vf0 := VB.f 0 (Nat.le_of_ble_eq_true rfl)
                        have Vf1 := VB.f 1 (Nat.le_of_ble_eq_true rfl)
                        have Vf2 := VB.f 2 (Nat.le_of_ble_eq_true rfl)
                        have Vf3 := VB.f 3 (Nat.le_of_ble_eq_true rfl)
                        have Vl := VB.lt
                        replace hst := (hst.below (by go_grown) (Nat.le_refl _)).below hb2 (Nat.le_refl _)
                        clear hb2
                        try simp only [Act.put, List.setIfInBounds_toArray, List.set_cons_zero, List.set_cons_succ]
                        repeat (refine wpI_rd rfl rfl ?_; go_big_quiet_step (fail); refine wpQuiet_nil ?_)
                        refine wpI_nil ?_
                        try simp only [Act.put, List.setIfInBounds_toArray, List.set_cons_zero, List.set_cons_succ]
                        go_wp2_with fail
                        refine wp_region_ord [0, 1, 2, 3, 4, 5, 6] (by kernel_rfl) (by kernel_rfl) ?_
                        repeat (refine wpI_rd rfl rfl ?_; go_big_quiet_step (fail); refine wpQuiet_nil ?_)
                        refine wpI_call (f := 40) (args := #[.slice (some ⟨b, off, none⟩) k cap, .int .i64 ky, .int .i64 2]) rfl rfl rfl (by simp [go_sem]) ?_
                        refine (KeyTime_cut l k hk ky 2 _ cap _ (hst.below (by go_grown) (Nat.le_refl _)) hm).mono ?_
                        rw [HR.out]
                        rintro e w3 ⟨rfl, hb3⟩
                        refine ⟨_, rfl, hb3, ?_⟩
                        have B3 : Below w.heap.size w w3 := bcall (by go_grown) hb3 (by go_size)
                        have s3 := B3.size
                        have q3 : w2.heap.size ≤ w3.heap.size := by have h := hb3.size; first | omega | (simp at h; omega)
                        obtain ⟨X0, X1, Xf, Xg, Xl⟩ := (Box2.mk X0 X1 Xf Xg Xl).drew.below hb3 (by go_size)
                        clear V0 V1 V2 V3 Vf0 Vf1 Vf2 Vf3 Vl
                        replace VB := VB.drew.below hb3 (by have h := VB.lt; go_size)
                        have V0 := VB.c 0 _ rfl
                        have V1 := VB.c 1 _ rfl
                        have V2 := VB.c 2 _ rfl
                        have V3 := VB.c 3 _ rfl
                        have Vf0 := VB.f 0 (Nat.le_of_ble_eq_true rfl)
                        have Vf1 := VB.f 1 (Nat.le_of_ble_eq_true rfl)
                        have Vf2 := VB.f 2 (Nat.le_of_ble_eq_true rfl)
                        have Vf3 := VB.f 3 (Nat.le_of_ble_eq_true rfl)
                        have Vl := VB.lt
                        replace hst := (hst.below (by go_grown) (Nat.le_refl _)).below hb3 (Nat.le_refl _)
                        clear hb3
                        try simp only [Act.put, List.setIfInBounds_toArray, List.set_cons_zero, List.set_cons_succ]
                        repeat (refine wpI_rd rfl rfl ?_; go_big_quiet_step (fail); refine wpQuiet_nil ?_)
                        refine wpI_nil ?_
                        try simp only [Act.put, List.setIfInBounds_toArray, List.set_cons_zero, List.set_cons_succ]
                        go_wp2_with fail
                        go_roundw
                        case rel => exact ⟨k + 1, hlt, by go_num, EK, EV, Box2.mk X0 X1 Xf Xg Xl, by go_grown⟩
                        case measure => simp [intOf]; omega
                    · have w1 : decide (ka < 0) = true := by simp; omega
                      have E := Lib.hid (BADF.out (by rw [← HCE, if_neg (by omega), if_pos (by omega)]; decide))
                      have EC := Lib.hid (show C = 6 by rw [← HCE, if_neg (by omega), if_pos (by omega)])
                      clear BADF OKF OKV HCE hn k1 k0 k2
                      go_wp2_with fail
                      refine wp_region_ord [0, 1, 2, 3, 4, 5, 6] (by kernel_rfl) (by kernel_rfl) ?_
                      repeat (refine wpI_rd rfl rfl ?_; go_big_quiet_step (fail); refine wpQuiet_nil ?_)
                      refine wpI_call (f := 40) (args := #[.slice (some ⟨b, off, none⟩) k cap, .int .i64 ky, .int .i64 1]) rfl rfl rfl (by simp [go_sem]) ?_
                      refine (KeyTime_cut l k hk ky 1 _ cap _ (hst.below (by go_grown) (Nat.le_refl _)) hm).mono ?_
                      rw [HA.out]
                      rintro e w2 ⟨rfl, hb2⟩
                      refine ⟨_, rfl, hb2, ?_⟩
                      have B2 : Below w.heap.size w w2 := bcall (by go_grown) hb2 (by go_size)
                      have s2 := B2.size
                      have q2 : wr.heap.size + 1 ≤ w2.heap.size := by have h := hb2.size; first | omega | (simp at h; omega)
                      obtain ⟨X0, X1, Xf, Xg, Xl⟩ := ((Box2.mk X0 X1 Xf Xg Xl).alloc (.cells #[.int .i64 kd, .int .i64 ky, .int .i64 us, .int .i64 tm] 63)).drew.drew.below hb2 (by go_size)
                      have VB := (Blk.new wr [.int .i64 kd, .int .i64 ky, .int .i64 us, .int .i64 tm] 63 (g := wr.heap.size) (by go_size)).drew.drew.below hb2 (by go_size)
                      have V0 := VB.c 0 _ rfl
                      have V1 := VB.c 1 _ rfl
                      have V2 := VB.c 2 _ rfl
                      have V3 := VB.c 3 _ rfl
                      have Vf0 := VB.f 0 (Nat.le_of_ble_eq_true rfl)
                      have Vf1 := VB.f 1 (Nat.le_of_ble_eq_true rfl)
                      have Vf2 := VB.f 2 (Nat.le_of_ble_eq_true rfl)
                      have Vf3 := VB.f 3 (Nat.le_of_ble_eq_true rfl)
                      have Vl := VB.lt
                      replace hst := (hst.below (by go_grown) (Nat.le_refl _)).below hb2 (Nat.le_refl _)
                      clear hb2
                      try simp only [Act.put, List.setIfInBounds_toArray, List.set_cons_zero, List.set_cons_succ]
                      repeat (refine wpI_rd rfl rfl ?_; go_big_quiet_step (fail); refine wpQuiet_nil ?_)
                      refine wpI_nil ?_
                      try simp only [Act.put, List.setIfInBounds_toArray, List.set_cons_zero, List.set_cons_succ]
                      go_wp2_with fail
                      refine wp_region_ord [0, 1, 2, 3, 4, 5, 6] (by kernel_rfl) (by kernel_rfl) ?_
                      repeat (refine wpI_rd rfl rfl ?_; go_big_quiet_step (fail); refine wpQuiet_nil ?_)
                      refine wpI_call (f := 40) (args := #[.slice (some ⟨b, off, none⟩) k cap, .int .i64 ky, .int .i64 2]) rfl rfl rfl (by simp [go_sem]) ?_
                      refine (KeyTime_cut l k hk ky 2 _ cap _ (hst.below (by go_grown) (Nat.le_refl _)) hm).mono ?_
                      rw [HR.out]
                      rintro e w3 ⟨rfl, hb3⟩
                      refine ⟨_, rfl, hb3, ?_⟩
                      have B3 : Below w.heap.size w w3 := bcall (by go_grown) hb3 (by go_size)
                      have s3 := B3.size
                      have q3 : w2.heap.size ≤ w3.heap.size := by have h := hb3.size; first | omega | (simp at h; omega)
                      obtain ⟨X0, X1, Xf, Xg, Xl⟩ := (Box2.mk X0 X1 Xf Xg Xl).drew.below hb3 (by go_size)
                      clear V0 V1 V2 V3 Vf0 Vf1 Vf2 Vf3 Vl
                      replace VB := VB.drew.below hb3 (by have h := VB.lt; go_size)
                      have V0 := VB.c 0 _ rfl
                      have V1 := VB.c 1 _ rfl
                      have V2 := VB.c 2 _ rfl
                      have V3 := VB.c 3 _ rfl
                      have Vf0 := VB.f 0 (Nat.le_of_ble_eq_true rfl)
                      have Vf1 := VB.f 1 (Nat.le_of_ble_eq_true rfl)
                      have Vf2 := VB.f 2 (Nat.le_of_ble_eq_true rfl)
                      have Vf3 := VB.f 3 (Nat.le_of_ble_eq_true rfl)
                      have Vl := VB.lt
                      replace hst := (hst.below (by go_grown) (Nat.le_refl _)).below hb3 (Nat.le_refl _)
                      clear hb3
                      try simp only [Act.put, List.setIfInBounds_toArray, List.set_cons_zero, List.set_cons_succ]
                      repeat (refine wpI_rd rfl rfl ?_; go_big_quiet_step (fail); refine wpQuiet_nil ?_)
                      refine wpI_nil ?_
                      try simp only [Act.put, List.setIfInBounds_toArray, List.set_cons_zero, List.set_cons_succ]
                      go_wp2_with fail
                      refine (rfault_any _ _ _).mono ?_
                      rintro e w4 ⟨rfl, hb4⟩
                      have B4 : Below w.heap.size w w4 := bcall (by go_grown) hb4 (by go_size)
                      have s4 := B4.size
                      have q4 : w3.heap.size ≤ w4.heap.size := by have h := hb4.size; first | omega | (simp at h; omega)
                      obtain ⟨X0, X1, Xf, Xg, Xl⟩ := (Box2.mk X0 X1 Xf Xg Xl).below hb4 (by go_size)
                      clear V0 V1 V2 V3 Vf0 Vf1 Vf2 Vf3 Vl
                      replace VB := VB.below hb4 (by have h := VB.lt; go_size)
                      have V0 := VB.c 0 _ rfl
                      have V1 := VB.c 1 _ rfl
                      have V2 := VB.c 2 _ rfl
                      have V3 := VB.c 3 _ rfl
                      have Vf0 := VB.f 0 (Nat.le_of_ble_eq_true rfl)
                      have Vf1 := VB.f 1 (Nat.le_of_ble_eq_true rfl)
                      have Vf2 := VB.f 2 (Nat.le_of_ble_eq_true rfl)
                      have Vf3 := VB.f 3 (Nat.le_of_ble_eq_true rfl)
                      have Vl := VB.lt
                      replace hst := hst.below hb4 (Nat.le_refl _)
                      clear hb4
                      go_wp2_with fail
                      have RB := (Box2.mk X0 X1 Xf Xg Xl).set (.int .i64 6) (.int .i64 (k : Int))
                      obtain ⟨RB0, RB1, -, -, -⟩ := RB
                      refine bodyPost_ret (v := .agg #[.int .i64 6, .int .i64 (k : Int)]) (by simp [results, Try.results31, go_sem, RB0, RB1]) rfl ⟨by rw [E.out, EC.out], by go_grown⟩
        · have ki : Pl.inB kd 1 2 = false := by unfold Pl.inB; rw [Bool.and_eq_false_iff, decide_eq_false_iff_not, decide_eq_false_iff_not]; omega
          have E := Lib.hid (BADF.out (by rw [← HCE, if_pos (by omega)]; decide))
          have EC := Lib.hid (show C = 4 by rw [← HCE, if_pos (by omega)])
          clear BADF OKF OKV HCE k0 d3
          go_wp2_with (first | (go_at_call 16; refine (rIsKey_any _ _).mono ?_; rintro e w' ⟨rfl, rfl⟩) | (go_at_call 44; refine (rin_any _ _ _ _).mono ?_; rintro e w' ⟨rfl, rfl⟩))
          refine (rfault_any _ _ _).mono ?_
          rintro e w2 ⟨rfl, hb2⟩
          have B2 : Below w.heap.size w w2 := bcall (by go_grown) hb2 (by go_size)
          have s2 := B2.size
          have q2 : wr.heap.size + 1 ≤ w2.heap.size := by have h := hb2.size; first | omega | (simp at h; omega)
          obtain ⟨X0, X1, Xf, Xg, Xl⟩ := ((Box2.mk X0 X1 Xf Xg Xl).alloc (.cells #[.int .i64 kd, .int .i64 ky, .int .i64 us, .int .i64 tm] 63)).below hb2 (by go_size)
          have VB := (Blk.new wr [.int .i64 kd, .int .i64 ky, .int .i64 us, .int .i64 tm] 63 (g := wr.heap.size) (by go_size)).below hb2 (by go_size)
          have V0 := VB.c 0 _ rfl
          have V1 := VB.c 1 _ rfl
          have V2 := VB.c 2 _ rfl
          have V3 := VB.c 3 _ rfl
          have Vf0 := VB.f 0 (Nat.le_of_ble_eq_true rfl)
          have Vf1 := VB.f 1 (Nat.le_of_ble_eq_true rfl)
          have Vf2 := VB.f 2 (Nat.le_of_ble_eq_true rfl)
          have Vf3 := VB.f 3 (Nat.le_of_ble_eq_true rfl)
          have Vl := VB.lt
          replace hst := (hst.below (by go_grown) (Nat.le_refl _)).below hb2 (Nat.le_refl _)
          clear hb2
          go_wp2_with fail
          have RB := (Box2.mk X0 X1 Xf Xg Xl).set (.int .i64 4) (.int .i64 (k : Int))
          obtain ⟨RB0, RB1, -, -, -⟩ := RB
          refine bodyPost_ret (v := .agg #[.int .i64 4, .int .i64 (k : Int)]) (by simp [results, Try.results31, go_sem, RB0, RB1]) rfl ⟨by rw [E.out, EC.out], by go_grown⟩
      · obtain rfl : k = l.length := by omega
        have EF := Lib.hid (show F = (0, 0) by rw [← hu.out, Pl.krAt_end])
        have t1 : decide (l.length < l.length) = false := by simp
        obtain ⟨X0, X1, Xf, Xg, Xl⟩ := hbx
        go_wp2_with fail
        have RB := (Box2.mk X0 X1 Xf Xg Xl).set (.int .i64 0) (.int .i64 0)
        obtain ⟨RB0, RB1, -, -, -⟩ := RB
        refine bodyPost_ret (v := .agg #[.int .i64 0, .int .i64 0]) (by simp [results, Try.results31, go_sem, RB0, RB1]) rfl ⟨by rw [EF.out], by go_grown⟩
  · rw [show Pl.krF l = (2, -1) by unfold Pl.krF; rw [if_neg hn]]
    have hn' : decide (40 < l.length) = true := by simp; omega
    have hn2 : decide ((40 : Int) < (l.length : Int)) = true := by simp; omega
    go_enter Try.func31, Try.ntmps31
    go_wp2_with fail
    refine (rfault_any _ _ _).mono ?_
    rintro e w1 ⟨rfl, hb1⟩
    have B1 : Below w.heap.size w w1 := bcall (by go_grown) hb1 (by go_size)
    obtain ⟨X0, X1, Xf, Xg, Xl⟩ := (Box2.new w (.int .i64 0) (.int .i64 0) 26).below hb1 (by go_size)
    have RB := (Box2.mk X0 X1 Xf Xg Xl).set (.int .i64 2) (.int .i64 (-1))
    obtain ⟨RB0, RB1, -, -, -⟩ := RB
    go_wp2_with fail
    refine bodyPost_ret (v := .agg #[.int .i64 2, .int .i64 (-1)]) (by simp [results, Try.results31, go_sem, RB0, RB1]) rfl ⟨rfl, by go_grown⟩
end Go.Proofs.Ytkhkijpkgogncaa
