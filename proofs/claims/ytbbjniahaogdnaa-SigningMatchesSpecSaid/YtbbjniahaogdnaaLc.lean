/- The laws of package signing on messages: walked. -/
import Derived.Test.YtbbjniahaogdnaaLd
namespace Go.Proofs.Ytbbjniahaogdnaa
open Go.RowKit

set_option maxHeartbeats 400000 in
/-- Messages and signatures are as specified, part 1: the numbers are digests. -/
theorem SMS_ok (k : Int) (l : List UInt8) (xs : List Int) (oa ob : Option Addr) (ca cb : Nat) (w : World) (hs : Sl w oa l.length ca 1 (byteVals l)) (hm : l.length ≤ 9223372036854775807)
    (ht : Sl w ob xs.length cb 1 (intVals xs)) (hn : xs.length ≤ 64) (hF : Pl.msgF xs = (0, 0)) (hd : ∀ x ∈ xs, Pl.isDigestB x = true) :
    Calls Try.prog 3 #[.int .i64 k, .slice oa l.length ca, .slice ob xs.length cb] w fun e w' => e = .returned (.bool true) ∧ Below w.heap.size w w' := by
  have HD := Lib.hid hd
  have HF := Lib.hid hF
  have HV := Lib.hid (Pl.msgV_ok hF)
  clear hd hF
  go_enter Try.func3, Try.ntmps3
  go_wp2_with fail
  refine (signs_any w).mono ?_
  rintro e w1 ⟨rfl, B1⟩
  have s1 := B1.size
  go_wp2_with fail
  refine (Message_any xs ob cb _ (ht.below B1 (Nat.le_refl _)) (by omega)).mono ?_
  rintro e w2 ⟨om, cm, rfl, hown, hb2⟩
  rw [HF.out, HV.out]
  rw [HV.out] at hown
  have B2 := bcall B1 hb2 s1
  have s2 := B2.size
  have X1 := Box2.new w2 (.int .i64 0) (.int .i64 0) 26
  go_wp2_with fail
  refine (MessageFault_any xs ob cb _ (ht.below (B2.alloc s2 _) (Nat.le_refl _)) (by omega)).mono ?_
  rw [HF.out]
  rintro e w3 ⟨rfl, hb3⟩
  have B3 := bcall (B2.alloc s2 _) hb3 (by go_size)
  have s23 : w2.heap.size < w3.heap.size := by have := hb3.size; simp at this; omega
  have s3 := B3.size
  have X1 := (X1.below hb3 X1.lt).alloc (.cells #[.int .i64 0, .int .i64 0] 26)
  have X2 := Box2.new w3 (.int .i64 0) (.int .i64 0) 26
  have hmsg := (((Sl.own hown).below (B := w2.heap.size) ((Below.refl _ _).alloc (Nat.le_refl _) (.cells #[.int .i64 0, .int .i64 0] 26)) (Nat.le_refl _)).below hb3 (Nat.le_refl _)).below (B := w3.heap.size) ((Below.refl _ _).alloc (Nat.le_refl _) (.cells #[.int .i64 0, .int .i64 0] 26)) (Nat.le_refl _)
  have B4 := B3.alloc s3 (.cells #[.int .i64 0, .int .i64 0] 26)
  have s4 := B4.size
  clear hown hb3 hb2
  go_wp2_with fail
  have X1 := X1.drew
  have X2 := X2.drew
  have hmsg := hmsg.drew
  have B5 := B4.drew
  have s5 := B5.size
  generalize hW : (w3.alloc (.cells #[.int .i64 0, .int .i64 0] 26)).drew = W at *
  have hcv := run_b2s_ext (P := Try.prog) (src := 22) (dst := 9) Try.underlying22 Try.underlying5 Try.underlying9 hmsg
  have a0 := X1.c0
  have a1 := X1.c1
  have b0 := X2.c0
  have b1 := X2.c1
  have la := X1.lt
  have lb := X2.lt
  refine wp_region_ord [0, 1, 2, 3, 4, 5, 6, 7, 8, 9, 10, 11, 12, 13, 14, 15, 16, 17, 18, 19, 20, 21, 22, 23, 24, 25] (by kernel_rfl) (by kernel_rfl) ?_
  rw [hW]
  clear hW
  repeat (refine wpI_rd rfl rfl ?_; go_big_quiet_step (fail); refine wpQuiet_nil ?_)
  refine wpI_call (f := 16) (args := #[.slice ob xs.length cb]) rfl rfl rfl (by simp [go_sem]) ?_
  refine (RMessage_ok xs ob cb _ (ht.below B5 (Nat.le_refl _)) hn HD.out).mono ?_
  rintro e w5 ⟨oc, cc, rfl, hown5, hb5⟩
  refine ⟨_, rfl, hb5, ?_⟩
  simp only [Act.put, List.setIfInBounds_toArray, List.set_cons_zero, List.set_cons_succ]
  have hcv := run_b2s_ext (P := Try.prog) (src := 22) (dst := 9) Try.underlying22 Try.underlying5 Try.underlying9 (Sl.own hown5)
  repeat (refine wpI_rd rfl rfl ?_; go_big_quiet_step (fail); refine wpQuiet_nil ?_)
  refine wpI_nil ?_
  clear hcv hown5
  have B6 := bcall B5 hb5 s5
  have s6 := B6.size
  have X1 := X1.below hb5 X1.lt
  have X2 := X2.below hb5 X2.lt
  have hne : w2.heap.size ≠ w3.heap.size := by omega
  clear hb5 hmsg a0 a1 b0 b1
  go_wp2_with fail
  refine (Sign_any k l oa ca _ (hs.below B6 (Nat.le_refl _)) hm).mono ?_
  rintro e w6 ⟨rfl, hb6⟩
  generalize hFa : Pl.signF k l.length = FA at *
  have HFa := Lib.hid hFa
  clear hFa
  have B7 := bcall B6 hb6 s6
  have s7 := B7.size
  have Y1 := X1.below hb6 X1.lt
  have X2 := (X2.below hb6 X2.lt).other hne (.int .i64 FA.1) (.int .i64 FA.2)
  have Y2 := Y1.set (.int .i64 FA.1) (.int .i64 FA.2)
  have B8 := below_set2 B7 s2 (.int .i64 FA.1) (.int .i64 FA.2)
  have s8 := B8.size
  obtain ⟨a0, a1, f0, f1, la⟩ := Y1
  go_wp2_with fail
  generalize hV : (w6.setCell ⟨w2.heap.size, 0, none⟩ (.int .i64 FA.1)).setCell ⟨w2.heap.size, 1, none⟩ (.int .i64 FA.2) = V at *
  clear hV
  refine (SignFault_any k oa l.length ca _ hm).mono ?_
  rw [HFa.out]
  rintro e w9 ⟨rfl, hb9⟩
  have B9 := bcall B8 hb9 s8
  have s9 := B9.size
  have X1 := (Y2.below hb9 Y2.lt).other hne.symm (.int .i64 FA.1) (.int .i64 FA.2)
  have Y3 := X2.below hb9 X2.lt
  have X2 := Y3.set (.int .i64 FA.1) (.int .i64 FA.2)
  have B10 := below_set2 B9 s3 (.int .i64 FA.1) (.int .i64 FA.2)
  have s10 := B10.size
  obtain ⟨b0, b1, g0, g1, lb⟩ := Y3
  clear a0 a1 f0 f1
  obtain ⟨a0, a1, _, _, _⟩ := X1
  obtain ⟨d0, d1, _, _, _⟩ := X2
  by_cases hA : FA.1 = 0
  · have t1 : (FA.1 != 0) = false := by simp [hA]
    have t2 : (FA.1 == 0) = true := by simp [hA]
    obtain ⟨kk, hln⟩ := Pl.signF_ok (by rw [HFa.out]; exact hA)
    have hv := Lib.hid (show Pl.signV k l = Pl.signS k l by simp [Pl.signV, kk, hln])
    clear hA
    go_wp2_with fail
    refine (RSign_ok k l oa ca _ (hs.below B10 (Nat.le_refl _)) kk hm).mono ?_
    rintro e w11 ⟨rfl, hb11⟩
    have B11 := bcall B10 hb11 s10
    go_wp2_with fail
    go_ret
    exact ⟨ret_bool (by rw [hv.out]; simp), B11⟩
  · have t1 : (FA.1 != 0) = true := by simp [hA]
    have t2 : (FA.1 == 0) = false := by simp [hA]
    have hv := Lib.hid (show Pl.signV k l = 0 by
      have h : ¬ (Pl.isKeyB k = true ∧ l.length ≤ 4096) := fun ⟨h1, h2⟩ => hA (by rw [← HFa.out]; simp [Pl.signF, h1, h2])
      simp only [Pl.signV, h, if_false])
    clear hA
    rw [hv.out]
    go_wp2_with fail
    go_ret
    exact ⟨ret_bool (by simp), B10⟩
set_option maxHeartbeats 400000 in
/-- Messages and signatures are as specified, part 2: some number is no digest, or there are too many. -/
theorem SMS_bad (k : Int) (l : List UInt8) (xs : List Int) (oa ob : Option Addr) (ca cb : Nat) (w : World) (hs : Sl w oa l.length ca 1 (byteVals l)) (hm : l.length ≤ 9223372036854775807)
    (ht : Sl w ob xs.length cb 1 (intVals xs)) (hm2 : xs.length ≤ 9223372036854775807) (hF : (Pl.msgF xs).1 ≠ 0) :
    Calls Try.prog 3 #[.int .i64 k, .slice oa l.length ca, .slice ob xs.length cb] w fun e w' => e = .returned (.bool true) ∧ Below w.heap.size w w' := by
  have HV := Lib.hid (Pl.msgV_bad hF)
  generalize hM : Pl.msgF xs = FM at *
  have HM := Lib.hid hM
  clear hM
  have u1 : (FM.1 != 0) = true := by simp [hF]
  have u2 : (FM.1 == 0) = false := by simp [hF]
  have HF := Lib.hid hF
  clear hF
  go_enter Try.func3, Try.ntmps3
  go_wp2_with fail
  refine (signs_any w).mono ?_
  rintro e w1 ⟨rfl, B1⟩
  have s1 := B1.size
  go_wp2_with fail
  refine (Message_any xs ob cb _ (ht.below B1 (Nat.le_refl _)) (by omega)).mono ?_
  rintro e w2 ⟨om, cm, rfl, hown, hb2⟩
  rw [HM.out, HV.out]
  clear hown
  have B2 := bcall B1 hb2 s1
  have s2 := B2.size
  have X1 := Box2.new w2 (.int .i64 FM.1) (.int .i64 FM.2) 26
  go_wp2_with fail
  refine (MessageFault_any xs ob cb _ (ht.below (B2.alloc s2 _) (Nat.le_refl _)) (by omega)).mono ?_
  rw [HM.out]
  rintro e w3 ⟨rfl, hb3⟩
  have B3 := bcall (B2.alloc s2 _) hb3 (by go_size)
  have s23 : w2.heap.size < w3.heap.size := by have := hb3.size; simp at this; omega
  have s3 := B3.size
  have X1 := (X1.below hb3 X1.lt).alloc (.cells #[.int .i64 FM.1, .int .i64 FM.2] 26)
  have X2 := Box2.new w3 (.int .i64 FM.1) (.int .i64 FM.2) 26
  have B4 := B3.alloc s3 (.cells #[.int .i64 FM.1, .int .i64 FM.2] 26)
  have s4 := B4.size
  clear hb3 hb2
  go_wp2_with fail
  have X1 := X1.drew
  have X2 := X2.drew
  have B5 := B4.drew
  have s5 := B5.size
  generalize hW : (w3.alloc (.cells #[.int .i64 FM.1, .int .i64 FM.2] 26)).drew = W at *
  have a0 := X1.c0
  have a1 := X1.c1
  have b0 := X2.c0
  have b1 := X2.c1
  refine wp_region_ord [0, 1, 2, 3, 4, 5, 6, 7, 8, 9, 10, 11, 12, 13, 14, 15, 16, 17, 18, 19, 20, 21, 22, 23, 24, 25] (by kernel_rfl) (by kernel_rfl) ?_
  rw [hW]
  clear hW
  repeat (refine wpI_rd rfl rfl ?_; go_big_quiet_step (fail); refine wpQuiet_nil ?_)
  refine wpI_skip rfl rfl ?_
  simp only [Act.put, List.setIfInBounds_toArray, List.set_cons_zero, List.set_cons_succ]
  repeat (refine wpI_rd rfl rfl ?_; go_big_quiet_step (fail); refine wpQuiet_nil ?_)
  refine wpI_nil ?_
  obtain ⟨w5, hw5⟩ : ∃ w5, w5 = W := ⟨_, rfl⟩
  rw [← hw5]
  have B6 := B5
  rw [← hw5] at B6 X1 X2
  have s6 := B6.size
  clear hw5 a0 a1 b0 b1 B5 s5 B4 s4
  have hne : w2.heap.size ≠ w3.heap.size := by omega
  go_wp2_with fail
  refine (Sign_any k l oa ca _ (hs.below B6 (Nat.le_refl _)) hm).mono ?_
  rintro e w6 ⟨rfl, hb6⟩
  generalize hFa : Pl.signF k l.length = FA at *
  have HFa := Lib.hid hFa
  clear hFa
  have B7 := bcall B6 hb6 s6
  have s7 := B7.size
  have Y1 := X1.below hb6 X1.lt
  have X2 := (X2.below hb6 X2.lt).other hne (.int .i64 FA.1) (.int .i64 FA.2)
  have Y2 := Y1.set (.int .i64 FA.1) (.int .i64 FA.2)
  have B8 := below_set2 B7 s2 (.int .i64 FA.1) (.int .i64 FA.2)
  have s8 := B8.size
  obtain ⟨a0, a1, f0, f1, la⟩ := Y1
  go_wp2_with fail
  generalize hV : (w6.setCell ⟨w2.heap.size, 0, none⟩ (.int .i64 FA.1)).setCell ⟨w2.heap.size, 1, none⟩ (.int .i64 FA.2) = V at *
  clear hV
  refine (SignFault_any k oa l.length ca _ hm).mono ?_
  rw [HFa.out]
  rintro e w9 ⟨rfl, hb9⟩
  have B9 := bcall B8 hb9 s8
  have s9 := B9.size
  have X1 := (Y2.below hb9 Y2.lt).other hne.symm (.int .i64 FA.1) (.int .i64 FA.2)
  have Y3 := X2.below hb9 X2.lt
  have X2 := Y3.set (.int .i64 FA.1) (.int .i64 FA.2)
  have B10 := below_set2 B9 s3 (.int .i64 FA.1) (.int .i64 FA.2)
  have s10 := B10.size
  obtain ⟨b0, b1, g0, g1, lb⟩ := Y3
  clear a0 a1 f0 f1
  obtain ⟨a0, a1, _, _, _⟩ := X1
  obtain ⟨d0, d1, _, _, _⟩ := X2
  by_cases hA : FA.1 = 0
  · have t1 : (FA.1 != 0) = false := by simp [hA]
    have t2 : (FA.1 == 0) = true := by simp [hA]
    obtain ⟨kk, hln⟩ := Pl.signF_ok (by rw [HFa.out]; exact hA)
    have hv := Lib.hid (show Pl.signV k l = Pl.signS k l by simp [Pl.signV, kk, hln])
    clear hA
    go_wp2_with fail
    refine (RSign_ok k l oa ca _ (hs.below B10 (Nat.le_refl _)) kk hm).mono ?_
    rintro e w11 ⟨rfl, hb11⟩
    have B11 := bcall B10 hb11 s10
    go_wp2_with fail
    go_ret
    exact ⟨ret_bool (by rw [hv.out]; simp), B11⟩
  · have t1 : (FA.1 != 0) = true := by simp [hA]
    have t2 : (FA.1 == 0) = false := by simp [hA]
    have hv := Lib.hid (show Pl.signV k l = 0 by
      have h : ¬ (Pl.isKeyB k = true ∧ l.length ≤ 4096) := fun ⟨h1, h2⟩ => hA (by rw [← HFa.out]; simp [Pl.signF, h1, h2])
      simp only [Pl.signV, h, if_false])
    clear hA
    rw [hv.out]
    go_wp2_with fail
    go_ret
    exact ⟨ret_bool (by simp), B10⟩

theorem SigningMatchesSpec_main (k : Int) (l : List UInt8) (xs : List Int) (oa ob : Option Addr) (ca cb : Nat) (w : World) (hs : Sl w oa l.length ca 1 (byteVals l)) (hm : l.length ≤ 9223372036854775807)
    (ht : Sl w ob xs.length cb 1 (intVals xs)) (hm2 : xs.length ≤ 9223372036854775807) :
    Calls Try.prog 3 #[.int .i64 k, .slice oa l.length ca, .slice ob xs.length cb] w fun e w' => e = .returned (.bool true) ∧ Below w.heap.size w w' := by
  rcases Pl.msgF_cases xs with ⟨h1, h2, h3⟩ | h
  · exact SMS_ok k l xs oa ob ca cb w hs hm ht h2 h1 h3
  · exact SMS_bad k l xs oa ob ca cb w hs hm ht hm2 h
end Go.Proofs.Ytbbjniahaogdnaa
