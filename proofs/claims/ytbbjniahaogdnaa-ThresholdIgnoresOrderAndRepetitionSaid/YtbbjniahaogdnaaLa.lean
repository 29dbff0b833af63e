/- The laws of package signing on signatures: walked. -/
import Derived.Test.YtbbjniahaogdnaaWg
namespace Go.Proofs.Ytbbjniahaogdnaa
open Go.RowKit

theorem Pl.signS_range (k : Int) (l : List UInt8) : 0 ≤ Pl.signS k l ∧ Pl.signS k l ≤ 2305843009213693950 := by
  have h := Pl.pairS_range k (Pl.ofS l)
  have h2 : Pl.pairS k (Pl.ofS l) < 2305843009213693951 := h.2
  exact ⟨h.1, by unfold Pl.signS; omega⟩
theorem Pl.signS_digest (k : Int) (l : List UInt8) : Pl.isDigestB (Pl.signS k l) = true := Pl.isDigestB_true.2 (Pl.signS_range k l)

/-- A signature verifies, and it is the only one. -/
theorem SigningSignaturesVerify_main (k o : Int) (l : List UInt8) (oa : Option Addr) (cap : Nat) (w : World) (hs : Sl w oa l.length cap 1 (byteVals l)) (hm : l.length ≤ 9223372036854775807) :
    Calls Try.prog 5 #[.int .i64 k, .slice oa l.length cap, .int .i64 o] w fun e w' => e = .returned (.bool true) ∧ Below w.heap.size w w' := by
  by_cases hk : Pl.isKeyB k = true
  · by_cases hn : l.length ≤ 4096
    · have hd := Lib.hid (Pl.signS_digest k l)
      go_enter Try.func5, Try.ntmps5
      go_wp2_with fail
      refine (signs_any w).mono ?_
      rintro e w1 ⟨rfl, B1⟩
      go_wp2_with fail
      refine (Sign_ok k l oa cap _ (hs.below B1 (Nat.le_refl _)) hk hn).mono ?_
      rintro e w2 ⟨rfl, hb2⟩
      have s1 := B1.size
      have B2 := bcall B1 hb2 s1
      have s2 := B2.size
      have X1 := Box2.new w2 (.int .i64 0) (.int .i64 0) 26
      generalize hS : Pl.signS k l = S at *
      go_wp2_with fail
      refine (Verify_ok k S l oa cap _ (hs.below (B2.alloc s2 _) (Nat.le_refl _)) hk hn hd.out).mono ?_
      rintro e w3 ⟨rfl, hb3⟩
      have B3 := bcall (B2.alloc s2 _) hb3 (by go_size)
      have X1 := (X1.below hb3 X1.lt).alloc (.cells #[.int .i64 0, .int .i64 0] 26)
      have X2 := Box2.new w3 (.int .i64 0) (.int .i64 0) 26
      have s3 := B3.size
      have t1 : (Pl.signS k l == S) = true := by rw [hS]; simp
      rw [t1]
      clear t1
      by_cases ho : Pl.isDigestB o = true
      · go_wp2_with fail
        refine (Verify_ok k o l oa cap _ (hs.below (B3.alloc s3 _) (Nat.le_refl _)) hk hn ho).mono ?_
        rintro e w4 ⟨rfl, hb4⟩
        have B4 := bcall (B3.alloc s3 _) hb4 (by go_size)
        obtain ⟨a0, _, _, _, la⟩ := (X2.below hb4 X2.lt).alloc (.cells #[.int .i64 0, .int .i64 0] 26)
        have s4 := B4.size
        rw [hS]
        go_wp2_with fail
        go_quiet ((go_at_call 20; exact quiet_eq (rIsDigest_any _ _)))
        go_wp2_with fail
        go_ret
        exact ⟨ret_bool (by rw [show (o == S) = (S == o) from BEq.comm]; simp), below_drewN (B4.alloc s4 _) _⟩
      · have ho : Pl.isDigestB o = false := by simpa using ho
        have hne : (o == S) = false := by
          simp only [beq_eq_false_iff_ne, ne_eq]
          rintro rfl
          rw [hd.out] at ho
          cases ho
        go_wp2_with fail
        refine (Verify_num k o l oa cap _ (hs.below (B3.alloc s3 _) (Nat.le_refl _)) hk hn ho).mono ?_
        rintro e w4 ⟨rfl, hb4⟩
        have B4 := bcall (B3.alloc s3 _) hb4 (by go_size)
        obtain ⟨a0, _, _, _, la⟩ := (X2.below hb4 X2.lt).alloc (.cells #[.int .i64 3, .int .i64 (-2)] 26)
        have s4 := B4.size
        go_wp2_with fail
        go_quiet ((go_at_call 20; exact quiet_eq (rIsDigest_any _ _)))
        go_wp2_with fail
        go_ret
        exact ⟨ret_bool (by simp), below_drewN (B4.alloc s4 _) _⟩
    · go_enter Try.func5, Try.ntmps5
      go_wp2_with fail
      refine (signs_any w).mono ?_
      rintro e w1 ⟨rfl, B1⟩
      go_wp2_with fail
      refine (Sign_long k l oa cap _ hk hn hm).mono ?_
      rintro e w2 ⟨rfl, hb2⟩
      have B2 := bcall B1 hb2 B1.size
      go_wp2_with (go_at_call 23; refine (rIsKey_any _ _).mono ?_; rintro e w' ⟨rfl, rfl⟩)
      go_ret
      exact ⟨ret_bool (by simp; omega), B2.alloc B2.size _⟩
  · have hk : Pl.isKeyB k = false := by simpa using hk
    go_enter Try.func5, Try.ntmps5
    go_wp2_with fail
    refine (signs_any w).mono ?_
    rintro e w1 ⟨rfl, B1⟩
    go_wp2_with fail
    refine (Sign_key k l oa cap _ hk).mono ?_
    rintro e w2 ⟨rfl, hb2⟩
    have B2 := bcall B1 hb2 B1.size
    go_wp2_with (go_at_call 23; refine (rIsKey_any _ _).mono ?_; rintro e w' ⟨rfl, rfl⟩)
    go_ret
    exact ⟨ret_bool (by simp), B2.alloc B2.size _⟩

/-- The verification is as specified: the key is none. -/
theorem SigningVerifyMatchesSpec_main (k o : Int) (l : List UInt8) (oa : Option Addr) (cap : Nat) (w : World) (hs : Sl w oa l.length cap 1 (byteVals l)) (hm : l.length ≤ 9223372036854775807) :
    Calls Try.prog 4 #[.int .i64 k, .slice oa l.length cap, .int .i64 o] w fun e w' => e = .returned (.bool true) ∧ Below w.heap.size w w' := by
  by_cases hk : Pl.isKeyB k = true
  · by_cases hn : l.length ≤ 4096
    · have hF : Pl.signF k l.length = (0, 0) := by simp [Pl.signF, hk, hn]
      have HF := Lib.hid hF
      clear hF
      go_enter Try.func4, Try.ntmps4
      go_wp2_with fail
      refine (signs_any w).mono ?_
      rintro e w1 ⟨rfl, B1⟩
      go_wp2_with fail
      refine (SignFault_any k oa l.length cap _ hm).mono ?_
      rw [HF.out]
      rintro e w2 ⟨rfl, hb2⟩
      have s1 := B1.size
      have B2 := bcall B1 hb2 s1
      have s2 := B2.size
      have X1 := Box2.new w2 (.int .i64 0) (.int .i64 0) 26
      by_cases ho : Pl.isDigestB o = true
      · go_wp2_with (go_at_call 20; refine (rIsDigest_any _ _).mono ?_; rintro e w' ⟨rfl, rfl⟩)
        refine (Verify_ok k o l oa cap _ (hs.below (B2.alloc s2 _) (Nat.le_refl _)) hk hn ho).mono ?_
        rintro e w3 ⟨rfl, hb3⟩
        have B3 := bcall (B2.alloc s2 _) hb3 (by go_size)
        obtain ⟨a0, a1, _, _, la⟩ := (X1.below hb3 X1.lt).alloc (.cells #[.int .i64 0, .int .i64 0] 26)
        have s3 := B3.size
        go_wp2_with fail
        refine (RSign_ok k l oa cap _ (hs.below (B3.alloc s3 _) (Nat.le_refl _)) hk hm).mono ?_
        rintro e w4 ⟨rfl, hb4⟩
        have B4 := bcall (B3.alloc s3 _) hb4 (by go_size)
        go_wp2_with fail
        go_ret
        exact ⟨ret_bool (by rw [show (o == Pl.signS k l) = (Pl.signS k l == o) from BEq.comm]; simp), B4⟩
      · have ho : Pl.isDigestB o = false := by simpa using ho
        go_wp2_with (go_at_call 20; refine (rIsDigest_any _ _).mono ?_; rintro e w' ⟨rfl, rfl⟩)
        refine (fault_any _ _ _).mono ?_
        rintro e w3 ⟨rfl, hb3⟩
        have B3 := bcall (B2.alloc s2 _) hb3 (by go_size)
        obtain ⟨c0, c1, f0, f1, l1⟩ := X1.below hb3 X1.lt
        have s3 := B3.size
        go_wp2_with fail
        have B4 : Below w.heap.size w ((w3.setCell ⟨w2.heap.size, 0, none⟩ (.int .i64 3)).setCell ⟨w2.heap.size, 1, none⟩ (.int .i64 (-2))) := (B3.setCell (by simpa using s2) _).setCell (by simpa using s2) _
        have X2 : Box2 ((w3.setCell ⟨w2.heap.size, 0, none⟩ (.int .i64 3)).setCell ⟨w2.heap.size, 1, none⟩ (.int .i64 (-2))) w2.heap.size (.int .i64 3) (.int .i64 (-2)) := (Box2.mk c0 c1 f0 f1 l1).set _ _
        have s4 := B4.size
        generalize hW : ((w3.setCell ⟨w2.heap.size, 0, none⟩ (.int .i64 3)).setCell ⟨w2.heap.size, 1, none⟩ (.int .i64 (-2))) = W at *
        clear hW
        refine (Verify_num k o l oa cap _ (hs.below B4 (Nat.le_refl _)) hk hn ho).mono ?_
        rintro e w5 ⟨rfl, hb5⟩
        have B5 := bcall B4 hb5 s4
        obtain ⟨a0, a1, _, _, la⟩ := (X2.below hb5 X2.lt).alloc (.cells #[.int .i64 3, .int .i64 (-2)] 26)
        have s5 := B5.size
        go_wp2_with fail
        go_ret
        exact ⟨ret_bool (by simp), B5.alloc s5 _⟩
    · have hF : Pl.signF k l.length = (2, 0) := by simp [Pl.signF, hk, hn]
      have HF := Lib.hid hF
      clear hF
      go_enter Try.func4, Try.ntmps4
      go_wp2_with fail
      refine (signs_any w).mono ?_
      rintro e w1 ⟨rfl, B1⟩
      go_wp2_with fail
      refine (SignFault_any k oa l.length cap _ hm).mono ?_
      rw [HF.out]
      rintro e w2 ⟨rfl, hb2⟩
      have s1 := B1.size
      have B2 := bcall B1 hb2 s1
      have s2 := B2.size
      have X1 := Box2.new w2 (.int .i64 2) (.int .i64 0) 26
      go_wp2_with fail
      refine (Verify_long k o l oa cap _ hk hn hm).mono ?_
      rintro e w3 ⟨rfl, hb3⟩
      have B3 := bcall (B2.alloc s2 _) hb3 (by go_size)
      obtain ⟨a0, a1, _, _, la⟩ := (X1.below hb3 X1.lt).alloc (.cells #[.int .i64 2, .int .i64 0] 26)
      have s3 := B3.size
      go_wp2_with fail
      go_ret
      exact ⟨ret_bool (by simp), B3.alloc s3 _⟩
  · have hk : Pl.isKeyB k = false := by simpa using hk
    have hF : Pl.signF k l.length = (3, -1) := by simp [Pl.signF, hk]
    have HF := Lib.hid hF
    clear hF
    go_enter Try.func4, Try.ntmps4
    go_wp2_with fail
    refine (signs_any w).mono ?_
    rintro e w1 ⟨rfl, B1⟩
    go_wp2_with fail
    refine (SignFault_any k oa l.length cap _ hm).mono ?_
    rw [HF.out]
    rintro e w2 ⟨rfl, hb2⟩
    have s1 := B1.size
    have B2 := bcall B1 hb2 s1
    have s2 := B2.size
    have X1 := Box2.new w2 (.int .i64 3) (.int .i64 (-1)) 26
    go_wp2_with fail
    refine (Verify_key k o l oa cap _ hk).mono ?_
    rintro e w3 ⟨rfl, hb3⟩
    have B3 := bcall (B2.alloc s2 _) hb3 (by go_size)
    obtain ⟨a0, a1, _, _, la⟩ := (X1.below hb3 X1.lt).alloc (.cells #[.int .i64 3, .int .i64 (-1)] 26)
    have s3 := B3.size
    go_wp2_with fail
    go_ret
    exact ⟨ret_bool (by simp), B3.alloc s3 _⟩
end Go.Proofs.Ytbbjniahaogdnaa
