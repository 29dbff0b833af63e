/- The law TranslogVerifyConsistencyMatchesSpec returns true. -/
import Derived.Test.YtplcbhcbahiheaaTp
namespace Go.Proofs.Ytplcbhcbahiheaa
open Go.RowKit

theorem LogExtends_int (old m root n : Int) (p : List Int) (oa : Option Addr) (cap : Nat) (w : World) (hs : Sl w oa p.length cap 1 (intVals p)) (hp : p.length ≤ 64) (hpd : ∀ x ∈ p, Pl.isDigestB x = true) (hl : Pl.isDigestB old = true) (h1 : 1 ≤ m) (hm : m ≤ n) (hn : n ≤ 64) :
    Calls Try.prog 30 #[.int .i64 old, .int .i64 m, .int .i64 root, .int .i64 n, .slice oa p.length cap] w fun e w' => e = .returned (.bool (Pl.refExtB old m.toNat root n.toNat p)) ∧ Below w.heap.size w w' := by
  obtain ⟨n', hn'⟩ := Int.eq_ofNat_of_zero_le (by omega : 0 ≤ n - 1)
  obtain ⟨m', hm'⟩ := Int.eq_ofNat_of_zero_le (by omega : 0 ≤ m - 1)
  obtain rfl : n = ((n' + 1 : Nat) : Int) := by omega
  obtain rfl : m = ((m' + 1 : Nat) : Int) := by omega
  have h := LogExtends_any old root m' n' p oa cap w hs hp hpd hl (by omega) (by omega)
  rwa [Int.toNat_natCast, Int.toNat_natCast]

set_option maxHeartbeats 1600000 in
theorem TranslogVerifyConsistencyMatchesSpec_ok (old m root n : Int) (p : List Int) (oa : Option Addr) (cap : Nat) (w : World) (hs : Sl w oa p.length cap 1 (intVals p)) (hm : p.length ≤ 9223372036854775807)
    (hW : (Pl.vcoF old m root n p).1 = 0) : Calls Try.prog 5 #[.int .i64 old, .int .i64 m, .int .i64 root, .int .i64 n, .slice oa p.length cap] w fun e w' => e = .returned (.bool true) ∧ Below w.heap.size w w' := by
  have hz := Pl.fbF_zero (show (Pl.fbF (Pl.isDigestB old) (decide (1 ≤ m) && decide (m ≤ n)) (Pl.isDigestB root) (Pl.inB n 1 64) (Pl.prfF p)).1 = 0 from hW)
  obtain ⟨ha, hc, hd, hb, hp⟩ := hz
  obtain ⟨hp0, hpl, hpd⟩ := Pl.prfF_zero hp
  have hb2 := Pl.inB_true.1 hb
  simp only [Bool.and_eq_true, decide_eq_true_eq] at hc
  have hF : Pl.vcoF old m root n p = (0, 0) := by unfold Pl.vcoF Pl.fbF; simp [ha, hb, hc.1, hc.2, hd, hp0]
  have hB : Pl.vcoB old m root n p = Pl.refExtB old m.toNat root n.toNat p := by unfold Pl.vcoB; rw [hF]; simp
  have hfb : Pl.fbF true true true true (Pl.prfF p) = (0, 0) := by rw [hp0]; rfl
  have hn64 : n ≤ 64 := by omega
  have hin : m ≤ n := hc.2
  have h1m : 1 ≤ m := hc.1
  have hl := Lib.hid ha
  replace hB := Lib.hid hB
  replace hF := Lib.hid hF
  replace hfb := Lib.hid hfb
  replace hpd := Lib.hid hpd
  have t1 : decide (1 ≤ m) = true := by simp; omega
  have t2 : decide (m ≤ n) = true := by simp; omega
  clear hW hp hp0 hb2 hc
  go_enter Try.func5, Try.ntmps5
  go_wp2_with (first | (go_at_call 26; refine (rIsDigest_any _ _).mono ?_; rintro e w' ⟨rfl, rfl⟩) | (go_at_call 18; refine (lin_any _ _ _ _).mono ?_; rintro e w' ⟨rfl, rfl⟩))
  refine (firstBad_any true true true true p oa cap _ (hs.below (by go_grown) (Nat.le_refl _)) hm).mono ?_
  rw [hfb.out]
  rintro e w1 ⟨rfl, hb1⟩
  have B1 : Below w.heap.size w w1 := bcall (by go_grown) hb1 (by go_size)
  have s1 := B1.size
  have q1 : w.heap.size ≤ w1.heap.size := by have h := hb1.size; first | omega | (simp at h; omega)
  clear hb1
  go_wp2_with fail
  refine (VerifyConsistency_any old m root n p oa cap _ (hs.below (by go_grown) (Nat.le_refl _)) hm).mono ?_
  rw [hB.out, hF.out]
  rintro e w2 ⟨rfl, hb2⟩
  have B2 : Below w.heap.size w w2 := bcall (by go_grown) hb2 (by go_size)
  have s2 := B2.size
  have q2 : w1.heap.size + 1 ≤ w2.heap.size := by have h := hb2.size; first | omega | (simp at h; omega)
  obtain ⟨ba0, ba1, baf, bag, bal⟩ := (Box2.new w1 (.int .i64 0) (.int .i64 0) 24).below hb2 (by go_size)
  clear hb2
  go_wp2_with fail
  refine (logs_any _).mono ?_
  rintro e w3 ⟨rfl, hb3⟩
  have B3 : Below w.heap.size w w3 := bcall (by go_grown) hb3 (by go_size)
  have s3 := B3.size
  have q3 : w2.heap.size + 1 ≤ w3.heap.size := by have h := hb3.size; first | omega | (simp at h; omega)
  obtain ⟨ba0, ba1, baf, bag, bal⟩ := ((Box2.mk ba0 ba1 baf bag bal).alloc (.cells #[(.int .i64 0), (.int .i64 0)] 24)).below hb3 (by go_size)
  obtain ⟨bb0, bb1, bbf, bbg, bbl⟩ := (Box2.new w2 (.int .i64 0) (.int .i64 0) 24).below hb3 (by go_size)
  clear hb3
  go_wp2_with fail
  refine (LogExtends_int old m root n p oa cap _ (hs.below (by go_grown) (Nat.le_refl _)) hpl hpd.out hl.out h1m hin hn64).mono ?_
  rintro e w4 ⟨rfl, hb4⟩
  have B4 : Below w.heap.size w w4 := bcall (by go_grown) hb4 (by go_size)
  have s4 := B4.size
  have q4 : w3.heap.size ≤ w4.heap.size := by have h := hb4.size; first | omega | (simp at h; omega)
  obtain ⟨ba0, ba1, baf, bag, bal⟩ := (Box2.mk ba0 ba1 baf bag bal).below hb4 (by go_size)
  obtain ⟨bb0, bb1, bbf, bbg, bbl⟩ := (Box2.mk bb0 bb1 bbf bbg bbl).below hb4 (by go_size)
  clear hb4
  go_wp2_with fail
  go_ret
  exact ⟨ret_true (by simp), by go_grown⟩
theorem TranslogVerifyConsistencyMatchesSpec_bad0 (old m root n : Int) (p : List Int) (oa : Option Addr) (cap : Nat) (w : World) (hs : Sl w oa p.length cap 1 (intVals p)) (hm : p.length ≤ 9223372036854775807)
    (hW : (Pl.vcoF old m root n p).1 ≠ 0) (hc : 1 ≤ m) : Calls Try.prog 5 #[.int .i64 old, .int .i64 m, .int .i64 root, .int .i64 n, .slice oa p.length cap] w fun e w' => e = .returned (.bool true) ∧ Below w.heap.size w w' := by
  have hB : Pl.vcoB old m root n p = false := by unfold Pl.vcoB; simp [hW]
  have hfb : Pl.vcoF old m root n p = Pl.fbF (Pl.isDigestB old) (decide (m ≤ n)) (Pl.isDigestB root) (Pl.inB n 1 64) (Pl.prfF p) := by unfold Pl.vcoF; simp [hc]
  obtain ⟨W, hWe⟩ : ∃ W, Pl.vcoF old m root n p = W := ⟨_, rfl⟩
  rw [hWe] at hW hfb
  skip
  have u1 : (W.1 == 0) = false := by simp [hW]
  replace hfb := Lib.hid hfb.symm
  replace hWe := Lib.hid hWe
  replace hB := Lib.hid hB
  clear hW
  go_enter Try.func5, Try.ntmps5
  go_wp2_with (first | (go_at_call 26; refine (rIsDigest_any _ _).mono ?_; rintro e w' ⟨rfl, rfl⟩) | (go_at_call 18; refine (lin_any _ _ _ _).mono ?_; rintro e w' ⟨rfl, rfl⟩))
  refine (firstBad_any (Pl.isDigestB old) (decide (m ≤ n)) (Pl.isDigestB root) (Pl.inB n 1 64) p oa cap _ (hs.below (by go_grown) (Nat.le_refl _)) hm).mono ?_
  rw [hfb.out]
  rintro e w1 ⟨rfl, hb1⟩
  have B1 : Below w.heap.size w w1 := bcall (by go_grown) hb1 (by go_size)
  have s1 := B1.size
  have q1 : w.heap.size ≤ w1.heap.size := by have h := hb1.size; first | omega | (simp at h; omega)
  clear hb1
  go_wp2_with fail
  refine (VerifyConsistency_any old m root n p oa cap _ (hs.below (by go_grown) (Nat.le_refl _)) hm).mono ?_
  rw [hB.out, hWe.out]
  rintro e w2 ⟨rfl, hb2⟩
  have B2 : Below w.heap.size w w2 := bcall (by go_grown) hb2 (by go_size)
  have s2 := B2.size
  have q2 : w1.heap.size + 1 ≤ w2.heap.size := by have h := hb2.size; first | omega | (simp at h; omega)
  obtain ⟨ba0, ba1, baf, bag, bal⟩ := (Box2.new w1 (.int .i64 W.1) (.int .i64 W.2) 24).below hb2 (by go_size)
  clear hb2
  go_wp2_with fail
  refine (logs_any _).mono ?_
  rintro e w3 ⟨rfl, hb3⟩
  have B3 : Below w.heap.size w w3 := bcall (by go_grown) hb3 (by go_size)
  have s3 := B3.size
  have q3 : w2.heap.size + 1 ≤ w3.heap.size := by have h := hb3.size; first | omega | (simp at h; omega)
  obtain ⟨ba0, ba1, baf, bag, bal⟩ := ((Box2.mk ba0 ba1 baf bag bal).alloc (.cells #[(.int .i64 W.1), (.int .i64 W.2)] 24)).below hb3 (by go_size)
  obtain ⟨bb0, bb1, bbf, bbg, bbl⟩ := (Box2.new w2 (.int .i64 W.1) (.int .i64 W.2) 24).below hb3 (by go_size)
  clear hb3
  go_wp2_with fail
  go_ret
  exact ⟨ret_true (by simp), by go_grown⟩
theorem TranslogVerifyConsistencyMatchesSpec_bad1 (old m root n : Int) (p : List Int) (oa : Option Addr) (cap : Nat) (w : World) (hs : Sl w oa p.length cap 1 (intVals p)) (hm : p.length ≤ 9223372036854775807)
    (hW : (Pl.vcoF old m root n p).1 ≠ 0) (hc : ¬ 1 ≤ m) : Calls Try.prog 5 #[.int .i64 old, .int .i64 m, .int .i64 root, .int .i64 n, .slice oa p.length cap] w fun e w' => e = .returned (.bool true) ∧ Below w.heap.size w w' := by
  have hB : Pl.vcoB old m root n p = false := by unfold Pl.vcoB; simp [hW]
  have hfb : Pl.vcoF old m root n p = Pl.fbF (Pl.isDigestB old) false (Pl.isDigestB root) (Pl.inB n 1 64) (Pl.prfF p) := by unfold Pl.vcoF; simp [hc]
  obtain ⟨W, hWe⟩ : ∃ W, Pl.vcoF old m root n p = W := ⟨_, rfl⟩
  rw [hWe] at hW hfb
  have hc2 : m < 1 := by omega
  have hc3 : decide ((1 : Int) ≤ m) = false := by simp; omega
  have u1 : (W.1 == 0) = false := by simp [hW]
  replace hfb := Lib.hid hfb.symm
  replace hWe := Lib.hid hWe
  replace hB := Lib.hid hB
  clear hW
  go_enter Try.func5, Try.ntmps5
  go_wp2_with (first | (go_at_call 26; refine (rIsDigest_any _ _).mono ?_; rintro e w' ⟨rfl, rfl⟩) | (go_at_call 18; refine (lin_any _ _ _ _).mono ?_; rintro e w' ⟨rfl, rfl⟩))
  refine (firstBad_any (Pl.isDigestB old) false (Pl.isDigestB root) (Pl.inB n 1 64) p oa cap _ (hs.below (by go_grown) (Nat.le_refl _)) hm).mono ?_
  rw [hfb.out]
  rintro e w1 ⟨rfl, hb1⟩
  have B1 : Below w.heap.size w w1 := bcall (by go_grown) hb1 (by go_size)
  have s1 := B1.size
  have q1 : w.heap.size ≤ w1.heap.size := by have h := hb1.size; first | omega | (simp at h; omega)
  clear hb1
  go_wp2_with fail
  refine (VerifyConsistency_any old m root n p oa cap _ (hs.below (by go_grown) (Nat.le_refl _)) hm).mono ?_
  rw [hB.out, hWe.out]
  rintro e w2 ⟨rfl, hb2⟩
  have B2 : Below w.heap.size w w2 := bcall (by go_grown) hb2 (by go_size)
  have s2 := B2.size
  have q2 : w1.heap.size + 1 ≤ w2.heap.size := by have h := hb2.size; first | omega | (simp at h; omega)
  obtain ⟨ba0, ba1, baf, bag, bal⟩ := (Box2.new w1 (.int .i64 W.1) (.int .i64 W.2) 24).below hb2 (by go_size)
  clear hb2
  go_wp2_with fail
  refine (logs_any _).mono ?_
  rintro e w3 ⟨rfl, hb3⟩
  have B3 : Below w.heap.size w w3 := bcall (by go_grown) hb3 (by go_size)
  have s3 := B3.size
  have q3 : w2.heap.size + 1 ≤ w3.heap.size := by have h := hb3.size; first | omega | (simp at h; omega)
  obtain ⟨ba0, ba1, baf, bag, bal⟩ := ((Box2.mk ba0 ba1 baf bag bal).alloc (.cells #[(.int .i64 W.1), (.int .i64 W.2)] 24)).below hb3 (by go_size)
  obtain ⟨bb0, bb1, bbf, bbg, bbl⟩ := (Box2.new w2 (.int .i64 W.1) (.int .i64 W.2) 24).below hb3 (by go_size)
  clear hb3
  go_wp2_with fail
  go_ret
  exact ⟨ret_true (by simp), by go_grown⟩
theorem TranslogVerifyConsistencyMatchesSpec_main (old m root n : Int) (p : List Int) (oa : Option Addr) (cap : Nat) (w : World) (hs : Sl w oa p.length cap 1 (intVals p)) (hm : p.length ≤ 9223372036854775807) : Calls Try.prog 5 #[.int .i64 old, .int .i64 m, .int .i64 root, .int .i64 n, .slice oa p.length cap] w fun e w' => e = .returned (.bool true) ∧ Below w.heap.size w w' := by
  by_cases hW : (Pl.vcoF old m root n p).1 = 0
  · exact TranslogVerifyConsistencyMatchesSpec_ok old m root n p oa cap w hs hm hW
  · by_cases hc : 1 ≤ m
    · exact TranslogVerifyConsistencyMatchesSpec_bad0 old m root n p oa cap w hs hm hW hc
    · exact TranslogVerifyConsistencyMatchesSpec_bad1 old m root n p oa cap w hs hm hW hc
end Go.Proofs.Ytplcbhcbahiheaa
