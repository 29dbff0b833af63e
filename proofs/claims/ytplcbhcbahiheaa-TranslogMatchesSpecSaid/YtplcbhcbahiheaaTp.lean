/- The laws TranslogVerifyMatchesSpec and TranslogVerifyConsistencyMatchesSpec return true. -/
import Derived.Test.YtplcbhcbahiheaaTo
namespace Go.Proofs.Ytplcbhcbahiheaa
open Go.RowKit

theorem quietB {P : Program} {f : FuncId} {args : Array Value} {w : World} {v : Value} (h : Calls P f args w fun e w' => e = .returned v ∧ w = w') : Calls P f args w fun e w' => e = .returned v ∧ Below w.heap.size w w' :=
  h.mono fun _ _ ⟨h1, h2⟩ => ⟨h1, h2 ▸ Below.refl _ _⟩
namespace Pl
theorem fbF_zero {a b c d : Bool} {F : Int × Int} (h : (fbF a b c d F).1 = 0) : a = true ∧ b = true ∧ c = true ∧ d = true ∧ F.1 = 0 := by
  unfold fbF at h
  cases a <;> cases b <;> cases c <;> cases d <;> simp_all
theorem prfF_zero {p : List Int} (h : (prfF p).1 = 0) : prfF p = (0, 0) ∧ p.length ≤ 64 ∧ ∀ x ∈ p, isDigestB x = true := by
  rcases prfF_cases p with h2 | h2
  · exact h2
  · exact absurd h h2
end Pl
theorem TranslogVerifyMatchesSpec_ok (root n i leaf : Int) (p : List Int) (oa : Option Addr) (cap : Nat) (w : World) (hs : Sl w oa p.length cap 1 (intVals p)) (hm : p.length ≤ 9223372036854775807)
    (hW : (Pl.tvF root n i leaf p).1 = 0) : Calls Try.prog 4 #[.int .i64 root, .int .i64 n, .int .i64 i, .int .i64 leaf, .slice oa p.length cap] w fun e w' => e = .returned (.bool true) ∧ Below w.heap.size w w' := by
  have hz := Pl.fbF_zero (show (Pl.fbF (Pl.isDigestB root) (Pl.inB n 1 64) (decide (0 ≤ i) && decide (i < n)) (Pl.isDigestB leaf) (Pl.prfF p)).1 = 0 from hW)
  obtain ⟨ha, hb, hc, hd, hp⟩ := hz
  obtain ⟨hp0, hpl, hpd⟩ := Pl.prfF_zero hp
  have hb2 := Pl.inB_true.1 hb
  simp only [Bool.and_eq_true, decide_eq_true_eq] at hc
  have hF : Pl.tvF root n i leaf p = (0, 0) := by unfold Pl.tvF Pl.fbF; simp [ha, hb, hc.1, hc.2, hd, hp0]
  obtain ⟨n, rfl⟩ := Int.eq_ofNat_of_zero_le (by omega : 0 ≤ n)
  obtain ⟨i, rfl⟩ := Int.eq_ofNat_of_zero_le hc.1
  have hB : Pl.tvB root n i leaf p = Pl.refIncB root n i leaf p := by unfold Pl.tvB; rw [hF]; simp
  have hfb : Pl.fbF true true true true (Pl.prfF p) = (0, 0) := by rw [hp0]; rfl
  have hn64 : n ≤ 64 := by omega
  have hin : i < n := by omega
  have hl := Lib.hid hd
  replace hB := Lib.hid hB
  replace hF := Lib.hid hF
  replace hfb := Lib.hid hfb
  replace hpd := Lib.hid hpd
  have t2 : decide ((i : Int) < (n : Int)) = true := by simp; omega
  clear hW hp hp0 hb2 hc
  go_enter Try.func4, Try.ntmps4
  go_wp2_with (first | (go_at_call 26; refine (rIsDigest_any _ _).mono ?_; rintro e w' ⟨rfl, rfl⟩) | (go_at_call 18; refine (lin_any _ _ _ _).mono ?_; rintro e w' ⟨rfl, rfl⟩))
  refine (firstBad_any true true true true p oa cap _ (hs.below (by go_grown) (Nat.le_refl _)) hm).mono ?_
  rw [hfb.out]
  rintro e w1 ⟨rfl, hb1⟩
  have B1 : Below w.heap.size w w1 := bcall (by go_grown) hb1 (by go_size)
  have s1 := B1.size
  have q1 : w.heap.size ≤ w1.heap.size := by have h := hb1.size; first | omega | (simp at h; omega)
  clear hb1
  go_wp2_with fail
  refine (Verify_any root n i leaf p oa cap _ (hs.below (by go_grown) (Nat.le_refl _)) hm).mono ?_
  rw [hB.out, hF.out]
  rintro e w2 ⟨rfl, hb2⟩
  have B2 : Below w.heap.size w w2 := bcall (by go_grown) hb2 (by go_size)
  have s2 := B2.size
  have q2 : w1.heap.size + 1 ≤ w2.heap.size := by have h := hb2.size; first | omega | (simp at h; omega)
  obtain ⟨ba0, ba1, baf, bag, bal⟩ := (Box2.new w1 (.int .i64 0) (.int .i64 0) 24).below hb2 (by go_size)
  clear hb2
  go_wp2_with fail
  refine (logs_any _).mono ?_
  rintro e w3 ⟨rfl, hb3⟩
  have B3 : Below w.heap.size w w3 := bcall (by go_grown) hb3 (by go_size)
  have s3 := B3.size
  have q3 : w2.heap.size + 1 ≤ w3.heap.size := by have h := hb3.size; first | omega | (simp at h; omega)
  obtain ⟨ba0, ba1, baf, bag, bal⟩ := ((Box2.mk ba0 ba1 baf bag bal).alloc (.cells #[(.int .i64 0), (.int .i64 0)] 24)).below hb3 (by go_size)
  obtain ⟨bb0, bb1, bbf, bbg, bbl⟩ := (Box2.new w2 (.int .i64 0) (.int .i64 0) 24).below hb3 (by go_size)
  clear hb3
  go_wp2_with fail
  refine (quietB (LogIncludes_any root leaf n i p oa cap _ (hs.below (by go_grown) (Nat.le_refl _)) hpl hpd.out hl.out hn64 hin)).mono ?_
  rintro e w4 ⟨rfl, hb4⟩
  have B4 : Below w.heap.size w w4 := bcall (by go_grown) hb4 (by go_size)
  have s4 := B4.size
  have q4 : w3.heap.size ≤ w4.heap.size := by have h := hb4.size; first | omega | (simp at h; omega)
  obtain ⟨ba0, ba1, baf, bag, bal⟩ := (Box2.mk ba0 ba1 baf bag bal).below hb4 (by go_size)
  obtain ⟨bb0, bb1, bbf, bbg, bbl⟩ := (Box2.mk bb0 bb1 bbf bbg bbl).below hb4 (by go_size)
  clear hb4
  go_wp2_with fail
  go_ret
  exact ⟨ret_true (by simp), by go_grown⟩
theorem TranslogVerifyMatchesSpec_bad0 (root n i leaf : Int) (p : List Int) (oa : Option Addr) (cap : Nat) (w : World) (hs : Sl w oa p.length cap 1 (intVals p)) (hm : p.length ≤ 9223372036854775807)
    (hW : (Pl.tvF root n i leaf p).1 ≠ 0) (hc : 0 ≤ i) : Calls Try.prog 4 #[.int .i64 root, .int .i64 n, .int .i64 i, .int .i64 leaf, .slice oa p.length cap] w fun e w' => e = .returned (.bool true) ∧ Below w.heap.size w w' := by
  have hB : Pl.tvB root n i leaf p = false := by unfold Pl.tvB; simp [hW]
  have hfb : Pl.tvF root n i leaf p = Pl.fbF (Pl.isDigestB root) (Pl.inB n 1 64) (decide (i < n)) (Pl.isDigestB leaf) (Pl.prfF p) := by unfold Pl.tvF; simp [hc]
  obtain ⟨W, hWe⟩ : ∃ W, Pl.tvF root n i leaf p = W := ⟨_, rfl⟩
  rw [hWe] at hW hfb
  skip
  have u1 : (W.1 == 0) = false := by simp [hW]
  replace hfb := Lib.hid hfb.symm
  replace hWe := Lib.hid hWe
  replace hB := Lib.hid hB
  clear hW
  go_enter Try.func4, Try.ntmps4
  go_wp2_with (first | (go_at_call 26; refine (rIsDigest_any _ _).mono ?_; rintro e w' ⟨rfl, rfl⟩) | (go_at_call 18; refine (lin_any _ _ _ _).mono ?_; rintro e w' ⟨rfl, rfl⟩))
  refine (firstBad_any (Pl.isDigestB root) (Pl.inB n 1 64) (decide (i < n)) (Pl.isDigestB leaf) p oa cap _ (hs.below (by go_grown) (Nat.le_refl _)) hm).mono ?_
  rw [hfb.out]
  rintro e w1 ⟨rfl, hb1⟩
  have B1 : Below w.heap.size w w1 := bcall (by go_grown) hb1 (by go_size)
  have s1 := B1.size
  have q1 : w.heap.size ≤ w1.heap.size := by have h := hb1.size; first | omega | (simp at h; omega)
  clear hb1
  go_wp2_with fail
  refine (Verify_any root n i leaf p oa cap _ (hs.below (by go_grown) (Nat.le_refl _)) hm).mono ?_
  rw [hB.out, hWe.out]
  rintro e w2 ⟨rfl, hb2⟩
  have B2 : Below w.heap.size w w2 := bcall (by go_grown) hb2 (by go_size)
  have s2 := B2.size
  have q2 : w1.heap.size + 1 ≤ w2.heap.size := by have h := hb2.size; first | omega | (simp at h; omega)
  obtain ⟨ba0, ba1, baf, bag, bal⟩ := (Box2.new w1 (.int .i64 W.1) (.int .i64 W.2) 24).below hb2 (by go_size)
  clear hb2
  go_wp2_with fail
  refine (logs_any _).mono ?_
  rintro e w3 ⟨rfl, hb3⟩
  have B3 : Below w.heap.size w w3 := bcall (by go_grown) hb3 (by go_size)
  have s3 := B3.size
  have q3 : w2.heap.size + 1 ≤ w3.heap.size := by have h := hb3.size; first | omega | (simp at h; omega)
  obtain ⟨ba0, ba1, baf, bag, bal⟩ := ((Box2.mk ba0 ba1 baf bag bal).alloc (.cells #[(.int .i64 W.1), (.int .i64 W.2)] 24)).below hb3 (by go_size)
  obtain ⟨bb0, bb1, bbf, bbg, bbl⟩ := (Box2.new w2 (.int .i64 W.1) (.int .i64 W.2) 24).below hb3 (by go_size)
  clear hb3
  go_wp2_with fail
  go_ret
  exact ⟨ret_true (by simp), by go_grown⟩
theorem TranslogVerifyMatchesSpec_bad1 (root n i leaf : Int) (p : List Int) (oa : Option Addr) (cap : Nat) (w : World) (hs : Sl w oa p.length cap 1 (intVals p)) (hm : p.length ≤ 9223372036854775807)
    (hW : (Pl.tvF root n i leaf p).1 ≠ 0) (hc : ¬ 0 ≤ i) : Calls Try.prog 4 #[.int .i64 root, .int .i64 n, .int .i64 i, .int .i64 leaf, .slice oa p.length cap] w fun e w' => e = .returned (.bool true) ∧ Below w.heap.size w w' := by
  have hB : Pl.tvB root n i leaf p = false := by unfold Pl.tvB; simp [hW]
  have hfb : Pl.tvF root n i leaf p = Pl.fbF (Pl.isDigestB root) (Pl.inB n 1 64) false (Pl.isDigestB leaf) (Pl.prfF p) := by unfold Pl.tvF; simp [hc]
  obtain ⟨W, hWe⟩ : ∃ W, Pl.tvF root n i leaf p = W := ⟨_, rfl⟩
  rw [hWe] at hW hfb
  have hc2 : i < 0 := by omega
  have hc3 : decide ((0 : Int) ≤ i) = false := by simp; omega
  have u1 : (W.1 == 0) = false := by simp [hW]
  replace hfb := Lib.hid hfb.symm
  replace hWe := Lib.hid hWe
  replace hB := Lib.hid hB
  clear hW
  go_enter Try.func4, Try.ntmps4
  go_wp2_with (first | (go_at_call 26; refine (rIsDigest_any _ _).mono ?_; rintro e w' ⟨rfl, rfl⟩) | (go_at_call 18; refine (lin_any _ _ _ _).mono ?_; rintro e w' ⟨rfl, rfl⟩))
  refine (firstBad_any (Pl.isDigestB root) (Pl.inB n 1 64) false (Pl.isDigestB leaf) p oa cap _ (hs.below (by go_grown) (Nat.le_refl _)) hm).mono ?_
  rw [hfb.out]
  rintro e w1 ⟨rfl, hb1⟩
  have B1 : Below w.heap.size w w1 := bcall (by go_grown) hb1 (by go_size)
  have s1 := B1.size
  have q1 : w.heap.size ≤ w1.heap.size := by have h := hb1.size; first | omega | (simp at h; omega)
  clear hb1
  go_wp2_with fail
  refine (Verify_any root n i leaf p oa cap _ (hs.below (by go_grown) (Nat.le_refl _)) hm).mono ?_
  rw [hB.out, hWe.out]
  rintro e w2 ⟨rfl, hb2⟩
  have B2 : Below w.heap.size w w2 := bcall (by go_grown) hb2 (by go_size)
  have s2 := B2.size
  have q2 : w1.heap.size + 1 ≤ w2.heap.size := by have h := hb2.size; first | omega | (simp at h; omega)
  obtain ⟨ba0, ba1, baf, bag, bal⟩ := (Box2.new w1 (.int .i64 W.1) (.int .i64 W.2) 24).below hb2 (by go_size)
  clear hb2
  go_wp2_with fail
  refine (logs_any _).mono ?_
  rintro e w3 ⟨rfl, hb3⟩
  have B3 : Below w.heap.size w w3 := bcall (by go_grown) hb3 (by go_size)
  have s3 := B3.size
  have q3 : w2.heap.size + 1 ≤ w3.heap.size := by have h := hb3.size; first | omega | (simp at h; omega)
  obtain ⟨ba0, ba1, baf, bag, bal⟩ := ((Box2.mk ba0 ba1 baf bag bal).alloc (.cells #[(.int .i64 W.1), (.int .i64 W.2)] 24)).below hb3 (by go_size)
  obtain ⟨bb0, bb1, bbf, bbg, bbl⟩ := (Box2.new w2 (.int .i64 W.1) (.int .i64 W.2) 24).below hb3 (by go_size)
  clear hb3
  go_wp2_with fail
  go_ret
  exact ⟨ret_true (by simp), by go_grown⟩
theorem TranslogVerifyMatchesSpec_main (root n i leaf : Int) (p : List Int) (oa : Option Addr) (cap : Nat) (w : World) (hs : Sl w oa p.length cap 1 (intVals p)) (hm : p.length ≤ 9223372036854775807) : Calls Try.prog 4 #[.int .i64 root, .int .i64 n, .int .i64 i, .int .i64 leaf, .slice oa p.length cap] w fun e w' => e = .returned (.bool true) ∧ Below w.heap.size w w' := by
  by_cases hW : (Pl.tvF root n i leaf p).1 = 0
  · exact TranslogVerifyMatchesSpec_ok root n i leaf p oa cap w hs hm hW
  · by_cases hc : 0 ≤ i
    · exact TranslogVerifyMatchesSpec_bad0 root n i leaf p oa cap w hs hm hW hc
    · exact TranslogVerifyMatchesSpec_bad1 root n i leaf p oa cap w hs hm hW hc
end Go.Proofs.Ytplcbhcbahiheaa
