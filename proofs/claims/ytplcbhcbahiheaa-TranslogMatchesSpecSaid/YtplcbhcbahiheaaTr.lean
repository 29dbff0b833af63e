/- The law TranslogLeavesAreDetermined returns true. -/
import Derived.Test.YtplcbhcbahiheaaTq
namespace Go.Proofs.Ytplcbhcbahiheaa
open Go.RowKit

namespace Pl
theorem tvF_zero {root n i leaf : Int} {p : List Int} (h : (tvF root n i leaf p).1 = 0) : tvF root n i leaf p = (0, 0) ∧ isDigestB leaf = true := by
  obtain ⟨ha, hb, hc, hd, hp⟩ := fbF_zero (show (fbF (isDigestB root) (inB n 1 64) (decide (0 ≤ i) && decide (i < n)) (isDigestB leaf) (prfF p)).1 = 0 from h)
  refine ⟨?_, hd⟩
  unfold tvF
  rw [ha, hb, hc, hd, (prfF_zero hp).1]
  rfl
theorem tvB_det {root n i a b : Int} {p : List Int} (h1 : tvB root n i a p = true) (h2 : tvB root n i b p = true) : a = b := by
  unfold tvB at h1 h2
  simp only [Bool.and_eq_true, decide_eq_true_eq] at h1 h2
  exact inclB_leaf _ a b p root (tvF_zero h1.1).2 (tvF_zero h2.1).2 h1.2 h2.2
theorem tvB_split (root n i leaf : Int) (p : List Int) : ((tvF root n i leaf p).1 ≠ 0 ∧ tvB root n i leaf p = false) ∨ (tvF root n i leaf p = (0, 0) ∧ tvB root n i leaf p = false) ∨ (tvF root n i leaf p = (0, 0) ∧ tvB root n i leaf p = true) := by
  by_cases h : (tvF root n i leaf p).1 = 0
  · have h2 := (tvF_zero h).1
    cases hB : tvB root n i leaf p
    · exact .inr (.inl ⟨h2, rfl⟩)
    · exact .inr (.inr ⟨h2, rfl⟩)
  · refine .inl ⟨h, ?_⟩
    unfold tvB
    simp [h]
end Pl
theorem TranslogLeavesAreDetermined_00 (root n i a b : Int) (p : List Int) (oa : Option Addr) (cap : Nat) (w : World) (hs : Sl w oa p.length cap 1 (intVals p)) (hm : p.length ≤ 9223372036854775807)
    (hF1 : (Pl.tvF root n i a p).1 ≠ 0) (hB1 : Pl.tvB root n i a p = false) (hF2 : (Pl.tvF root n i b p).1 ≠ 0) (hB2 : Pl.tvB root n i b p = false) : Calls Try.prog 8 #[.int .i64 root, .int .i64 n, .int .i64 i, .int .i64 a, .int .i64 b, .slice oa p.length cap] w fun e w' => e = .returned (.bool true) ∧ Below w.heap.size w w' := by
  obtain ⟨W1, hW1⟩ : ∃ W, Pl.tvF root n i a p = W := ⟨_, rfl⟩
  rw [hW1] at hF1
  have u1 : (W1.1 != 0) = true := by simp [hF1]
  clear hF1
  replace hF1 := Lib.hid hW1
  clear hW1
  replace hB1 := Lib.hid hB1
  obtain ⟨W2, hW2⟩ : ∃ W, Pl.tvF root n i b p = W := ⟨_, rfl⟩
  rw [hW2] at hF2
  have u2 : (W2.1 != 0) = true := by simp [hF2]
  clear hF2
  replace hF2 := Lib.hid hW2
  clear hW2
  replace hB2 := Lib.hid hB2
  go_enter Try.func8, Try.ntmps8
  go_wp2_with fail
  refine (Verify_any root n i a p oa cap _ (hs.below (by go_grown) (Nat.le_refl _)) hm).mono ?_
  rw [hB1.out, hF1.out]
  rintro e w1 ⟨rfl, hb1⟩
  have B1 : Below w.heap.size w w1 := bcall (by go_grown) hb1 (by go_size)
  have s1 := B1.size
  have q1 : w.heap.size ≤ w1.heap.size := by have h := hb1.size; first | omega | (simp at h; omega)
  clear hb1
  go_wp2_with fail
  refine (Verify_any root n i b p oa cap _ (hs.below (by go_grown) (Nat.le_refl _)) hm).mono ?_
  rw [hB2.out, hF2.out]
  rintro e w2 ⟨rfl, hb2⟩
  have B2 : Below w.heap.size w w2 := bcall (by go_grown) hb2 (by go_size)
  have s2 := B2.size
  have q2 : w1.heap.size + 1 ≤ w2.heap.size := by have h := hb2.size; first | omega | (simp at h; omega)
  obtain ⟨ba0, ba1, baf, bag, bal⟩ := (Box2.new w1 (.int .i64 W1.1) (.int .i64 W1.2) 24).below hb2 (by go_size)
  clear hb2
  go_wp2_with fail
  refine (logs_any _).mono ?_
  rintro e w3 ⟨rfl, hb3⟩
  have B3 : Below w.heap.size w w3 := bcall (by go_grown) hb3 (by go_size)
  have s3 := B3.size
  have q3 : w2.heap.size + 1 ≤ w3.heap.size := by have h := hb3.size; first | omega | (simp at h; omega)
  obtain ⟨ba0, ba1, baf, bag, bal⟩ := ((Box2.mk ba0 ba1 baf bag bal).alloc (.cells #[(.int .i64 W2.1), (.int .i64 W2.2)] 24)).below hb3 (by go_size)
  obtain ⟨bb0, bb1, bbf, bbg, bbl⟩ := (Box2.new w2 (.int .i64 W2.1) (.int .i64 W2.2) 24).below hb3 (by go_size)
  clear hb3
  go_wp2_with fail
  go_ret
  exact ⟨ret_true (by simp), by go_grown⟩
theorem TranslogLeavesAreDetermined_01 (root n i a b : Int) (p : List Int) (oa : Option Addr) (cap : Nat) (w : World) (hs : Sl w oa p.length cap 1 (intVals p)) (hm : p.length ≤ 9223372036854775807)
    (hF1 : (Pl.tvF root n i a p).1 ≠ 0) (hB1 : Pl.tvB root n i a p = false) (hF2 : Pl.tvF root n i b p = (0, 0)) (hB2 : Pl.tvB root n i b p = false) : Calls Try.prog 8 #[.int .i64 root, .int .i64 n, .int .i64 i, .int .i64 a, .int .i64 b, .slice oa p.length cap] w fun e w' => e = .returned (.bool true) ∧ Below w.heap.size w w' := by
  obtain ⟨W1, hW1⟩ : ∃ W, Pl.tvF root n i a p = W := ⟨_, rfl⟩
  rw [hW1] at hF1
  have u1 : (W1.1 != 0) = true := by simp [hF1]
  clear hF1
  replace hF1 := Lib.hid hW1
  clear hW1
  replace hB1 := Lib.hid hB1
  replace hF2 := Lib.hid hF2
  replace hB2 := Lib.hid hB2
  go_enter Try.func8, Try.ntmps8
  go_wp2_with fail
  refine (Verify_any root n i a p oa cap _ (hs.below (by go_grown) (Nat.le_refl _)) hm).mono ?_
  rw [hB1.out, hF1.out]
  rintro e w1 ⟨rfl, hb1⟩
  have B1 : Below w.heap.size w w1 := bcall (by go_grown) hb1 (by go_size)
  have s1 := B1.size
  have q1 : w.heap.size ≤ w1.heap.size := by have h := hb1.size; first | omega | (simp at h; omega)
  clear hb1
  go_wp2_with fail
  refine (Verify_any root n i b p oa cap _ (hs.below (by go_grown) (Nat.le_refl _)) hm).mono ?_
  rw [hB2.out, hF2.out]
  rintro e w2 ⟨rfl, hb2⟩
  have B2 : Below w.heap.size w w2 := bcall (by go_grown) hb2 (by go_size)
  have s2 := B2.size
  have q2 : w1.heap.size + 1 ≤ w2.heap.size := by have h := hb2.size; first | omega | (simp at h; omega)
  obtain ⟨ba0, ba1, baf, bag, bal⟩ := (Box2.new w1 (.int .i64 W1.1) (.int .i64 W1.2) 24).below hb2 (by go_size)
  clear hb2
  go_wp2_with fail
  refine (logs_any _).mono ?_
  rintro e w3 ⟨rfl, hb3⟩
  have B3 : Below w.heap.size w w3 := bcall (by go_grown) hb3 (by go_size)
  have s3 := B3.size
  have q3 : w2.heap.size + 1 ≤ w3.heap.size := by have h := hb3.size; first | omega | (simp at h; omega)
  obtain ⟨ba0, ba1, baf, bag, bal⟩ := ((Box2.mk ba0 ba1 baf bag bal).alloc (.cells #[(.int .i64 0), (.int .i64 0)] 24)).below hb3 (by go_size)
  obtain ⟨bb0, bb1, bbf, bbg, bbl⟩ := (Box2.new w2 (.int .i64 0) (.int .i64 0) 24).below hb3 (by go_size)
  clear hb3
  go_wp2_with fail
  go_ret
  exact ⟨ret_true (by simp), by go_grown⟩
theorem TranslogLeavesAreDetermined_02 (root n i a b : Int) (p : List Int) (oa : Option Addr) (cap : Nat) (w : World) (hs : Sl w oa p.length cap 1 (intVals p)) (hm : p.length ≤ 9223372036854775807)
    (hF1 : (Pl.tvF root n i a p).1 ≠ 0) (hB1 : Pl.tvB root n i a p = false) (hF2 : Pl.tvF root n i b p = (0, 0)) (hB2 : Pl.tvB root n i b p = true) : Calls Try.prog 8 #[.int .i64 root, .int .i64 n, .int .i64 i, .int .i64 a, .int .i64 b, .slice oa p.length cap] w fun e w' => e = .returned (.bool true) ∧ Below w.heap.size w w' := by
  obtain ⟨W1, hW1⟩ : ∃ W, Pl.tvF root n i a p = W := ⟨_, rfl⟩
  rw [hW1] at hF1
  have u1 : (W1.1 != 0) = true := by simp [hF1]
  clear hF1
  replace hF1 := Lib.hid hW1
  clear hW1
  replace hB1 := Lib.hid hB1
  replace hF2 := Lib.hid hF2
  replace hB2 := Lib.hid hB2
  go_enter Try.func8, Try.ntmps8
  go_wp2_with fail
  refine (Verify_any root n i a p oa cap _ (hs.below (by go_grown) (Nat.le_refl _)) hm).mono ?_
  rw [hB1.out, hF1.out]
  rintro e w1 ⟨rfl, hb1⟩
  have B1 : Below w.heap.size w w1 := bcall (by go_grown) hb1 (by go_size)
  have s1 := B1.size
  have q1 : w.heap.size ≤ w1.heap.size := by have h := hb1.size; first | omega | (simp at h; omega)
  clear hb1
  go_wp2_with fail
  refine (Verify_any root n i b p oa cap _ (hs.below (by go_grown) (Nat.le_refl _)) hm).mono ?_
  rw [hB2.out, hF2.out]
  rintro e w2 ⟨rfl, hb2⟩
  have B2 : Below w.heap.size w w2 := bcall (by go_grown) hb2 (by go_size)
  have s2 := B2.size
  have q2 : w1.heap.size + 1 ≤ w2.heap.size := by have h := hb2.size; first | omega | (simp at h; omega)
  obtain ⟨ba0, ba1, baf, bag, bal⟩ := (Box2.new w1 (.int .i64 W1.1) (.int .i64 W1.2) 24).below hb2 (by go_size)
  clear hb2
  go_wp2_with fail
  refine (logs_any _).mono ?_
  rintro e w3 ⟨rfl, hb3⟩
  have B3 : Below w.heap.size w w3 := bcall (by go_grown) hb3 (by go_size)
  have s3 := B3.size
  have q3 : w2.heap.size + 1 ≤ w3.heap.size := by have h := hb3.size; first | omega | (simp at h; omega)
  obtain ⟨ba0, ba1, baf, bag, bal⟩ := ((Box2.mk ba0 ba1 baf bag bal).alloc (.cells #[(.int .i64 0), (.int .i64 0)] 24)).below hb3 (by go_size)
  obtain ⟨bb0, bb1, bbf, bbg, bbl⟩ := (Box2.new w2 (.int .i64 0) (.int .i64 0) 24).below hb3 (by go_size)
  clear hb3
  go_wp2_with fail
  go_ret
  exact ⟨ret_true (by simp), by go_grown⟩
theorem TranslogLeavesAreDetermined_10 (root n i a b : Int) (p : List Int) (oa : Option Addr) (cap : Nat) (w : World) (hs : Sl w oa p.length cap 1 (intVals p)) (hm : p.length ≤ 9223372036854775807)
    (hF1 : Pl.tvF root n i a p = (0, 0)) (hB1 : Pl.tvB root n i a p = false) (hF2 : (Pl.tvF root n i b p).1 ≠ 0) (hB2 : Pl.tvB root n i b p = false) : Calls Try.prog 8 #[.int .i64 root, .int .i64 n, .int .i64 i, .int .i64 a, .int .i64 b, .slice oa p.length cap] w fun e w' => e = .returned (.bool true) ∧ Below w.heap.size w w' := by
  replace hF1 := Lib.hid hF1
  replace hB1 := Lib.hid hB1
  obtain ⟨W2, hW2⟩ : ∃ W, Pl.tvF root n i b p = W := ⟨_, rfl⟩
  rw [hW2] at hF2
  have u2 : (W2.1 != 0) = true := by simp [hF2]
  clear hF2
  replace hF2 := Lib.hid hW2
  clear hW2
  replace hB2 := Lib.hid hB2
  go_enter Try.func8, Try.ntmps8
  go_wp2_with fail
  refine (Verify_any root n i a p oa cap _ (hs.below (by go_grown) (Nat.le_refl _)) hm).mono ?_
  rw [hB1.out, hF1.out]
  rintro e w1 ⟨rfl, hb1⟩
  have B1 : Below w.heap.size w w1 := bcall (by go_grown) hb1 (by go_size)
  have s1 := B1.size
  have q1 : w.heap.size ≤ w1.heap.size := by have h := hb1.size; first | omega | (simp at h; omega)
  clear hb1
  go_wp2_with fail
  refine (Verify_any root n i b p oa cap _ (hs.below (by go_grown) (Nat.le_refl _)) hm).mono ?_
  rw [hB2.out, hF2.out]
  rintro e w2 ⟨rfl, hb2⟩
  have B2 : Below w.heap.size w w2 := bcall (by go_grown) hb2 (by go_size)
  have s2 := B2.size
  have q2 : w1.heap.size + 1 ≤ w2.heap.size := by have h := hb2.size; first | omega | (simp at h; omega)
  obtain ⟨ba0, ba1, baf, bag, bal⟩ := (Box2.new w1 (.int .i64 0) (.int .i64 0) 24).below hb2 (by go_size)
  clear hb2
  go_wp2_with fail
  refine (logs_any _).mono ?_
  rintro e w3 ⟨rfl, hb3⟩
  have B3 : Below w.heap.size w w3 := bcall (by go_grown) hb3 (by go_size)
  have s3 := B3.size
  have q3 : w2.heap.size + 1 ≤ w3.heap.size := by have h := hb3.size; first | omega | (simp at h; omega)
  obtain ⟨ba0, ba1, baf, bag, bal⟩ := ((Box2.mk ba0 ba1 baf bag bal).alloc (.cells #[(.int .i64 W2.1), (.int .i64 W2.2)] 24)).below hb3 (by go_size)
  obtain ⟨bb0, bb1, bbf, bbg, bbl⟩ := (Box2.new w2 (.int .i64 W2.1) (.int .i64 W2.2) 24).below hb3 (by go_size)
  clear hb3
  go_wp2_with fail
  go_ret
  exact ⟨ret_true (by simp), by go_grown⟩
theorem TranslogLeavesAreDetermined_11 (root n i a b : Int) (p : List Int) (oa : Option Addr) (cap : Nat) (w : World) (hs : Sl w oa p.length cap 1 (intVals p)) (hm : p.length ≤ 9223372036854775807)
    (hF1 : Pl.tvF root n i a p = (0, 0)) (hB1 : Pl.tvB root n i a p = false) (hF2 : Pl.tvF root n i b p = (0, 0)) (hB2 : Pl.tvB root n i b p = false) : Calls Try.prog 8 #[.int .i64 root, .int .i64 n, .int .i64 i, .int .i64 a, .int .i64 b, .slice oa p.length cap] w fun e w' => e = .returned (.bool true) ∧ Below w.heap.size w w' := by
  replace hF1 := Lib.hid hF1
  replace hB1 := Lib.hid hB1
  replace hF2 := Lib.hid hF2
  replace hB2 := Lib.hid hB2
  go_enter Try.func8, Try.ntmps8
  go_wp2_with fail
  refine (Verify_any root n i a p oa cap _ (hs.below (by go_grown) (Nat.le_refl _)) hm).mono ?_
  rw [hB1.out, hF1.out]
  rintro e w1 ⟨rfl, hb1⟩
  have B1 : Below w.heap.size w w1 := bcall (by go_grown) hb1 (by go_size)
  have s1 := B1.size
  have q1 : w.heap.size ≤ w1.heap.size := by have h := hb1.size; first | omega | (simp at h; omega)
  clear hb1
  go_wp2_with fail
  refine (Verify_any root n i b p oa cap _ (hs.below (by go_grown) (Nat.le_refl _)) hm).mono ?_
  rw [hB2.out, hF2.out]
  rintro e w2 ⟨rfl, hb2⟩
  have B2 : Below w.heap.size w w2 := bcall (by go_grown) hb2 (by go_size)
  have s2 := B2.size
  have q2 : w1.heap.size + 1 ≤ w2.heap.size := by have h := hb2.size; first | omega | (simp at h; omega)
  obtain ⟨ba0, ba1, baf, bag, bal⟩ := (Box2.new w1 (.int .i64 0) (.int .i64 0) 24).below hb2 (by go_size)
  clear hb2
  go_wp2_with fail
  refine (logs_any _).mono ?_
  rintro e w3 ⟨rfl, hb3⟩
  have B3 : Below w.heap.size w w3 := bcall (by go_grown) hb3 (by go_size)
  have s3 := B3.size
  have q3 : w2.heap.size + 1 ≤ w3.heap.size := by have h := hb3.size; first | omega | (simp at h; omega)
  obtain ⟨ba0, ba1, baf, bag, bal⟩ := ((Box2.mk ba0 ba1 baf bag bal).alloc (.cells #[(.int .i64 0), (.int .i64 0)] 24)).below hb3 (by go_size)
  obtain ⟨bb0, bb1, bbf, bbg, bbl⟩ := (Box2.new w2 (.int .i64 0) (.int .i64 0) 24).below hb3 (by go_size)
  clear hb3
  go_wp2_with fail
  go_ret
  exact ⟨ret_true (by simp), by go_grown⟩
theorem TranslogLeavesAreDetermined_12 (root n i a b : Int) (p : List Int) (oa : Option Addr) (cap : Nat) (w : World) (hs : Sl w oa p.length cap 1 (intVals p)) (hm : p.length ≤ 9223372036854775807)
    (hF1 : Pl.tvF root n i a p = (0, 0)) (hB1 : Pl.tvB root n i a p = false) (hF2 : Pl.tvF root n i b p = (0, 0)) (hB2 : Pl.tvB root n i b p = true) : Calls Try.prog 8 #[.int .i64 root, .int .i64 n, .int .i64 i, .int .i64 a, .int .i64 b, .slice oa p.length cap] w fun e w' => e = .returned (.bool true) ∧ Below w.heap.size w w' := by
  replace hF1 := Lib.hid hF1
  replace hB1 := Lib.hid hB1
  replace hF2 := Lib.hid hF2
  replace hB2 := Lib.hid hB2
  go_enter Try.func8, Try.ntmps8
  go_wp2_with fail
  refine (Verify_any root n i a p oa cap _ (hs.below (by go_grown) (Nat.le_refl _)) hm).mono ?_
  rw [hB1.out, hF1.out]
  rintro e w1 ⟨rfl, hb1⟩
  have B1 : Below w.heap.size w w1 := bcall (by go_grown) hb1 (by go_size)
  have s1 := B1.size
  have q1 : w.heap.size ≤ w1.heap.size := by have h := hb1.size; first | omega | (simp at h; omega)
  clear hb1
  go_wp2_with fail
  refine (Verify_any root n i b p oa cap _ (hs.below (by go_grown) (Nat.le_refl _)) hm).mono ?_
  rw [hB2.out, hF2.out]
  rintro e w2 ⟨rfl, hb2⟩
  have B2 : Below w.heap.size w w2 := bcall (by go_grown) hb2 (by go_size)
  have s2 := B2.size
  have q2 : w1.heap.size + 1 ≤ w2.heap.size := by have h := hb2.size; first | omega | (simp at h; omega)
  obtain ⟨ba0, ba1, baf, bag, bal⟩ := (Box2.new w1 (.int .i64 0) (.int .i64 0) 24).below hb2 (by go_size)
  clear hb2
  go_wp2_with fail
  refine (logs_any _).mono ?_
  rintro e w3 ⟨rfl, hb3⟩
  have B3 : Below w.heap.size w w3 := bcall (by go_grown) hb3 (by go_size)
  have s3 := B3.size
  have q3 : w2.heap.size + 1 ≤ w3.heap.size := by have h := hb3.size; first | omega | (simp at h; omega)
  obtain ⟨ba0, ba1, baf, bag, bal⟩ := ((Box2.mk ba0 ba1 baf bag bal).alloc (.cells #[(.int .i64 0), (.int .i64 0)] 24)).below hb3 (by go_size)
  obtain ⟨bb0, bb1, bbf, bbg, bbl⟩ := (Box2.new w2 (.int .i64 0) (.int .i64 0) 24).below hb3 (by go_size)
  clear hb3
  go_wp2_with fail
  go_ret
  exact ⟨ret_true (by simp), by go_grown⟩
theorem TranslogLeavesAreDetermined_20 (root n i a b : Int) (p : List Int) (oa : Option Addr) (cap : Nat) (w : World) (hs : Sl w oa p.length cap 1 (intVals p)) (hm : p.length ≤ 9223372036854775807)
    (hF1 : Pl.tvF root n i a p = (0, 0)) (hB1 : Pl.tvB root n i a p = true) (hF2 : (Pl.tvF root n i b p).1 ≠ 0) (hB2 : Pl.tvB root n i b p = false) : Calls Try.prog 8 #[.int .i64 root, .int .i64 n, .int .i64 i, .int .i64 a, .int .i64 b, .slice oa p.length cap] w fun e w' => e = .returned (.bool true) ∧ Below w.heap.size w w' := by
  replace hF1 := Lib.hid hF1
  replace hB1 := Lib.hid hB1
  obtain ⟨W2, hW2⟩ : ∃ W, Pl.tvF root n i b p = W := ⟨_, rfl⟩
  rw [hW2] at hF2
  have u2 : (W2.1 != 0) = true := by simp [hF2]
  clear hF2
  replace hF2 := Lib.hid hW2
  clear hW2
  replace hB2 := Lib.hid hB2
  go_enter Try.func8, Try.ntmps8
  go_wp2_with fail
  refine (Verify_any root n i a p oa cap _ (hs.below (by go_grown) (Nat.le_refl _)) hm).mono ?_
  rw [hB1.out, hF1.out]
  rintro e w1 ⟨rfl, hb1⟩
  have B1 : Below w.heap.size w w1 := bcall (by go_grown) hb1 (by go_size)
  have s1 := B1.size
  have q1 : w.heap.size ≤ w1.heap.size := by have h := hb1.size; first | omega | (simp at h; omega)
  clear hb1
  go_wp2_with fail
  refine (Verify_any root n i b p oa cap _ (hs.below (by go_grown) (Nat.le_refl _)) hm).mono ?_
  rw [hB2.out, hF2.out]
  rintro e w2 ⟨rfl, hb2⟩
  have B2 : Below w.heap.size w w2 := bcall (by go_grown) hb2 (by go_size)
  have s2 := B2.size
  have q2 : w1.heap.size + 1 ≤ w2.heap.size := by have h := hb2.size; first | omega | (simp at h; omega)
  obtain ⟨ba0, ba1, baf, bag, bal⟩ := (Box2.new w1 (.int .i64 0) (.int .i64 0) 24).below hb2 (by go_size)
  clear hb2
  go_wp2_with fail
  refine (logs_any _).mono ?_
  rintro e w3 ⟨rfl, hb3⟩
  have B3 : Below w.heap.size w w3 := bcall (by go_grown) hb3 (by go_size)
  have s3 := B3.size
  have q3 : w2.heap.size + 1 ≤ w3.heap.size := by have h := hb3.size; first | omega | (simp at h; omega)
  obtain ⟨ba0, ba1, baf, bag, bal⟩ := ((Box2.mk ba0 ba1 baf bag bal).alloc (.cells #[(.int .i64 W2.1), (.int .i64 W2.2)] 24)).below hb3 (by go_size)
  obtain ⟨bb0, bb1, bbf, bbg, bbl⟩ := (Box2.new w2 (.int .i64 W2.1) (.int .i64 W2.2) 24).below hb3 (by go_size)
  clear hb3
  go_wp2_with fail
  go_ret
  exact ⟨ret_true (by simp), by go_grown⟩
theorem TranslogLeavesAreDetermined_21 (root n i a b : Int) (p : List Int) (oa : Option Addr) (cap : Nat) (w : World) (hs : Sl w oa p.length cap 1 (intVals p)) (hm : p.length ≤ 9223372036854775807)
    (hF1 : Pl.tvF root n i a p = (0, 0)) (hB1 : Pl.tvB root n i a p = true) (hF2 : Pl.tvF root n i b p = (0, 0)) (hB2 : Pl.tvB root n i b p = false) : Calls Try.prog 8 #[.int .i64 root, .int .i64 n, .int .i64 i, .int .i64 a, .int .i64 b, .slice oa p.length cap] w fun e w' => e = .returned (.bool true) ∧ Below w.heap.size w w' := by
  replace hF1 := Lib.hid hF1
  replace hB1 := Lib.hid hB1
  replace hF2 := Lib.hid hF2
  replace hB2 := Lib.hid hB2
  go_enter Try.func8, Try.ntmps8
  go_wp2_with fail
  refine (Verify_any root n i a p oa cap _ (hs.below (by go_grown) (Nat.le_refl _)) hm).mono ?_
  rw [hB1.out, hF1.out]
  rintro e w1 ⟨rfl, hb1⟩
  have B1 : Below w.heap.size w w1 := bcall (by go_grown) hb1 (by go_size)
  have s1 := B1.size
  have q1 : w.heap.size ≤ w1.heap.size := by have h := hb1.size; first | omega | (simp at h; omega)
  clear hb1
  go_wp2_with fail
  refine (Verify_any root n i b p oa cap _ (hs.below (by go_grown) (Nat.le_refl _)) hm).mono ?_
  rw [hB2.out, hF2.out]
  rintro e w2 ⟨rfl, hb2⟩
  have B2 : Below w.heap.size w w2 := bcall (by go_grown) hb2 (by go_size)
  have s2 := B2.size
  have q2 : w1.heap.size + 1 ≤ w2.heap.size := by have h := hb2.size; first | omega | (simp at h; omega)
  obtain ⟨ba0, ba1, baf, bag, bal⟩ := (Box2.new w1 (.int .i64 0) (.int .i64 0) 24).below hb2 (by go_size)
  clear hb2
  go_wp2_with fail
  refine (logs_any _).mono ?_
  rintro e w3 ⟨rfl, hb3⟩
  have B3 : Below w.heap.size w w3 := bcall (by go_grown) hb3 (by go_size)
  have s3 := B3.size
  have q3 : w2.heap.size + 1 ≤ w3.heap.size := by have h := hb3.size; first | omega | (simp at h; omega)
  obtain ⟨ba0, ba1, baf, bag, bal⟩ := ((Box2.mk ba0 ba1 baf bag bal).alloc (.cells #[(.int .i64 0), (.int .i64 0)] 24)).below hb3 (by go_size)
  obtain ⟨bb0, bb1, bbf, bbg, bbl⟩ := (Box2.new w2 (.int .i64 0) (.int .i64 0) 24).below hb3 (by go_size)
  clear hb3
  go_wp2_with fail
  go_ret
  exact ⟨ret_true (by simp), by go_grown⟩
theorem TranslogLeavesAreDetermined_22 (root n i a b : Int) (p : List Int) (oa : Option Addr) (cap : Nat) (w : World) (hs : Sl w oa p.length cap 1 (intVals p)) (hm : p.length ≤ 9223372036854775807)
    (hF1 : Pl.tvF root n i a p = (0, 0)) (hB1 : Pl.tvB root n i a p = true) (hF2 : Pl.tvF root n i b p = (0, 0)) (hB2 : Pl.tvB root n i b p = true) : Calls Try.prog 8 #[.int .i64 root, .int .i64 n, .int .i64 i, .int .i64 a, .int .i64 b, .slice oa p.length cap] w fun e w' => e = .returned (.bool true) ∧ Below w.heap.size w w' := by
  obtain rfl := Pl.tvB_det hB1 hB2
  replace hF1 := Lib.hid hF1
  replace hB1 := Lib.hid hB1
  replace hF2 := Lib.hid hF2
  replace hB2 := Lib.hid hB2
  go_enter Try.func8, Try.ntmps8
  go_wp2_with fail
  refine (Verify_any root n i a p oa cap _ (hs.below (by go_grown) (Nat.le_refl _)) hm).mono ?_
  rw [hB1.out, hF1.out]
  rintro e w1 ⟨rfl, hb1⟩
  have B1 : Below w.heap.size w w1 := bcall (by go_grown) hb1 (by go_size)
  have s1 := B1.size
  have q1 : w.heap.size ≤ w1.heap.size := by have h := hb1.size; first | omega | (simp at h; omega)
  clear hb1
  go_wp2_with fail
  refine (Verify_any root n i a p oa cap _ (hs.below (by go_grown) (Nat.le_refl _)) hm).mono ?_
  rw [hB2.out, hF2.out]
  rintro e w2 ⟨rfl, hb2⟩
  have B2 : Below w.heap.size w w2 := bcall (by go_grown) hb2 (by go_size)
  have s2 := B2.size
  have q2 : w1.heap.size + 1 ≤ w2.heap.size := by have h := hb2.size; first | omega | (simp at h; omega)
  obtain ⟨ba0, ba1, baf, bag, bal⟩ := (Box2.new w1 (.int .i64 0) (.int .i64 0) 24).below hb2 (by go_size)
  clear hb2
  go_wp2_with fail
  refine (logs_any _).mono ?_
  rintro e w3 ⟨rfl, hb3⟩
  have B3 : Below w.heap.size w w3 := bcall (by go_grown) hb3 (by go_size)
  have s3 := B3.size
  have q3 : w2.heap.size + 1 ≤ w3.heap.size := by have h := hb3.size; first | omega | (simp at h; omega)
  obtain ⟨ba0, ba1, baf, bag, bal⟩ := ((Box2.mk ba0 ba1 baf bag bal).alloc (.cells #[(.int .i64 0), (.int .i64 0)] 24)).below hb3 (by go_size)
  obtain ⟨bb0, bb1, bbf, bbg, bbl⟩ := (Box2.new w2 (.int .i64 0) (.int .i64 0) 24).below hb3 (by go_size)
  clear hb3
  go_wp2_with fail
  go_ret
  exact ⟨ret_true (by simp), by go_grown⟩
theorem TranslogLeavesAreDetermined_main (root n i a b : Int) (p : List Int) (oa : Option Addr) (cap : Nat) (w : World) (hs : Sl w oa p.length cap 1 (intVals p)) (hm : p.length ≤ 9223372036854775807) : Calls Try.prog 8 #[.int .i64 root, .int .i64 n, .int .i64 i, .int .i64 a, .int .i64 b, .slice oa p.length cap] w fun e w' => e = .returned (.bool true) ∧ Below w.heap.size w w' := by
  rcases Pl.tvB_split root n i a p with ⟨h1, h2⟩ | ⟨h1, h2⟩ | ⟨h1, h2⟩ <;> rcases Pl.tvB_split root n i b p with ⟨h3, h4⟩ | ⟨h3, h4⟩ | ⟨h3, h4⟩
  · exact TranslogLeavesAreDetermined_00 root n i a b p oa cap w hs hm h1 h2 h3 h4
  · exact TranslogLeavesAreDetermined_01 root n i a b p oa cap w hs hm h1 h2 h3 h4
  · exact TranslogLeavesAreDetermined_02 root n i a b p oa cap w hs hm h1 h2 h3 h4
  · exact TranslogLeavesAreDetermined_10 root n i a b p oa cap w hs hm h1 h2 h3 h4
  · exact TranslogLeavesAreDetermined_11 root n i a b p oa cap w hs hm h1 h2 h3 h4
  · exact TranslogLeavesAreDetermined_12 root n i a b p oa cap w hs hm h1 h2 h3 h4
  · exact TranslogLeavesAreDetermined_20 root n i a b p oa cap w hs hm h1 h2 h3 h4
  · exact TranslogLeavesAreDetermined_21 root n i a b p oa cap w hs hm h1 h2 h3 h4
  · exact TranslogLeavesAreDetermined_22 root n i a b p oa cap w hs hm h1 h2 h3 h4
end Go.Proofs.Ytplcbhcbahiheaa
