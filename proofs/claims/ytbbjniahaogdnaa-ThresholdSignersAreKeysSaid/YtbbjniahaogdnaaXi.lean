/- The law ThresholdMatchesSpec returns true. -/
import Derived.Test.YtbbjniahaogdnaaXh
namespace Go.Proofs.Ytbbjniahaogdnaa
open Go.RowKit

theorem ThresholdMatchesSpec_11 (need : Int) (xs : List Int) (l : List UInt8) (sg : List (Int × Int)) (oa ob oc : Option Addr) (ca cb cc : Nat) (w : World) (hs : Sl w oa xs.length ca 1 (intVals xs)) (hm : xs.length ≤ 9223372036854775807)
    (hb : Sl w ob l.length cb 1 (byteVals l)) (hm2 : l.length ≤ 9223372036854775807) (hg : Sl w oc sg.length cc 2 (pairVals sg)) (hm3 : sg.length ≤ 9223372036854775807)
    (ht : (Pl.thrF xs need).1 = 0) (hv : (Pl.sigF xs l.length sg).1 = 0) :
    Calls Try.prog 8 #[.slice oa xs.length ca, .int .i64 need, .slice ob l.length cb, .slice oc sg.length cc] w fun e w' => e = .returned (.bool true) ∧ Below w.heap.size w w' := by
  have hA : Pl.accF xs need l.length sg = Pl.sigF xs l.length sg := by unfold Pl.accF; rw [if_pos ht]
  have hB : Pl.accB xs need l sg = decide (need ≤ ((Pl.signers xs l sg).length : Int)) := by unfold Pl.accB; rw [hA, hv]; rfl
  have hS : Pl.signersV xs l sg = Pl.signers xs l sg := by unfold Pl.signersV; rw [if_pos hv]
  obtain ⟨hK, hn, hg24⟩ : Pl.Keys xs ∧ l.length ≤ 4096 ∧ sg.length ≤ 24 := by
    rcases Pl.sigF_cases xs l.length sg with ⟨_, _, h1, h2, h3, _⟩ | h
    · exact ⟨h1, h2, h3⟩
    · exact absurd hv h
  replace hK := Lib.hid hK
  replace hA := Lib.hid hA
  replace hB := Lib.hid hB
  replace hS := Lib.hid hS
  generalize hT : Pl.thrF xs need = T at ht
  generalize hV : Pl.sigF xs l.length sg = V at hv
  replace hT := Lib.hid hT
  replace hV := Lib.hid hV
  obtain ⟨ta, tb⟩ := T
  obtain ⟨va, vb⟩ := V
  have t1 : (ta == 0) = true := by simpa using ht
  have t2 : (ta != 0) = false := by simpa using ht
  have v1 : (va == 0) = true := by simpa using hv
  have v2 : (va != 0) = false := by simpa using hv
  clear ht hv
  go_enter Try.func8, Try.ntmps8
  go_wp2_with fail
  refine (ThresholdFault_any xs need oa ca _ hs hm).mono ?_
  rw [hT.out]
  rintro e w1 ⟨rfl, B1⟩
  have s1 := B1.size
  go_wp2_with fail
  refine wp_region_ord [0, 1, 2, 3, 4, 6, 5, 7, 8] (by kernel_rfl) (by kernel_rfl) ?_
  refine wpI_call (f := 26) (args := #[]) rfl rfl rfl (by simp [go_sem]) ?_
  refine (accepts_any _).mono ?_
  rintro e w2 ⟨rfl, hb2⟩
  refine ⟨_, rfl, hb2, ?_⟩
  have B2 : Below w.heap.size w w2 := bcall (by go_grown) hb2 (by go_size)
  have s2 := B2.size
  obtain ⟨c0, c1, f0, f1, l1⟩ := (Box2.new w1 (.int .i64 ta) (.int .i64 tb) 26).drew.below hb2 (by simp)
  try simp only [Act.put, List.setIfInBounds_toArray, List.set_cons_zero, List.set_cons_succ]
  repeat (refine wpI_rd rfl rfl ?_; go_big_quiet_step (fail); refine wpQuiet_nil ?_)
  refine wpI_call (f := 27) (args := #[.slice oa xs.length ca, .int .i64 need]) rfl rfl rfl (by simp [go_sem]) ?_
  refine (Validate_any xs need oa ca _ (hs.below B2 (Nat.le_refl _)) hm).mono ?_
  rw [hT.out]
  rintro e w3 ⟨rfl, hb3⟩
  refine ⟨_, rfl, hb3, ?_⟩
  have B3 : Below w.heap.size w w3 := bcall (by go_grown) hb3 (by go_size)
  have s3 := B3.size
  obtain ⟨c0, c1, f0, f1, l1⟩ := (Box2.mk c0 c1 f0 f1 l1).below hb3 l1
  try simp only [Act.put, List.setIfInBounds_toArray, List.set_cons_zero, List.set_cons_succ]
  repeat (refine wpI_rd rfl rfl ?_; go_big_quiet_step (fail); refine wpQuiet_nil ?_)
  refine wpI_nil ?_
  try simp only [Act.put, List.setIfInBounds_toArray, List.set_cons_zero, List.set_cons_succ]
  clear hb2 hb3
  go_wp2_with fail
  refine (SignersFault_any xs l.length sg oa ob oc ca cb cc _ (hs.below B3 (Nat.le_refl _)) hm hm2 (hg.below B3 (Nat.le_refl _)) hm3).mono ?_
  rw [hV.out]
  rintro e w4 ⟨rfl, hb4⟩
  have B4 : Below w.heap.size w w4 := bcall (by go_grown) hb4 (by go_size)
  have s4 := B4.size
  obtain ⟨c0, c1, f0, f1, l1⟩ := (Box2.mk c0 c1 f0 f1 l1).below hb4 l1
  have q4 : w1.heap.size ≠ w4.heap.size := by omega
  have q4' : w1.heap.size < w4.heap.size := by omega
  have B5 := B4.alloc s4 (.cells #[.int .i64 va, .int .i64 vb] 26)
  have s5 := B5.size
  clear hb4
  go_wp2_with fail
  refine (Signers_any xs l sg oa ob oc ca cb cc _ (hs.below B5 (Nat.le_refl _)) hm (hb.below B5 (Nat.le_refl _)) hm2 (hg.below B5 (Nat.le_refl _)) hm3).mono ?_
  rintro e w5 ⟨o5, k5, rfl, hown, hb5⟩
  rw [hV.out, hS.out]
  rw [hS.out] at hown
  have B6 : Below w.heap.size w w5 := bcall (by go_grown) hb5 (by go_size)
  have s6 := B6.size
  have z5 := hb5.size
  obtain ⟨c0, c1, f0, f1, l1⟩ := ((Box2.mk c0 c1 f0 f1 l1).alloc (.cells #[.int .i64 va, .int .i64 vb] 26)).below hb5 (by simp; omega)
  obtain ⟨d0, d1, g0, g1, m1⟩ := (Box2.new w4 (.int .i64 va) (.int .i64 vb) 26).below hb5 (by simp)
  have q5 : w4.heap.size < w5.heap.size := by simp at z5; omega
  have sl5 := Sl.own hown
  clear hown hb5
  have B7 := B6.alloc s6 (.cells #[.int .i64 va, .int .i64 vb] 26)
  have s7 := B7.size
  go_wp2_with fail

  refine (RSigners_ok xs l sg oa ob oc ca cb cc _ (hs.below B7 (Nat.le_refl _)) hK.out (hb.below B7 (Nat.le_refl _)) hn (hg.below B7 (Nat.le_refl _)) hg24).mono ?_
  rintro e w6 ⟨o6, k6, rfl, hown, hb6⟩
  have B8 : Below w.heap.size w w6 := bcall (by go_grown) hb6 (by go_size)
  have s8 := B8.size
  have z6 := hb6.size
  obtain ⟨c0, c1, f0, f1, l1⟩ := ((Box2.mk c0 c1 f0 f1 l1).alloc (.cells #[.int .i64 va, .int .i64 vb] 26)).below hb6 (by simp; omega)
  obtain ⟨d0, d1, g0, g1, m1⟩ := ((Box2.mk d0 d1 g0 g1 m1).alloc (.cells #[.int .i64 va, .int .i64 vb] 26)).below hb6 (by simp; omega)
  obtain ⟨x0, x1, y0, y1, n1⟩ := (Box2.new w5 (.int .i64 va) (.int .i64 vb) 26).below hb6 (by simp)
  have sl6 := Sl.own hown
  have sl5 := (sl5.below ((Below.refl _ _).alloc (Nat.le_refl _) (.cells #[.int .i64 va, .int .i64 vb] 26)) (Nat.le_refl _)).below hb6 (Nat.le_refl _)
  have hls : (Pl.signers xs l sg).length ≤ xs.length := by unfold Pl.signers; exact List.length_filter_le _ _
  clear hown hb6
  go_wp2_with fail
  refine (Ints_any (Pl.signers xs l sg) (Pl.signers xs l sg) o5 o6 k5 k6 _ sl5 sl6 (by omega) (by omega)).mono ?_
  rw [show decide (Pl.signers xs l sg = Pl.signers xs l sg) = true from decide_eq_true rfl]
  rintro e w7 ⟨rfl, hb7⟩
  have B9 : Below w.heap.size w w7 := bcall (by go_grown) hb7 (by go_size)
  have s9 := B9.size
  have z7 := hb7.size
  obtain ⟨c0, c1, f0, f1, l1⟩ := (Box2.mk c0 c1 f0 f1 l1).below hb7 (by omega)
  obtain ⟨d0, d1, g0, g1, m1⟩ := (Box2.mk d0 d1 g0 g1 m1).below hb7 (by omega)
  obtain ⟨x0, x1, y0, y1, n1⟩ := (Box2.mk x0 x1 y0 y1 n1).below hb7 (by omega)
  clear hb7 sl5 sl6
  go_wp2_with fail

  have X1 := Box2.mk c0 c1 f0 f1 l1
  have X2 := Box2.mk d0 d1 g0 g1 m1
  have X3 := Box2.mk x0 x1 y0 y1 n1
  have q6 : w1.heap.size < w5.heap.size := by omega
  refine (Accept_any xs need l sg oa ob oc ca cb cc _ (hs.below (by go_grown) (Nat.le_refl _)) hm (hb.below (by go_grown) (Nat.le_refl _)) hm2 (hg.below (by go_grown) (Nat.le_refl _)) hm3).mono ?_
  rw [hB.out, hA.out, hV.out]
  rintro e w8 ⟨rfl, hb8⟩
  have B10 : Below w.heap.size w w8 := bcall (by go_grown) hb8 (by go_size)
  have s10 := B10.size
  replace X2 := X2.other (r := w1.heap.size) (by omega) (.int .i64 va) (.int .i64 vb)
  replace X3 := X3.other (r := w1.heap.size) (by omega) (.int .i64 va) (.int .i64 vb)
  replace X1 := X1.set (.int .i64 va) (.int .i64 vb)
  obtain ⟨c0, c1, f0, f1, l1⟩ := X1.below hb8 X1.lt
  obtain ⟨d0, d1, g0, g1, m1⟩ := X2.below hb8 X2.lt
  obtain ⟨x0, x1, y0, y1, n1⟩ := X3.below hb8 X3.lt
  clear hb8 X1 X2 X3
  go_wp2_with fail
  go_ret
  exact ⟨ret_true (by simp), by go_grown⟩
theorem ThresholdMatchesSpec_10 (need : Int) (xs : List Int) (l : List UInt8) (sg : List (Int × Int)) (oa ob oc : Option Addr) (ca cb cc : Nat) (w : World) (hs : Sl w oa xs.length ca 1 (intVals xs)) (hm : xs.length ≤ 9223372036854775807)
    (hb : Sl w ob l.length cb 1 (byteVals l)) (hm2 : l.length ≤ 9223372036854775807) (hg : Sl w oc sg.length cc 2 (pairVals sg)) (hm3 : sg.length ≤ 9223372036854775807)
    (ht : (Pl.thrF xs need).1 = 0) (hv : (Pl.sigF xs l.length sg).1 ≠ 0) :
    Calls Try.prog 8 #[.slice oa xs.length ca, .int .i64 need, .slice ob l.length cb, .slice oc sg.length cc] w fun e w' => e = .returned (.bool true) ∧ Below w.heap.size w w' := by
  have hA : Pl.accF xs need l.length sg = Pl.sigF xs l.length sg := by unfold Pl.accF; rw [if_pos ht]
  have hB : Pl.accB xs need l sg = false := by unfold Pl.accB; rw [hA]; simp [hv]
  have hS : Pl.signersV xs l sg = [] := by unfold Pl.signersV; rw [if_neg hv]
  replace hA := Lib.hid hA
  replace hB := Lib.hid hB
  replace hS := Lib.hid hS
  generalize hT : Pl.thrF xs need = T at ht
  generalize hV : Pl.sigF xs l.length sg = V at hv
  replace hT := Lib.hid hT
  replace hV := Lib.hid hV
  obtain ⟨ta, tb⟩ := T
  obtain ⟨va, vb⟩ := V
  have t1 : (ta == 0) = true := by simpa using ht
  have t2 : (ta != 0) = false := by simpa using ht
  have v1 : (va == 0) = false := by simpa using hv
  have v2 : (va != 0) = true := by simpa using hv
  clear ht hv
  go_enter Try.func8, Try.ntmps8
  go_wp2_with fail
  refine (ThresholdFault_any xs need oa ca _ hs hm).mono ?_
  rw [hT.out]
  rintro e w1 ⟨rfl, B1⟩
  have s1 := B1.size
  go_wp2_with fail
  refine wp_region_ord [0, 1, 2, 3, 4, 6, 5, 7, 8] (by kernel_rfl) (by kernel_rfl) ?_
  refine wpI_call (f := 26) (args := #[]) rfl rfl rfl (by simp [go_sem]) ?_
  refine (accepts_any _).mono ?_
  rintro e w2 ⟨rfl, hb2⟩
  refine ⟨_, rfl, hb2, ?_⟩
  have B2 : Below w.heap.size w w2 := bcall (by go_grown) hb2 (by go_size)
  have s2 := B2.size
  obtain ⟨c0, c1, f0, f1, l1⟩ := (Box2.new w1 (.int .i64 ta) (.int .i64 tb) 26).drew.below hb2 (by simp)
  try simp only [Act.put, List.setIfInBounds_toArray, List.set_cons_zero, List.set_cons_succ]
  repeat (refine wpI_rd rfl rfl ?_; go_big_quiet_step (fail); refine wpQuiet_nil ?_)
  refine wpI_call (f := 27) (args := #[.slice oa xs.length ca, .int .i64 need]) rfl rfl rfl (by simp [go_sem]) ?_
  refine (Validate_any xs need oa ca _ (hs.below B2 (Nat.le_refl _)) hm).mono ?_
  rw [hT.out]
  rintro e w3 ⟨rfl, hb3⟩
  refine ⟨_, rfl, hb3, ?_⟩
  have B3 : Below w.heap.size w w3 := bcall (by go_grown) hb3 (by go_size)
  have s3 := B3.size
  obtain ⟨c0, c1, f0, f1, l1⟩ := (Box2.mk c0 c1 f0 f1 l1).below hb3 l1
  try simp only [Act.put, List.setIfInBounds_toArray, List.set_cons_zero, List.set_cons_succ]
  repeat (refine wpI_rd rfl rfl ?_; go_big_quiet_step (fail); refine wpQuiet_nil ?_)
  refine wpI_nil ?_
  try simp only [Act.put, List.setIfInBounds_toArray, List.set_cons_zero, List.set_cons_succ]
  clear hb2 hb3
  go_wp2_with fail
  refine (SignersFault_any xs l.length sg oa ob oc ca cb cc _ (hs.below B3 (Nat.le_refl _)) hm hm2 (hg.below B3 (Nat.le_refl _)) hm3).mono ?_
  rw [hV.out]
  rintro e w4 ⟨rfl, hb4⟩
  have B4 : Below w.heap.size w w4 := bcall (by go_grown) hb4 (by go_size)
  have s4 := B4.size
  obtain ⟨c0, c1, f0, f1, l1⟩ := (Box2.mk c0 c1 f0 f1 l1).below hb4 l1
  have q4 : w1.heap.size ≠ w4.heap.size := by omega
  have q4' : w1.heap.size < w4.heap.size := by omega
  have B5 := B4.alloc s4 (.cells #[.int .i64 va, .int .i64 vb] 26)
  have s5 := B5.size
  clear hb4
  go_wp2_with fail
  refine (Signers_any xs l sg oa ob oc ca cb cc _ (hs.below B5 (Nat.le_refl _)) hm (hb.below B5 (Nat.le_refl _)) hm2 (hg.below B5 (Nat.le_refl _)) hm3).mono ?_
  rintro e w5 ⟨o5, k5, rfl, hown, hb5⟩
  rw [hV.out, hS.out]
  rw [hS.out] at hown
  have B6 : Below w.heap.size w w5 := bcall (by go_grown) hb5 (by go_size)
  have s6 := B6.size
  have z5 := hb5.size
  obtain ⟨c0, c1, f0, f1, l1⟩ := ((Box2.mk c0 c1 f0 f1 l1).alloc (.cells #[.int .i64 va, .int .i64 vb] 26)).below hb5 (by simp; omega)
  obtain ⟨d0, d1, g0, g1, m1⟩ := (Box2.new w4 (.int .i64 va) (.int .i64 vb) 26).below hb5 (by simp)
  have q5 : w4.heap.size < w5.heap.size := by simp at z5; omega
  have sl5 := Sl.own hown
  clear hown hb5
  have B7 := B6.alloc s6 (.cells #[.int .i64 va, .int .i64 vb] 26)
  have s7 := B7.size
  go_wp2_with fail

  have X1 := Box2.mk c0 c1 f0 f1 l1
  have X2 := (Box2.mk d0 d1 g0 g1 m1).alloc (.cells #[.int .i64 va, .int .i64 vb] 26)
  have X3 := Box2.new w5 (.int .i64 va) (.int .i64 vb) 26
  have X1 := X1.alloc (.cells #[.int .i64 va, .int .i64 vb] 26)
  have B9 := B7
  have q6 : w1.heap.size < w5.heap.size := by omega
  refine (Accept_any xs need l sg oa ob oc ca cb cc _ (hs.below (by go_grown) (Nat.le_refl _)) hm (hb.below (by go_grown) (Nat.le_refl _)) hm2 (hg.below (by go_grown) (Nat.le_refl _)) hm3).mono ?_
  rw [hB.out, hA.out, hV.out]
  rintro e w8 ⟨rfl, hb8⟩
  have B10 : Below w.heap.size w w8 := bcall (by go_grown) hb8 (by go_size)
  have s10 := B10.size
  replace X1 := ((Box2.mk c0 c1 f0 f1 l1).set (.int .i64 va) (.int .i64 vb)).alloc (.cells #[.int .i64 va, .int .i64 vb] 26)
  replace X2 := ((Box2.mk d0 d1 g0 g1 m1).other (r := w1.heap.size) (by omega) (.int .i64 va) (.int .i64 vb)).alloc (.cells #[.int .i64 va, .int .i64 vb] 26)
  replace X3 := Box2.new ((w5.setCell ⟨w1.heap.size, 0, none⟩ (.int .i64 va)).setCell ⟨w1.heap.size, 1, none⟩ (.int .i64 vb)) (.int .i64 va) (.int .i64 vb) 26
  simp only [World.size_setCell] at X3
  obtain ⟨c0, c1, f0, f1, l1⟩ := X1.below hb8 X1.lt
  obtain ⟨d0, d1, g0, g1, m1⟩ := X2.below hb8 X2.lt
  obtain ⟨x0, x1, y0, y1, n1⟩ := X3.below hb8 X3.lt
  clear hb8 X1 X2 X3
  go_wp2_with fail
  go_ret
  exact ⟨ret_true (by simp), by go_grown⟩
theorem ThresholdMatchesSpec_01 (need : Int) (xs : List Int) (l : List UInt8) (sg : List (Int × Int)) (oa ob oc : Option Addr) (ca cb cc : Nat) (w : World) (hs : Sl w oa xs.length ca 1 (intVals xs)) (hm : xs.length ≤ 9223372036854775807)
    (hb : Sl w ob l.length cb 1 (byteVals l)) (hm2 : l.length ≤ 9223372036854775807) (hg : Sl w oc sg.length cc 2 (pairVals sg)) (hm3 : sg.length ≤ 9223372036854775807)
    (ht : (Pl.thrF xs need).1 ≠ 0) (hv : (Pl.sigF xs l.length sg).1 = 0) :
    Calls Try.prog 8 #[.slice oa xs.length ca, .int .i64 need, .slice ob l.length cb, .slice oc sg.length cc] w fun e w' => e = .returned (.bool true) ∧ Below w.heap.size w w' := by
  have hA : Pl.accF xs need l.length sg = Pl.thrF xs need := by unfold Pl.accF; rw [if_neg ht]
  have hB : Pl.accB xs need l sg = false := by unfold Pl.accB; rw [hA]; simp [ht]
  have hS : Pl.signersV xs l sg = Pl.signers xs l sg := by unfold Pl.signersV; rw [if_pos hv]
  obtain ⟨hK, hn, hg24⟩ : Pl.Keys xs ∧ l.length ≤ 4096 ∧ sg.length ≤ 24 := by
    rcases Pl.sigF_cases xs l.length sg with ⟨_, _, h1, h2, h3, _⟩ | h
    · exact ⟨h1, h2, h3⟩
    · exact absurd hv h
  replace hK := Lib.hid hK
  replace hA := Lib.hid hA
  replace hB := Lib.hid hB
  replace hS := Lib.hid hS
  generalize hT : Pl.thrF xs need = T at ht
  generalize hV : Pl.sigF xs l.length sg = V at hv
  replace hT := Lib.hid hT
  replace hV := Lib.hid hV
  obtain ⟨ta, tb⟩ := T
  obtain ⟨va, vb⟩ := V
  have t1 : (ta == 0) = false := by simpa using ht
  have t2 : (ta != 0) = true := by simpa using ht
  have v1 : (va == 0) = true := by simpa using hv
  have v2 : (va != 0) = false := by simpa using hv
  clear ht hv
  go_enter Try.func8, Try.ntmps8
  go_wp2_with fail
  refine (ThresholdFault_any xs need oa ca _ hs hm).mono ?_
  rw [hT.out]
  rintro e w1 ⟨rfl, B1⟩
  have s1 := B1.size
  go_wp2_with fail
  refine wp_region_ord [0, 1, 2, 3, 4, 6, 5, 7, 8] (by kernel_rfl) (by kernel_rfl) ?_
  refine wpI_call (f := 26) (args := #[]) rfl rfl rfl (by simp [go_sem]) ?_
  refine (accepts_any _).mono ?_
  rintro e w2 ⟨rfl, hb2⟩
  refine ⟨_, rfl, hb2, ?_⟩
  have B2 : Below w.heap.size w w2 := bcall (by go_grown) hb2 (by go_size)
  have s2 := B2.size
  obtain ⟨c0, c1, f0, f1, l1⟩ := (Box2.new w1 (.int .i64 ta) (.int .i64 tb) 26).drew.below hb2 (by simp)
  try simp only [Act.put, List.setIfInBounds_toArray, List.set_cons_zero, List.set_cons_succ]
  repeat (refine wpI_rd rfl rfl ?_; go_big_quiet_step (fail); refine wpQuiet_nil ?_)
  refine wpI_call (f := 27) (args := #[.slice oa xs.length ca, .int .i64 need]) rfl rfl rfl (by simp [go_sem]) ?_
  refine (Validate_any xs need oa ca _ (hs.below B2 (Nat.le_refl _)) hm).mono ?_
  rw [hT.out]
  rintro e w3 ⟨rfl, hb3⟩
  refine ⟨_, rfl, hb3, ?_⟩
  have B3 : Below w.heap.size w w3 := bcall (by go_grown) hb3 (by go_size)
  have s3 := B3.size
  obtain ⟨c0, c1, f0, f1, l1⟩ := (Box2.mk c0 c1 f0 f1 l1).below hb3 l1
  try simp only [Act.put, List.setIfInBounds_toArray, List.set_cons_zero, List.set_cons_succ]
  repeat (refine wpI_rd rfl rfl ?_; go_big_quiet_step (fail); refine wpQuiet_nil ?_)
  refine wpI_nil ?_
  try simp only [Act.put, List.setIfInBounds_toArray, List.set_cons_zero, List.set_cons_succ]
  clear hb2 hb3
  go_wp2_with fail
  refine (SignersFault_any xs l.length sg oa ob oc ca cb cc _ (hs.below B3 (Nat.le_refl _)) hm hm2 (hg.below B3 (Nat.le_refl _)) hm3).mono ?_
  rw [hV.out]
  rintro e w4 ⟨rfl, hb4⟩
  have B4 : Below w.heap.size w w4 := bcall (by go_grown) hb4 (by go_size)
  have s4 := B4.size
  obtain ⟨c0, c1, f0, f1, l1⟩ := (Box2.mk c0 c1 f0 f1 l1).below hb4 l1
  have q4 : w1.heap.size ≠ w4.heap.size := by omega
  have q4' : w1.heap.size < w4.heap.size := by omega
  have B5 := B4.alloc s4 (.cells #[.int .i64 va, .int .i64 vb] 26)
  have s5 := B5.size
  clear hb4
  go_wp2_with fail
  refine (Signers_any xs l sg oa ob oc ca cb cc _ (hs.below B5 (Nat.le_refl _)) hm (hb.below B5 (Nat.le_refl _)) hm2 (hg.below B5 (Nat.le_refl _)) hm3).mono ?_
  rintro e w5 ⟨o5, k5, rfl, hown, hb5⟩
  rw [hV.out, hS.out]
  rw [hS.out] at hown
  have B6 : Below w.heap.size w w5 := bcall (by go_grown) hb5 (by go_size)
  have s6 := B6.size
  have z5 := hb5.size
  obtain ⟨c0, c1, f0, f1, l1⟩ := ((Box2.mk c0 c1 f0 f1 l1).alloc (.cells #[.int .i64 va, .int .i64 vb] 26)).below hb5 (by simp; omega)
  obtain ⟨d0, d1, g0, g1, m1⟩ := (Box2.new w4 (.int .i64 va) (.int .i64 vb) 26).below hb5 (by simp)
  have q5 : w4.heap.size < w5.heap.size := by simp at z5; omega
  have sl5 := Sl.own hown
  clear hown hb5
  have B7 := B6.alloc s6 (.cells #[.int .i64 va, .int .i64 vb] 26)
  have s7 := B7.size
  go_wp2_with fail

  refine (RSigners_ok xs l sg oa ob oc ca cb cc _ (hs.below B7 (Nat.le_refl _)) hK.out (hb.below B7 (Nat.le_refl _)) hn (hg.below B7 (Nat.le_refl _)) hg24).mono ?_
  rintro e w6 ⟨o6, k6, rfl, hown, hb6⟩
  have B8 : Below w.heap.size w w6 := bcall (by go_grown) hb6 (by go_size)
  have s8 := B8.size
  have z6 := hb6.size
  obtain ⟨c0, c1, f0, f1, l1⟩ := ((Box2.mk c0 c1 f0 f1 l1).alloc (.cells #[.int .i64 va, .int .i64 vb] 26)).below hb6 (by simp; omega)
  obtain ⟨d0, d1, g0, g1, m1⟩ := ((Box2.mk d0 d1 g0 g1 m1).alloc (.cells #[.int .i64 va, .int .i64 vb] 26)).below hb6 (by simp; omega)
  obtain ⟨x0, x1, y0, y1, n1⟩ := (Box2.new w5 (.int .i64 va) (.int .i64 vb) 26).below hb6 (by simp)
  have sl6 := Sl.own hown
  have sl5 := (sl5.below ((Below.refl _ _).alloc (Nat.le_refl _) (.cells #[.int .i64 va, .int .i64 vb] 26)) (Nat.le_refl _)).below hb6 (Nat.le_refl _)
  have hls : (Pl.signers xs l sg).length ≤ xs.length := by unfold Pl.signers; exact List.length_filter_le _ _
  clear hown hb6
  go_wp2_with fail
  refine (Ints_any (Pl.signers xs l sg) (Pl.signers xs l sg) o5 o6 k5 k6 _ sl5 sl6 (by omega) (by omega)).mono ?_
  rw [show decide (Pl.signers xs l sg = Pl.signers xs l sg) = true from decide_eq_true rfl]
  rintro e w7 ⟨rfl, hb7⟩
  have B9 : Below w.heap.size w w7 := bcall (by go_grown) hb7 (by go_size)
  have s9 := B9.size
  have z7 := hb7.size
  obtain ⟨c0, c1, f0, f1, l1⟩ := (Box2.mk c0 c1 f0 f1 l1).below hb7 (by omega)
  obtain ⟨d0, d1, g0, g1, m1⟩ := (Box2.mk d0 d1 g0 g1 m1).below hb7 (by omega)
  obtain ⟨x0, x1, y0, y1, n1⟩ := (Box2.mk x0 x1 y0 y1 n1).below hb7 (by omega)
  clear hb7 sl5 sl6
  go_wp2_with fail

  have X1 := Box2.mk c0 c1 f0 f1 l1
  have X2 := Box2.mk d0 d1 g0 g1 m1
  have X3 := Box2.mk x0 x1 y0 y1 n1
  have q6 : w1.heap.size < w5.heap.size := by omega
  refine (Accept_any xs need l sg oa ob oc ca cb cc _ (hs.below (by go_grown) (Nat.le_refl _)) hm (hb.below (by go_grown) (Nat.le_refl _)) hm2 (hg.below (by go_grown) (Nat.le_refl _)) hm3).mono ?_
  rw [hB.out, hA.out, hT.out]
  rintro e w8 ⟨rfl, hb8⟩
  have B10 : Below w.heap.size w w8 := bcall (by go_grown) hb8 (by go_size)
  have s10 := B10.size
  skip
  obtain ⟨c0, c1, f0, f1, l1⟩ := X1.below hb8 X1.lt
  obtain ⟨d0, d1, g0, g1, m1⟩ := X2.below hb8 X2.lt
  obtain ⟨x0, x1, y0, y1, n1⟩ := X3.below hb8 X3.lt
  clear hb8 X1 X2 X3
  go_wp2_with fail
  go_ret
  exact ⟨ret_true (by simp), by go_grown⟩
theorem ThresholdMatchesSpec_00 (need : Int) (xs : List Int) (l : List UInt8) (sg : List (Int × Int)) (oa ob oc : Option Addr) (ca cb cc : Nat) (w : World) (hs : Sl w oa xs.length ca 1 (intVals xs)) (hm : xs.length ≤ 9223372036854775807)
    (hb : Sl w ob l.length cb 1 (byteVals l)) (hm2 : l.length ≤ 9223372036854775807) (hg : Sl w oc sg.length cc 2 (pairVals sg)) (hm3 : sg.length ≤ 9223372036854775807)
    (ht : (Pl.thrF xs need).1 ≠ 0) (hv : (Pl.sigF xs l.length sg).1 ≠ 0) :
    Calls Try.prog 8 #[.slice oa xs.length ca, .int .i64 need, .slice ob l.length cb, .slice oc sg.length cc] w fun e w' => e = .returned (.bool true) ∧ Below w.heap.size w w' := by
  have hA : Pl.accF xs need l.length sg = Pl.thrF xs need := by unfold Pl.accF; rw [if_neg ht]
  have hB : Pl.accB xs need l sg = false := by unfold Pl.accB; rw [hA]; simp [ht]
  have hS : Pl.signersV xs l sg = [] := by unfold Pl.signersV; rw [if_neg hv]
  replace hA := Lib.hid hA
  replace hB := Lib.hid hB
  replace hS := Lib.hid hS
  generalize hT : Pl.thrF xs need = T at ht
  generalize hV : Pl.sigF xs l.length sg = V at hv
  replace hT := Lib.hid hT
  replace hV := Lib.hid hV
  obtain ⟨ta, tb⟩ := T
  obtain ⟨va, vb⟩ := V
  have t1 : (ta == 0) = false := by simpa using ht
  have t2 : (ta != 0) = true := by simpa using ht
  have v1 : (va == 0) = false := by simpa using hv
  have v2 : (va != 0) = true := by simpa using hv
  clear ht hv
  go_enter Try.func8, Try.ntmps8
  go_wp2_with fail
  refine (ThresholdFault_any xs need oa ca _ hs hm).mono ?_
  rw [hT.out]
  rintro e w1 ⟨rfl, B1⟩
  have s1 := B1.size
  go_wp2_with fail
  refine wp_region_ord [0, 1, 2, 3, 4, 6, 5, 7, 8] (by kernel_rfl) (by kernel_rfl) ?_
  refine wpI_call (f := 26) (args := #[]) rfl rfl rfl (by simp [go_sem]) ?_
  refine (accepts_any _).mono ?_
  rintro e w2 ⟨rfl, hb2⟩
  refine ⟨_, rfl, hb2, ?_⟩
  have B2 : Below w.heap.size w w2 := bcall (by go_grown) hb2 (by go_size)
  have s2 := B2.size
  obtain ⟨c0, c1, f0, f1, l1⟩ := (Box2.new w1 (.int .i64 ta) (.int .i64 tb) 26).drew.below hb2 (by simp)
  try simp only [Act.put, List.setIfInBounds_toArray, List.set_cons_zero, List.set_cons_succ]
  repeat (refine wpI_rd rfl rfl ?_; go_big_quiet_step (fail); refine wpQuiet_nil ?_)
  refine wpI_call (f := 27) (args := #[.slice oa xs.length ca, .int .i64 need]) rfl rfl rfl (by simp [go_sem]) ?_
  refine (Validate_any xs need oa ca _ (hs.below B2 (Nat.le_refl _)) hm).mono ?_
  rw [hT.out]
  rintro e w3 ⟨rfl, hb3⟩
  refine ⟨_, rfl, hb3, ?_⟩
  have B3 : Below w.heap.size w w3 := bcall (by go_grown) hb3 (by go_size)
  have s3 := B3.size
  obtain ⟨c0, c1, f0, f1, l1⟩ := (Box2.mk c0 c1 f0 f1 l1).below hb3 l1
  try simp only [Act.put, List.setIfInBounds_toArray, List.set_cons_zero, List.set_cons_succ]
  repeat (refine wpI_rd rfl rfl ?_; go_big_quiet_step (fail); refine wpQuiet_nil ?_)
  refine wpI_nil ?_
  try simp only [Act.put, List.setIfInBounds_toArray, List.set_cons_zero, List.set_cons_succ]
  clear hb2 hb3
  go_wp2_with fail
  refine (SignersFault_any xs l.length sg oa ob oc ca cb cc _ (hs.below B3 (Nat.le_refl _)) hm hm2 (hg.below B3 (Nat.le_refl _)) hm3).mono ?_
  rw [hV.out]
  rintro e w4 ⟨rfl, hb4⟩
  have B4 : Below w.heap.size w w4 := bcall (by go_grown) hb4 (by go_size)
  have s4 := B4.size
  obtain ⟨c0, c1, f0, f1, l1⟩ := (Box2.mk c0 c1 f0 f1 l1).below hb4 l1
  have q4 : w1.heap.size ≠ w4.heap.size := by omega
  have q4' : w1.heap.size < w4.heap.size := by omega
  have B5 := B4.alloc s4 (.cells #[.int .i64 va, .int .i64 vb] 26)
  have s5 := B5.size
  clear hb4
  go_wp2_with fail
  refine (Signers_any xs l sg oa ob oc ca cb cc _ (hs.below B5 (Nat.le_refl _)) hm (hb.below B5 (Nat.le_refl _)) hm2 (hg.below B5 (Nat.le_refl _)) hm3).mono ?_
  rintro e w5 ⟨o5, k5, rfl, hown, hb5⟩
  rw [hV.out, hS.out]
  rw [hS.out] at hown
  have B6 : Below w.heap.size w w5 := bcall (by go_grown) hb5 (by go_size)
  have s6 := B6.size
  have z5 := hb5.size
  obtain ⟨c0, c1, f0, f1, l1⟩ := ((Box2.mk c0 c1 f0 f1 l1).alloc (.cells #[.int .i64 va, .int .i64 vb] 26)).below hb5 (by simp; omega)
  obtain ⟨d0, d1, g0, g1, m1⟩ := (Box2.new w4 (.int .i64 va) (.int .i64 vb) 26).below hb5 (by simp)
  have q5 : w4.heap.size < w5.heap.size := by simp at z5; omega
  have sl5 := Sl.own hown
  clear hown hb5
  have B7 := B6.alloc s6 (.cells #[.int .i64 va, .int .i64 vb] 26)
  have s7 := B7.size
  go_wp2_with fail

  have X1 := Box2.mk c0 c1 f0 f1 l1
  have X2 := (Box2.mk d0 d1 g0 g1 m1).alloc (.cells #[.int .i64 va, .int .i64 vb] 26)
  have X3 := Box2.new w5 (.int .i64 va) (.int .i64 vb) 26
  have X1 := X1.alloc (.cells #[.int .i64 va, .int .i64 vb] 26)
  have B9 := B7
  have q6 : w1.heap.size < w5.heap.size := by omega
  refine (Accept_any xs need l sg oa ob oc ca cb cc _ (hs.below (by go_grown) (Nat.le_refl _)) hm (hb.below (by go_grown) (Nat.le_refl _)) hm2 (hg.below (by go_grown) (Nat.le_refl _)) hm3).mono ?_
  rw [hB.out, hA.out, hT.out]
  rintro e w8 ⟨rfl, hb8⟩
  have B10 : Below w.heap.size w w8 := bcall (by go_grown) hb8 (by go_size)
  have s10 := B10.size
  skip
  obtain ⟨c0, c1, f0, f1, l1⟩ := X1.below hb8 X1.lt
  obtain ⟨d0, d1, g0, g1, m1⟩ := X2.below hb8 X2.lt
  obtain ⟨x0, x1, y0, y1, n1⟩ := X3.below hb8 X3.lt
  clear hb8 X1 X2 X3
  go_wp2_with fail
  go_ret
  exact ⟨ret_true (by simp), by go_grown⟩
theorem ThresholdMatchesSpec_main (need : Int) (xs : List Int) (l : List UInt8) (sg : List (Int × Int)) (oa ob oc : Option Addr) (ca cb cc : Nat) (w : World) (hs : Sl w oa xs.length ca 1 (intVals xs)) (hm : xs.length ≤ 9223372036854775807)
    (hb : Sl w ob l.length cb 1 (byteVals l)) (hm2 : l.length ≤ 9223372036854775807) (hg : Sl w oc sg.length cc 2 (pairVals sg)) (hm3 : sg.length ≤ 9223372036854775807) :
    Calls Try.prog 8 #[.slice oa xs.length ca, .int .i64 need, .slice ob l.length cb, .slice oc sg.length cc] w fun e w' => e = .returned (.bool true) ∧ Below w.heap.size w w' := by
  by_cases ht : (Pl.thrF xs need).1 = 0 <;> by_cases hv : (Pl.sigF xs l.length sg).1 = 0
  · exact ThresholdMatchesSpec_11 need xs l sg oa ob oc ca cb cc w hs hm hb hm2 hg hm3 ht hv
  · exact ThresholdMatchesSpec_10 need xs l sg oa ob oc ca cb cc w hs hm hb hm2 hg hm3 ht hv
  · exact ThresholdMatchesSpec_01 need xs l sg oa ob oc ca cb cc w hs hm hb hm2 hg hm3 ht hv
  · exact ThresholdMatchesSpec_00 need xs l sg oa ob oc ca cb cc w hs hm hb hm2 hg hm3 ht hv
end Go.Proofs.Ytbbjniahaogdnaa
