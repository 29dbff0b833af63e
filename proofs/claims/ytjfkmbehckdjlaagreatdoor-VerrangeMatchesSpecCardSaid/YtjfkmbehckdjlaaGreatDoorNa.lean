/- The law VerrangeMatchesSpec: its walk. -/
import Derived.Test.YtjfkmbehckdjlaaGreatDoorEv
import Derived.Test.YtjfkmbehckdjlaaGreatDoorEc
import Derived.Test.YtjfkmbehckdjlaaGreatDoorMEd
namespace Go.Proofs.YtjfkmbehckdjlaaGreatDoor
open Go.RowKit

set_option maxRecDepth 100000 in
set_option maxHeartbeats 8000000 in
theorem vms_a (r : List Pl.Ivl) (v : Pl.Ver) (a p : Option Addr) (c q : Nat) (w : World) (h : RIn w r a c) (h3 : VIn w v p q) (EN : Env w) (f1 f2 : Int) (er : Pl.rngF r = (f1, f2)) (hf : f1 ≠ 0) : Calls Tryz.prog 3 #[.agg #[.slice a r.length c], verV v p q] w fun e w' => e = .returned (.bool true) ∧ Below w.heap.size w w' := by
  have HE := Lib.hid EN
  have H := Lib.hid h
  have K := Lib.hid h3
  have CF := Lib.hid (fun (W : World) (g : RIn W r a c) => RangeFault_any r a c W g)
  have CV := Lib.hid (fun (W : World) (g : RIn W r a c) => rngValidate_any r a c W g)
  have CC := Lib.hid (fun (W : World) (g : RIn W r a c) (g2 : VIn W v p q) => Contains_any r v a p c q W g g2)
  have CG := Lib.hid (fun (W : World) (g : VIn W v p q) => VersionFault_any v p q W g)
  rw [show Pl.conB r v = false from by unfold Pl.conB; rw [show Pl.conF r v = (f1, f2) from (by unfold Pl.conF; rw [er, if_pos hf])]; exact if_pos hf, show Pl.conF r v = (f1, f2) from (by unfold Pl.conF; rw [er, if_pos hf])] at CC
  rw [er] at CF CV
  simp only [fltV] at CF CV CC CG
  clear h h3 EN er
  have u1 : (f1 == 0) = false := beqF hf
  have u2 : (f1 != 0) = true := bneT hf
  clear hf
  go_enter Tryz.func3, Tryz.ntmps3
  have B0 : Below w.heap.size w w := Below.refl _ _
  go_wp2_with fail
  refine (CF.out _ (((H.out.below (Below.refl _ _ |>.alloc (Nat.le_refl _) _) (Nat.le_refl _)).below (Below.refl _ _ |>.alloc (Nat.le_refl _) _) (Nat.le_refl _)))).mono ?_
  rintro e w1 ⟨rfl, hb⟩
  have B1 : Below w.heap.size w w1 := bcall (by go_grown) hb (by go_size)
  have q1 : w.heap.size + 2 ≤ w1.heap.size := by have z := hb.size; (try simp only [World.size_alloc] at z); omega
  replace H := Lib.hid (((H.out.below (Below.refl _ _ |>.alloc (Nat.le_refl _) _) (Nat.le_refl _)).below (Below.refl _ _ |>.alloc (Nat.le_refl _) _) (Nat.le_refl _)).below hb (Nat.le_refl _))
  replace K := Lib.hid (((K.out.below (Below.refl _ _ |>.alloc (Nat.le_refl _) _) (Nat.le_refl _)).below (Below.refl _ _ |>.alloc (Nat.le_refl _) _) (Nat.le_refl _)).below hb (Nat.le_refl _))
  have X := (((Bk.new (r := w.heap.size) (cs := [.slice a r.length c]) _ 24 (by simp)).alloc _)).below hb (by go_size)
  have Y := ((Bk.new (r := w.heap.size + 1) (cs := [.int .i64 v.maj, .int .i64 v.min, .int .i64 v.pat, .slice p v.pre.length q]) _ 27 (by simp))).below hb (by go_size)
  clear hb
  have s1 : w.heap.size ≤ w1.heap.size := B1.size
  obtain ⟨X_c, X_f, X_l⟩ := id X
  obtain ⟨Y_c, Y_f, Y_l⟩ := id Y
  go_wp2_with fail
  have B2 : Below w.heap.size w (w1.alloc (.cells #[.int .i64 f1, .int .i64 f2] 29)) := by go_grown
  have q2 : w1.heap.size + 1 ≤ (w1.alloc (.cells #[.int .i64 f1, .int .i64 f2] 29)).heap.size := by simp only [World.size_alloc]; omega
  replace H := Lib.hid (H.out.below (Below.refl _ _ |>.alloc (Nat.le_refl _) (.cells #[.int .i64 f1, .int .i64 f2] 29)) (Nat.le_refl _))
  replace K := Lib.hid (K.out.below (Below.refl _ _ |>.alloc (Nat.le_refl _) (.cells #[.int .i64 f1, .int .i64 f2] 29)) (Nat.le_refl _))
  replace X := (X.alloc (.cells #[.int .i64 f1, .int .i64 f2] 29))
  replace Y := (Y.alloc (.cells #[.int .i64 f1, .int .i64 f2] 29))
  have F := (Bk.new (r := w1.heap.size) (cs := [.int .i64 f1, .int .i64 f2]) w1 29 (by simp))
  clear X_c X_f X_l Y_c Y_f Y_l
  generalize (w1.alloc (.cells #[.int .i64 f1, .int .i64 f2] 29)) = w2 at *
  have s2 : w.heap.size ≤ w2.heap.size := B2.size
  obtain ⟨X_c, X_f, X_l⟩ := id X
  obtain ⟨Y_c, Y_f, Y_l⟩ := id Y
  obtain ⟨F_c, F_f, F_l⟩ := id F
  refine wp_region_ord [0, 1, 2, 3, 5, 4, 6, 7] (by kernel_rfl) (by kernel_rfl) ?_
  have B3 : Below w.heap.size w w2.drew := by go_grown
  have q3 : w2.heap.size + 0 ≤ w2.drew.heap.size := by simp only [World.size_drew]; omega
  replace H := Lib.hid (H.out.below (Below.refl _ _).drew (Nat.le_refl _))
  replace K := Lib.hid (K.out.below (Below.refl _ _).drew (Nat.le_refl _))
  replace X := X.drew
  replace Y := Y.drew
  replace F := F.drew
  clear X_c X_f X_l Y_c Y_f Y_l F_c F_f F_l
  generalize w2.drew = w3 at *
  have s3 : w.heap.size ≤ w3.heap.size := B3.size
  obtain ⟨X_c, X_f, X_l⟩ := id X
  obtain ⟨Y_c, Y_f, Y_l⟩ := id Y
  obtain ⟨F_c, F_f, F_l⟩ := id F
  repeat (first | (refine wpI_rd rfl rfl ?_; go_big_quiet_step (fail); refine wpQuiet_nil ?_) | (refine wpI_skip rfl rfl ?_; try simp only [Act.put, List.setIfInBounds_toArray, List.set_cons_zero, List.set_cons_succ]))
  try simp only [Act.put, List.setIfInBounds_toArray, List.set_cons_zero, List.set_cons_succ]
  refine wpI_call (f := 12) rfl rfl rfl (by simp [go_sem]; rfl) ?_
  refine (ranges_any _ (HE.out.below B3 (Nat.le_refl _))).mono ?_
  rintro e w4 ⟨rfl, hb⟩
  refine ⟨_, rfl, hb, ?_⟩
  skip
  have B4 : Below w.heap.size w w4 := bcall (by go_grown) hb (by go_size)
  have q4 : w3.heap.size + 0 ≤ w4.heap.size := by have z := hb.size; (try simp only [World.size_alloc, World.size_setCell, World.size_drew] at z); omega
  replace H := Lib.hid (H.out.below hb (Nat.le_refl _))
  replace K := Lib.hid (K.out.below hb (Nat.le_refl _))
  replace X := (X).below hb (by go_size)
  replace Y := (Y).below hb (by go_size)
  replace F := (F).below hb (by go_size)
  clear hb
  have s4 : w.heap.size ≤ w4.heap.size := B4.size
  clear X_c X_f X_l Y_c Y_f Y_l F_c F_f F_l
  obtain ⟨X_c, X_f, X_l⟩ := id X
  obtain ⟨Y_c, Y_f, Y_l⟩ := id Y
  obtain ⟨F_c, F_f, F_l⟩ := id F
  try simp only [Act.put, List.setIfInBounds_toArray, List.set_cons_zero, List.set_cons_succ]
  repeat (first | (refine wpI_rd rfl rfl ?_; go_big_quiet_step (fail); refine wpQuiet_nil ?_) | (refine wpI_skip rfl rfl ?_; try simp only [Act.put, List.setIfInBounds_toArray, List.set_cons_zero, List.set_cons_succ]))
  try simp only [Act.put, List.setIfInBounds_toArray, List.set_cons_zero, List.set_cons_succ]
  refine wpI_call (f := 13) rfl rfl rfl (by simp [go_sem]; rfl) ?_
  refine (CV.out _ H.out).mono ?_
  rintro e w5 ⟨rfl, hb⟩
  refine ⟨_, rfl, hb, ?_⟩
  skip
  have B5 : Below w.heap.size w w5 := bcall (by go_grown) hb (by go_size)
  have q5 : w4.heap.size + 0 ≤ w5.heap.size := by have z := hb.size; (try simp only [World.size_alloc, World.size_setCell, World.size_drew] at z); omega
  replace H := Lib.hid (H.out.below hb (Nat.le_refl _))
  replace K := Lib.hid (K.out.below hb (Nat.le_refl _))
  replace X := (X).below hb (by go_size)
  replace Y := (Y).below hb (by go_size)
  replace F := (F).below hb (by go_size)
  clear hb
  have s5 : w.heap.size ≤ w5.heap.size := B5.size
  clear X_c X_f X_l Y_c Y_f Y_l F_c F_f F_l
  obtain ⟨X_c, X_f, X_l⟩ := id X
  obtain ⟨Y_c, Y_f, Y_l⟩ := id Y
  obtain ⟨F_c, F_f, F_l⟩ := id F
  try simp only [Act.put, List.setIfInBounds_toArray, List.set_cons_zero, List.set_cons_succ]
  repeat (first | (refine wpI_rd rfl rfl ?_; go_big_quiet_step (fail); refine wpQuiet_nil ?_) | (refine wpI_skip rfl rfl ?_; try simp only [Act.put, List.setIfInBounds_toArray, List.set_cons_zero, List.set_cons_succ]))
  try simp only [Act.put, List.setIfInBounds_toArray, List.set_cons_zero, List.set_cons_succ]
  refine wpI_nil ?_
  try simp only [Act.put, List.setIfInBounds_toArray, List.set_cons_zero, List.set_cons_succ]
  clear CF CV
  go_wp2_with fail
  refine (CC.out _ (H.out) (K.out)).mono ?_
  rintro e w6 ⟨rfl, hb⟩
  have B6 : Below w.heap.size w w6 := bcall (by go_grown) hb (by go_size)
  have q6 : w5.heap.size + 0 ≤ w6.heap.size := by have z := hb.size; (try simp only [World.size_alloc, World.size_setCell, World.size_drew] at z); omega
  replace H := Lib.hid (H.out.below hb (Nat.le_refl _))
  replace K := Lib.hid (K.out.below hb (Nat.le_refl _))
  replace X := (X).below hb (by go_size)
  replace Y := (Y).below hb (by go_size)
  replace F := (F).below hb (by go_size)
  clear hb
  have s6 : w.heap.size ≤ w6.heap.size := B6.size
  clear X_c X_f X_l Y_c Y_f Y_l F_c F_f F_l
  obtain ⟨X_c, X_f, X_l⟩ := id X
  obtain ⟨Y_c, Y_f, Y_l⟩ := id Y
  obtain ⟨F_c, F_f, F_l⟩ := id F
  clear CC
  go_wp2_with fail
  go_ret
  exact ⟨by simp, by go_grown⟩
set_option maxRecDepth 100000 in
set_option maxHeartbeats 8000000 in
theorem vms_b (r : List Pl.Ivl) (v : Pl.Ver) (a p : Option Addr) (c q : Nat) (w : World) (h : RIn w r a c) (h3 : VIn w v p q) (EN : Env w) (er : Pl.rngF r = (0, 0)) (f1 f2 : Int) (ev : Pl.vrF v = (f1, f2)) (hf : f1 ≠ 0) : Calls Tryz.prog 3 #[.agg #[.slice a r.length c], verV v p q] w fun e w' => e = .returned (.bool true) ∧ Below w.heap.size w w' := by
  have HE := Lib.hid EN
  have H := Lib.hid h
  have K := Lib.hid h3
  have CF := Lib.hid (fun (W : World) (g : RIn W r a c) => RangeFault_any r a c W g)
  have CV := Lib.hid (fun (W : World) (g : RIn W r a c) => rngValidate_any r a c W g)
  have CC := Lib.hid (fun (W : World) (g : RIn W r a c) (g2 : VIn W v p q) => Contains_any r v a p c q W g g2)
  have CG := Lib.hid (fun (W : World) (g : VIn W v p q) => VersionFault_any v p q W g)
  rw [show Pl.conB r v = false from by unfold Pl.conB; rw [show Pl.conF r v = (f1, -2) from (by unfold Pl.conF; rw [er, ev, if_neg (fun h => h rfl), if_pos hf])]; exact if_pos hf, show Pl.conF r v = (f1, -2) from (by unfold Pl.conF; rw [er, ev, if_neg (fun h => h rfl), if_pos hf])] at CC
  rw [er] at CF CV
  rw [ev] at CG
  simp only [fltV] at CF CV CC CG
  clear h h3 EN er ev
  have u1 : (f1 == 0) = false := beqF hf
  have u2 : (f1 != 0) = true := bneT hf
  clear hf
  go_enter Tryz.func3, Tryz.ntmps3
  have B0 : Below w.heap.size w w := Below.refl _ _
  go_wp2_with fail
  refine (CF.out _ (((H.out.below (Below.refl _ _ |>.alloc (Nat.le_refl _) _) (Nat.le_refl _)).below (Below.refl _ _ |>.alloc (Nat.le_refl _) _) (Nat.le_refl _)))).mono ?_
  rintro e w1 ⟨rfl, hb⟩
  have B1 : Below w.heap.size w w1 := bcall (by go_grown) hb (by go_size)
  have q1 : w.heap.size + 2 ≤ w1.heap.size := by have z := hb.size; (try simp only [World.size_alloc] at z); omega
  replace H := Lib.hid (((H.out.below (Below.refl _ _ |>.alloc (Nat.le_refl _) _) (Nat.le_refl _)).below (Below.refl _ _ |>.alloc (Nat.le_refl _) _) (Nat.le_refl _)).below hb (Nat.le_refl _))
  replace K := Lib.hid (((K.out.below (Below.refl _ _ |>.alloc (Nat.le_refl _) _) (Nat.le_refl _)).below (Below.refl _ _ |>.alloc (Nat.le_refl _) _) (Nat.le_refl _)).below hb (Nat.le_refl _))
  have X := (((Bk.new (r := w.heap.size) (cs := [.slice a r.length c]) _ 24 (by simp)).alloc _)).below hb (by go_size)
  have Y := ((Bk.new (r := w.heap.size + 1) (cs := [.int .i64 v.maj, .int .i64 v.min, .int .i64 v.pat, .slice p v.pre.length q]) _ 27 (by simp))).below hb (by go_size)
  clear hb
  have s1 : w.heap.size ≤ w1.heap.size := B1.size
  obtain ⟨X_c, X_f, X_l⟩ := id X
  obtain ⟨Y_c, Y_f, Y_l⟩ := id Y
  go_wp2_with fail
  have B2 : Below w.heap.size w (w1.alloc (.cells #[.int .i64 0, .int .i64 0] 29)) := by go_grown
  have q2 : w1.heap.size + 1 ≤ (w1.alloc (.cells #[.int .i64 0, .int .i64 0] 29)).heap.size := by simp only [World.size_alloc]; omega
  replace H := Lib.hid (H.out.below (Below.refl _ _ |>.alloc (Nat.le_refl _) (.cells #[.int .i64 0, .int .i64 0] 29)) (Nat.le_refl _))
  replace K := Lib.hid (K.out.below (Below.refl _ _ |>.alloc (Nat.le_refl _) (.cells #[.int .i64 0, .int .i64 0] 29)) (Nat.le_refl _))
  replace X := (X.alloc (.cells #[.int .i64 0, .int .i64 0] 29))
  replace Y := (Y.alloc (.cells #[.int .i64 0, .int .i64 0] 29))
  have F := (Bk.new (r := w1.heap.size) (cs := [.int .i64 0, .int .i64 0]) w1 29 (by simp))
  clear X_c X_f X_l Y_c Y_f Y_l
  generalize (w1.alloc (.cells #[.int .i64 0, .int .i64 0] 29)) = w2 at *
  have s2 : w.heap.size ≤ w2.heap.size := B2.size
  obtain ⟨X_c, X_f, X_l⟩ := id X
  obtain ⟨Y_c, Y_f, Y_l⟩ := id Y
  obtain ⟨F_c, F_f, F_l⟩ := id F
  refine wp_region_ord [0, 1, 2, 3, 5, 4, 6, 7] (by kernel_rfl) (by kernel_rfl) ?_
  have B3 : Below w.heap.size w w2.drew := by go_grown
  have q3 : w2.heap.size + 0 ≤ w2.drew.heap.size := by simp only [World.size_drew]; omega
  replace H := Lib.hid (H.out.below (Below.refl _ _).drew (Nat.le_refl _))
  replace K := Lib.hid (K.out.below (Below.refl _ _).drew (Nat.le_refl _))
  replace X := X.drew
  replace Y := Y.drew
  replace F := F.drew
  clear X_c X_f X_l Y_c Y_f Y_l F_c F_f F_l
  generalize w2.drew = w3 at *
  have s3 : w.heap.size ≤ w3.heap.size := B3.size
  obtain ⟨X_c, X_f, X_l⟩ := id X
  obtain ⟨Y_c, Y_f, Y_l⟩ := id Y
  obtain ⟨F_c, F_f, F_l⟩ := id F
  repeat (first | (refine wpI_rd rfl rfl ?_; go_big_quiet_step (fail); refine wpQuiet_nil ?_) | (refine wpI_skip rfl rfl ?_; try simp only [Act.put, List.setIfInBounds_toArray, List.set_cons_zero, List.set_cons_succ]))
  try simp only [Act.put, List.setIfInBounds_toArray, List.set_cons_zero, List.set_cons_succ]
  refine wpI_call (f := 12) rfl rfl rfl (by simp [go_sem]; rfl) ?_
  refine (ranges_any _ (HE.out.below B3 (Nat.le_refl _))).mono ?_
  rintro e w4 ⟨rfl, hb⟩
  refine ⟨_, rfl, hb, ?_⟩
  skip
  have B4 : Below w.heap.size w w4 := bcall (by go_grown) hb (by go_size)
  have q4 : w3.heap.size + 0 ≤ w4.heap.size := by have z := hb.size; (try simp only [World.size_alloc, World.size_setCell, World.size_drew] at z); omega
  replace H := Lib.hid (H.out.below hb (Nat.le_refl _))
  replace K := Lib.hid (K.out.below hb (Nat.le_refl _))
  replace X := (X).below hb (by go_size)
  replace Y := (Y).below hb (by go_size)
  replace F := (F).below hb (by go_size)
  clear hb
  have s4 : w.heap.size ≤ w4.heap.size := B4.size
  clear X_c X_f X_l Y_c Y_f Y_l F_c F_f F_l
  obtain ⟨X_c, X_f, X_l⟩ := id X
  obtain ⟨Y_c, Y_f, Y_l⟩ := id Y
  obtain ⟨F_c, F_f, F_l⟩ := id F
  try simp only [Act.put, List.setIfInBounds_toArray, List.set_cons_zero, List.set_cons_succ]
  repeat (first | (refine wpI_rd rfl rfl ?_; go_big_quiet_step (fail); refine wpQuiet_nil ?_) | (refine wpI_skip rfl rfl ?_; try simp only [Act.put, List.setIfInBounds_toArray, List.set_cons_zero, List.set_cons_succ]))
  try simp only [Act.put, List.setIfInBounds_toArray, List.set_cons_zero, List.set_cons_succ]
  refine wpI_call (f := 13) rfl rfl rfl (by simp [go_sem]; rfl) ?_
  refine (CV.out _ H.out).mono ?_
  rintro e w5 ⟨rfl, hb⟩
  refine ⟨_, rfl, hb, ?_⟩
  skip
  have B5 : Below w.heap.size w w5 := bcall (by go_grown) hb (by go_size)
  have q5 : w4.heap.size + 0 ≤ w5.heap.size := by have z := hb.size; (try simp only [World.size_alloc, World.size_setCell, World.size_drew] at z); omega
  replace H := Lib.hid (H.out.below hb (Nat.le_refl _))
  replace K := Lib.hid (K.out.below hb (Nat.le_refl _))
  replace X := (X).below hb (by go_size)
  replace Y := (Y).below hb (by go_size)
  replace F := (F).below hb (by go_size)
  clear hb
  have s5 : w.heap.size ≤ w5.heap.size := B5.size
  clear X_c X_f X_l Y_c Y_f Y_l F_c F_f F_l
  obtain ⟨X_c, X_f, X_l⟩ := id X
  obtain ⟨Y_c, Y_f, Y_l⟩ := id Y
  obtain ⟨F_c, F_f, F_l⟩ := id F
  try simp only [Act.put, List.setIfInBounds_toArray, List.set_cons_zero, List.set_cons_succ]
  repeat (first | (refine wpI_rd rfl rfl ?_; go_big_quiet_step (fail); refine wpQuiet_nil ?_) | (refine wpI_skip rfl rfl ?_; try simp only [Act.put, List.setIfInBounds_toArray, List.set_cons_zero, List.set_cons_succ]))
  try simp only [Act.put, List.setIfInBounds_toArray, List.set_cons_zero, List.set_cons_succ]
  refine wpI_nil ?_
  try simp only [Act.put, List.setIfInBounds_toArray, List.set_cons_zero, List.set_cons_succ]
  clear CF CV
  go_wp2_with fail
  refine (CG.out _ K.out).mono ?_
  rintro e w6 ⟨rfl, hb⟩
  have B6 : Below w.heap.size w w6 := bcall (by go_grown) hb (by go_size)
  have q6 : w5.heap.size + 0 ≤ w6.heap.size := by have z := hb.size; (try simp only [World.size_alloc, World.size_setCell, World.size_drew] at z); omega
  replace H := Lib.hid (H.out.below hb (Nat.le_refl _))
  replace K := Lib.hid (K.out.below hb (Nat.le_refl _))
  replace X := (X).below hb (by go_size)
  replace Y := (Y).below hb (by go_size)
  replace F := (F).below hb (by go_size)
  clear hb
  have s6 : w.heap.size ≤ w6.heap.size := B6.size
  clear X_c X_f X_l Y_c Y_f Y_l F_c F_f F_l
  obtain ⟨X_c, X_f, X_l⟩ := id X
  obtain ⟨Y_c, Y_f, Y_l⟩ := id Y
  obtain ⟨F_c, F_f, F_l⟩ := id F
  go_wp2_with (go_at_call 15; refine (lfault_at _ _ _).mono ?_; rintro e w' ⟨rfl, rfl⟩)
  refine (CG.out _ K.out).mono ?_
  rintro e w7 ⟨rfl, hb⟩
  have B7 : Below w.heap.size w w7 := bcall (by go_grown) hb (by go_size)
  have q7 : w6.heap.size + 0 ≤ w7.heap.size := by have z := hb.size; (try simp only [World.size_alloc, World.size_setCell, World.size_drew] at z); omega
  replace H := Lib.hid (H.out.below hb (Nat.le_refl _))
  replace K := Lib.hid (K.out.below hb (Nat.le_refl _))
  replace X := (X).below hb (by go_size)
  replace Y := (Y).below hb (by go_size)
  replace F := (F).below hb (by go_size)
  clear hb
  have s7 : w.heap.size ≤ w7.heap.size := B7.size
  clear X_c X_f X_l Y_c Y_f Y_l F_c F_f F_l
  obtain ⟨X_c, X_f, X_l⟩ := id X
  obtain ⟨Y_c, Y_f, Y_l⟩ := id Y
  obtain ⟨F_c, F_f, F_l⟩ := id F
  go_wp2_with (go_at_call 15; refine (lfault_at _ _ _).mono ?_; rintro e w' ⟨rfl, rfl⟩)
  refine (CC.out _ ((((H.out.setBk F (by simp) (j := 0) rfl (fun _ h => by cases h) (.int .i64 f1)).setBk (F.set (k := 0) (by simp) (.int .i64 f1)) (by simp) (j := 1) rfl (fun _ h => by cases h) (.int .i64 (-2))).below (Below.refl _ _ |>.alloc (Nat.le_refl _) (.cells #[.int .i64 f1, .int .i64 (-2)] 29)) (Nat.le_refl _))) ((((K.out.setNS (F.c 0) (fun _ h => by cases h) (.int .i64 f1)).setNS ((F.set (k := 0) (by simp) (.int .i64 f1)).c 1) (fun _ h => by cases h) (.int .i64 (-2))).below (Below.refl _ _ |>.alloc (Nat.le_refl _) (.cells #[.int .i64 f1, .int .i64 (-2)] 29)) (Nat.le_refl _)))).mono ?_
  rintro e w8 ⟨rfl, hb⟩
  have B8 : Below w.heap.size w w8 := bcall (by go_grown) hb (by go_size)
  have q8 : w7.heap.size + 1 ≤ w8.heap.size := by have z := hb.size; (try simp only [World.size_alloc, World.size_setCell] at z); omega
  replace H := Lib.hid ((((H.out.setBk F (by simp) (j := 0) rfl (fun _ h => by cases h) (.int .i64 f1)).setBk (F.set (k := 0) (by simp) (.int .i64 f1)) (by simp) (j := 1) rfl (fun _ h => by cases h) (.int .i64 (-2))).below (Below.refl _ _ |>.alloc (Nat.le_refl _) _) (Nat.le_refl _)).below hb (Nat.le_refl _))
  replace K := Lib.hid ((((K.out.setNS (F.c 0) (fun _ h => by cases h) (.int .i64 f1)).setNS ((F.set (k := 0) (by simp) (.int .i64 f1)).c 1) (fun _ h => by cases h) (.int .i64 (-2))).below (Below.refl _ _ |>.alloc (Nat.le_refl _) _) (Nat.le_refl _)).below hb (Nat.le_refl _))
  replace X := ((((X.far (a := ⟨w1.heap.size, 0, none⟩) (by dsimp only; omega) (.int .i64 f1)).far (a := ⟨w1.heap.size, 1, none⟩) (by dsimp only; omega) (.int .i64 (-2))).alloc _)).below hb (by go_size)
  replace Y := ((((Y.far (a := ⟨w1.heap.size, 0, none⟩) (by dsimp only; omega) (.int .i64 f1)).far (a := ⟨w1.heap.size, 1, none⟩) (by dsimp only; omega) (.int .i64 (-2))).alloc _)).below hb (by go_size)
  replace F := ((((F.set (k := 0) (by simp) (.int .i64 f1)).set (k := 1) (by simp) (.int .i64 (-2))).alloc _)).below hb (by go_size)
  clear hb
  have s8 : w.heap.size ≤ w8.heap.size := B8.size
  clear X_c X_f X_l Y_c Y_f Y_l F_c F_f F_l
  obtain ⟨X_c, X_f, X_l⟩ := id X
  obtain ⟨Y_c, Y_f, Y_l⟩ := id Y
  obtain ⟨F_c, F_f, F_l⟩ := id F
  clear CC
  go_wp2_with fail
  go_ret
  exact ⟨by simp, by go_grown⟩
set_option maxRecDepth 100000 in
set_option maxHeartbeats 8000000 in
theorem vms_c (r : List Pl.Ivl) (v : Pl.Ver) (a p : Option Addr) (c q : Nat) (w : World) (h : RIn w r a c) (h3 : VIn w v p q) (EN : Env w) (er : Pl.rngF r = (0, 0)) (ev : Pl.vrF v = (0, 0)) : Calls Tryz.prog 3 #[.agg #[.slice a r.length c], verV v p q] w fun e w' => e = .returned (.bool true) ∧ Below w.heap.size w w' := by
  have HE := Lib.hid EN
  have H := Lib.hid h
  have K := Lib.hid h3
  have CF := Lib.hid (fun (W : World) (g : RIn W r a c) => RangeFault_any r a c W g)
  have CV := Lib.hid (fun (W : World) (g : RIn W r a c) => rngValidate_any r a c W g)
  have CC := Lib.hid (fun (W : World) (g : RIn W r a c) (g2 : VIn W v p q) => Contains_any r v a p c q W g g2)
  have CG := Lib.hid (fun (W : World) (g : VIn W v p q) => VersionFault_any v p q W g)
  rw [show Pl.conB r v = Pl.hasB r v from by unfold Pl.conB; rw [show Pl.conF r v = (0, 0) from (by unfold Pl.conF; rw [er, ev, if_neg (fun h => h rfl), if_neg (fun h => h rfl)])]; exact if_neg (fun h => h rfl), show Pl.conF r v = (0, 0) from (by unfold Pl.conF; rw [er, ev, if_neg (fun h => h rfl), if_neg (fun h => h rfl)])] at CC
  rw [er] at CF CV
  rw [ev] at CG
  simp only [fltV] at CF CV CC CG
  have CH := Lib.hid (fun (W : World) (g : RIn W r a c) (g2 : VIn W v p q) => RangeHas_any r v a p c q W g g2 (Pl.rng_ok (by rw [er])).2.ok (Pl.vr_ok (by rw [ev])))
  obtain ⟨hb_, hhb⟩ : ∃ b, Pl.hasB r v = b := ⟨_, rfl⟩
  rw [hhb] at CC CH
  clear hhb
  clear h h3 EN er ev
  go_enter Tryz.func3, Tryz.ntmps3
  have B0 : Below w.heap.size w w := Below.refl _ _
  go_wp2_with fail
  refine (CF.out _ (((H.out.below (Below.refl _ _ |>.alloc (Nat.le_refl _) _) (Nat.le_refl _)).below (Below.refl _ _ |>.alloc (Nat.le_refl _) _) (Nat.le_refl _)))).mono ?_
  rintro e w1 ⟨rfl, hb⟩
  have B1 : Below w.heap.size w w1 := bcall (by go_grown) hb (by go_size)
  have q1 : w.heap.size + 2 ≤ w1.heap.size := by have z := hb.size; (try simp only [World.size_alloc] at z); omega
  replace H := Lib.hid (((H.out.below (Below.refl _ _ |>.alloc (Nat.le_refl _) _) (Nat.le_refl _)).below (Below.refl _ _ |>.alloc (Nat.le_refl _) _) (Nat.le_refl _)).below hb (Nat.le_refl _))
  replace K := Lib.hid (((K.out.below (Below.refl _ _ |>.alloc (Nat.le_refl _) _) (Nat.le_refl _)).below (Below.refl _ _ |>.alloc (Nat.le_refl _) _) (Nat.le_refl _)).below hb (Nat.le_refl _))
  have X := (((Bk.new (r := w.heap.size) (cs := [.slice a r.length c]) _ 24 (by simp)).alloc _)).below hb (by go_size)
  have Y := ((Bk.new (r := w.heap.size + 1) (cs := [.int .i64 v.maj, .int .i64 v.min, .int .i64 v.pat, .slice p v.pre.length q]) _ 27 (by simp))).below hb (by go_size)
  clear hb
  have s1 : w.heap.size ≤ w1.heap.size := B1.size
  obtain ⟨X_c, X_f, X_l⟩ := id X
  obtain ⟨Y_c, Y_f, Y_l⟩ := id Y
  go_wp2_with fail
  have B2 : Below w.heap.size w (w1.alloc (.cells #[.int .i64 0, .int .i64 0] 29)) := by go_grown
  have q2 : w1.heap.size + 1 ≤ (w1.alloc (.cells #[.int .i64 0, .int .i64 0] 29)).heap.size := by simp only [World.size_alloc]; omega
  replace H := Lib.hid (H.out.below (Below.refl _ _ |>.alloc (Nat.le_refl _) (.cells #[.int .i64 0, .int .i64 0] 29)) (Nat.le_refl _))
  replace K := Lib.hid (K.out.below (Below.refl _ _ |>.alloc (Nat.le_refl _) (.cells #[.int .i64 0, .int .i64 0] 29)) (Nat.le_refl _))
  replace X := (X.alloc (.cells #[.int .i64 0, .int .i64 0] 29))
  replace Y := (Y.alloc (.cells #[.int .i64 0, .int .i64 0] 29))
  have F := (Bk.new (r := w1.heap.size) (cs := [.int .i64 0, .int .i64 0]) w1 29 (by simp))
  clear X_c X_f X_l Y_c Y_f Y_l
  generalize (w1.alloc (.cells #[.int .i64 0, .int .i64 0] 29)) = w2 at *
  have s2 : w.heap.size ≤ w2.heap.size := B2.size
  obtain ⟨X_c, X_f, X_l⟩ := id X
  obtain ⟨Y_c, Y_f, Y_l⟩ := id Y
  obtain ⟨F_c, F_f, F_l⟩ := id F
  refine wp_region_ord [0, 1, 2, 3, 5, 4, 6, 7] (by kernel_rfl) (by kernel_rfl) ?_
  have B3 : Below w.heap.size w w2.drew := by go_grown
  have q3 : w2.heap.size + 0 ≤ w2.drew.heap.size := by simp only [World.size_drew]; omega
  replace H := Lib.hid (H.out.below (Below.refl _ _).drew (Nat.le_refl _))
  replace K := Lib.hid (K.out.below (Below.refl _ _).drew (Nat.le_refl _))
  replace X := X.drew
  replace Y := Y.drew
  replace F := F.drew
  clear X_c X_f X_l Y_c Y_f Y_l F_c F_f F_l
  generalize w2.drew = w3 at *
  have s3 : w.heap.size ≤ w3.heap.size := B3.size
  obtain ⟨X_c, X_f, X_l⟩ := id X
  obtain ⟨Y_c, Y_f, Y_l⟩ := id Y
  obtain ⟨F_c, F_f, F_l⟩ := id F
  repeat (first | (refine wpI_rd rfl rfl ?_; go_big_quiet_step (fail); refine wpQuiet_nil ?_) | (refine wpI_skip rfl rfl ?_; try simp only [Act.put, List.setIfInBounds_toArray, List.set_cons_zero, List.set_cons_succ]))
  try simp only [Act.put, List.setIfInBounds_toArray, List.set_cons_zero, List.set_cons_succ]
  refine wpI_call (f := 12) rfl rfl rfl (by simp [go_sem]; rfl) ?_
  refine (ranges_any _ (HE.out.below B3 (Nat.le_refl _))).mono ?_
  rintro e w4 ⟨rfl, hb⟩
  refine ⟨_, rfl, hb, ?_⟩
  skip
  have B4 : Below w.heap.size w w4 := bcall (by go_grown) hb (by go_size)
  have q4 : w3.heap.size + 0 ≤ w4.heap.size := by have z := hb.size; (try simp only [World.size_alloc, World.size_setCell, World.size_drew] at z); omega
  replace H := Lib.hid (H.out.below hb (Nat.le_refl _))
  replace K := Lib.hid (K.out.below hb (Nat.le_refl _))
  replace X := (X).below hb (by go_size)
  replace Y := (Y).below hb (by go_size)
  replace F := (F).below hb (by go_size)
  clear hb
  have s4 : w.heap.size ≤ w4.heap.size := B4.size
  clear X_c X_f X_l Y_c Y_f Y_l F_c F_f F_l
  obtain ⟨X_c, X_f, X_l⟩ := id X
  obtain ⟨Y_c, Y_f, Y_l⟩ := id Y
  obtain ⟨F_c, F_f, F_l⟩ := id F
  try simp only [Act.put, List.setIfInBounds_toArray, List.set_cons_zero, List.set_cons_succ]
  repeat (first | (refine wpI_rd rfl rfl ?_; go_big_quiet_step (fail); refine wpQuiet_nil ?_) | (refine wpI_skip rfl rfl ?_; try simp only [Act.put, List.setIfInBounds_toArray, List.set_cons_zero, List.set_cons_succ]))
  try simp only [Act.put, List.setIfInBounds_toArray, List.set_cons_zero, List.set_cons_succ]
  refine wpI_call (f := 13) rfl rfl rfl (by simp [go_sem]; rfl) ?_
  refine (CV.out _ H.out).mono ?_
  rintro e w5 ⟨rfl, hb⟩
  refine ⟨_, rfl, hb, ?_⟩
  skip
  have B5 : Below w.heap.size w w5 := bcall (by go_grown) hb (by go_size)
  have q5 : w4.heap.size + 0 ≤ w5.heap.size := by have z := hb.size; (try simp only [World.size_alloc, World.size_setCell, World.size_drew] at z); omega
  replace H := Lib.hid (H.out.below hb (Nat.le_refl _))
  replace K := Lib.hid (K.out.below hb (Nat.le_refl _))
  replace X := (X).below hb (by go_size)
  replace Y := (Y).below hb (by go_size)
  replace F := (F).below hb (by go_size)
  clear hb
  have s5 : w.heap.size ≤ w5.heap.size := B5.size
  clear X_c X_f X_l Y_c Y_f Y_l F_c F_f F_l
  obtain ⟨X_c, X_f, X_l⟩ := id X
  obtain ⟨Y_c, Y_f, Y_l⟩ := id Y
  obtain ⟨F_c, F_f, F_l⟩ := id F
  try simp only [Act.put, List.setIfInBounds_toArray, List.set_cons_zero, List.set_cons_succ]
  repeat (first | (refine wpI_rd rfl rfl ?_; go_big_quiet_step (fail); refine wpQuiet_nil ?_) | (refine wpI_skip rfl rfl ?_; try simp only [Act.put, List.setIfInBounds_toArray, List.set_cons_zero, List.set_cons_succ]))
  try simp only [Act.put, List.setIfInBounds_toArray, List.set_cons_zero, List.set_cons_succ]
  refine wpI_nil ?_
  try simp only [Act.put, List.setIfInBounds_toArray, List.set_cons_zero, List.set_cons_succ]
  clear CF CV
  go_wp2_with fail
  refine (CG.out _ K.out).mono ?_
  rintro e w6 ⟨rfl, hb⟩
  have B6 : Below w.heap.size w w6 := bcall (by go_grown) hb (by go_size)
  have q6 : w5.heap.size + 0 ≤ w6.heap.size := by have z := hb.size; (try simp only [World.size_alloc, World.size_setCell, World.size_drew] at z); omega
  replace H := Lib.hid (H.out.below hb (Nat.le_refl _))
  replace K := Lib.hid (K.out.below hb (Nat.le_refl _))
  replace X := (X).below hb (by go_size)
  replace Y := (Y).below hb (by go_size)
  replace F := (F).below hb (by go_size)
  clear hb
  have s6 : w.heap.size ≤ w6.heap.size := B6.size
  clear X_c X_f X_l Y_c Y_f Y_l F_c F_f F_l
  obtain ⟨X_c, X_f, X_l⟩ := id X
  obtain ⟨Y_c, Y_f, Y_l⟩ := id Y
  obtain ⟨F_c, F_f, F_l⟩ := id F
  go_wp2_with fail
  refine (CC.out _ (H.out) (K.out)).mono ?_
  rintro e w7 ⟨rfl, hb⟩
  have B7 : Below w.heap.size w w7 := bcall (by go_grown) hb (by go_size)
  have q7 : w6.heap.size + 0 ≤ w7.heap.size := by have z := hb.size; (try simp only [World.size_alloc, World.size_setCell, World.size_drew] at z); omega
  replace H := Lib.hid (H.out.below hb (Nat.le_refl _))
  replace K := Lib.hid (K.out.below hb (Nat.le_refl _))
  replace X := (X).below hb (by go_size)
  replace Y := (Y).below hb (by go_size)
  replace F := (F).below hb (by go_size)
  clear hb
  have s7 : w.heap.size ≤ w7.heap.size := B7.size
  clear X_c X_f X_l Y_c Y_f Y_l F_c F_f F_l
  obtain ⟨X_c, X_f, X_l⟩ := id X
  obtain ⟨Y_c, Y_f, Y_l⟩ := id Y
  obtain ⟨F_c, F_f, F_l⟩ := id F
  clear CC
  go_wp2_with fail
  have B8 : Below w.heap.size w (w7.alloc (.cells #[.int .i64 0, .int .i64 0] 29)) := by go_grown
  have q8 : w7.heap.size + 1 ≤ (w7.alloc (.cells #[.int .i64 0, .int .i64 0] 29)).heap.size := by simp only [World.size_alloc]; omega
  replace H := Lib.hid (H.out.below (Below.refl _ _ |>.alloc (Nat.le_refl _) (.cells #[.int .i64 0, .int .i64 0] 29)) (Nat.le_refl _))
  replace K := Lib.hid (K.out.below (Below.refl _ _ |>.alloc (Nat.le_refl _) (.cells #[.int .i64 0, .int .i64 0] 29)) (Nat.le_refl _))
  replace X := (X.alloc (.cells #[.int .i64 0, .int .i64 0] 29))
  replace Y := (Y.alloc (.cells #[.int .i64 0, .int .i64 0] 29))
  replace F := (F.alloc (.cells #[.int .i64 0, .int .i64 0] 29))
  have C := (Bk.new (r := w7.heap.size) (cs := [.int .i64 0, .int .i64 0]) w7 29 (by simp))
  clear X_c X_f X_l Y_c Y_f Y_l F_c F_f F_l
  generalize (w7.alloc (.cells #[.int .i64 0, .int .i64 0] 29)) = w8 at *
  have s8 : w.heap.size ≤ w8.heap.size := B8.size
  obtain ⟨X_c, X_f, X_l⟩ := id X
  obtain ⟨Y_c, Y_f, Y_l⟩ := id Y
  obtain ⟨F_c, F_f, F_l⟩ := id F
  obtain ⟨C_c, C_f, C_l⟩ := id C
  refine (CH.out _ H.out K.out).mono ?_
  rintro e w9 ⟨rfl, hb⟩
  have B9 : Below w.heap.size w w9 := bcall (by go_grown) hb (by go_size)
  have q9 : w8.heap.size + 0 ≤ w9.heap.size := by have z := hb.size; (try simp only [World.size_alloc, World.size_setCell, World.size_drew] at z); omega
  replace H := Lib.hid (H.out.below hb (Nat.le_refl _))
  replace K := Lib.hid (K.out.below hb (Nat.le_refl _))
  replace X := (X).below hb (by go_size)
  replace Y := (Y).below hb (by go_size)
  replace F := (F).below hb (by go_size)
  replace C := (C).below hb (by go_size)
  clear hb
  have s9 : w.heap.size ≤ w9.heap.size := B9.size
  clear X_c X_f X_l Y_c Y_f Y_l F_c F_f F_l C_c C_f C_l
  obtain ⟨X_c, X_f, X_l⟩ := id X
  obtain ⟨Y_c, Y_f, Y_l⟩ := id Y
  obtain ⟨F_c, F_f, F_l⟩ := id F
  obtain ⟨C_c, C_f, C_l⟩ := id C
  go_wp2_with fail
  go_ret
  exact ⟨by simp, by go_grown⟩
theorem VerrangeMatchesSpec_any (r : List Pl.Ivl) (v : Pl.Ver) (a p : Option Addr) (c q : Nat) (w : World) (h : RIn w r a c) (h3 : VIn w v p q) (EN : Env w) : Calls Tryz.prog 3 #[.agg #[.slice a r.length c], verV v p q] w fun e w' => e = .returned (.bool true) ∧ Below w.heap.size w w' := by
  by_cases f1 : (Pl.rngF r).1 = 0
  · by_cases f2 : (Pl.vrF v).1 = 0
    · exact vms_c r v a p c q w h h3 EN (Pl.rng_zero f1) (Pl.vr_zero f2)
    · exact vms_b r v a p c q w h h3 EN (Pl.rng_zero f1) _ _ rfl f2
  · exact vms_a r v a p c q w h h3 EN _ _ rfl f1
end Go.Proofs.YtjfkmbehckdjlaaGreatDoor
