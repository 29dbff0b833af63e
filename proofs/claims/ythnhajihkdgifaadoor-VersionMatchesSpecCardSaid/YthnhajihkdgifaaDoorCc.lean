/- Law: the validity, the order and the successors of versions are as specified (walk). -/
import Derived.Test.YthnhajihkdgifaaDoorCb
namespace Go.Proofs.YthnhajihkdgifaaDoor
open Go.RowKit
set_option maxRecDepth 100000 in
set_option maxHeartbeats 4000000 in
theorem vms_A (a b : Pl.Ver) (pa pb : Option Addr) (ca cb : Nat) (w : World) (E : Env w) (ha : VIn w a pa ca) (hb : VIn w b pb cb) (f1 f2 : Int) (hf : f1 ≠ 0) (ea : Pl.vrF a = (f1, f2)) :
    Calls Tryd.prog 3 #[verV a pa ca, verV b pb cb] w fun e w' => e = .returned (.bool true) ∧ Below w.heap.size w w' := by
  have HE := Lib.hid E
  have HA := Lib.hid ha
  have HB := Lib.hid hb
  have u1 := bneT hf
  have u2 := beqF hf
  have CA := Lib.hid (fun (W : World) (h : VIn W a pa ca) => VersionFault_any a pa ca W h)
  rw [ea] at CA
  have VA := Lib.hid (fun (W : World) (h : VIn W a pa ca) => Validate_any a pa ca W h)
  rw [ea] at VA
  have ec : Pl.cmpF a b = (f1, f2) := by unfold Pl.cmpF; rw [if_pos (by rw [ea]; exact hf), ea]
  have ev : Pl.cmpV a b = 0 := by unfold Pl.cmpV; rw [ec, if_pos (by exact hf)]
  have CC := Lib.hid (fun (W : World) (h : VIn W a pa ca) (h2 : VIn W b pb cb) => verCompare_any a b pa pb ca cb W h h2)
  rw [ec, ev] at CC
  have en : Pl.nextF a = (f1, f2) := by unfold Pl.nextF; rw [if_pos (by rw [ea]; exact hf), ea]
  have em : Pl.nextV a = Pl.Ver.zero := by unfold Pl.nextV; rw [en, if_pos (by exact hf)]
  have CX := Lib.hid (fun (W : World) (h : VIn W a pa ca) => Next_any a pa ca W h)
  rw [en, em] at CX
  have CS := Lib.hid (fun (W : World) (p q : Option Addr) (c d : Nat) (h : VIn W Pl.Ver.zero p c) (h2 : VIn W Pl.Ver.zero q d) => SameVersion_any Pl.Ver.zero Pl.Ver.zero p q c d W h h2)
  rw [Pl.sameB_iff.2 rfl] at CS
  simp only [fltV] at CA VA CC
  delta RVerF at CX
  simp only [fltV] at CX
  clear E ha hb ea ec ev en em hf
  go_enter Tryd.func3, Tryd.ntmps3
  have B0 : Below w.heap.size w w := Below.refl _ _
  go_wp2_with fail
  replace B0 := (B0.alloc B0.size (.cells #[.int .i64 a.maj, .int .i64 a.min, .int .i64 a.pat, .slice pa a.pre.length ca] 24))
  have XA : Blk ((w).alloc (.cells #[.int .i64 a.maj, .int .i64 a.min, .int .i64 a.pat, .slice pa a.pre.length ca] 24)) (w.heap.size) [.int .i64 a.maj, .int .i64 a.min, .int .i64 a.pat, .slice pa a.pre.length ca] := Blk.new (w) [.int .i64 a.maj, .int .i64 a.min, .int .i64 a.pat, .slice pa a.pre.length ca] 24 (g := w.heap.size) (by simp)
  replace B0 := (B0.alloc B0.size (.cells #[.int .i64 b.maj, .int .i64 b.min, .int .i64 b.pat, .slice pb b.pre.length cb] 24))
  replace XA := (XA.alloc (.cells #[.int .i64 b.maj, .int .i64 b.min, .int .i64 b.pat, .slice pb b.pre.length cb] 24))
  have XB : Blk (((w).alloc (.cells #[.int .i64 a.maj, .int .i64 a.min, .int .i64 a.pat, .slice pa a.pre.length ca] 24)).alloc (.cells #[.int .i64 b.maj, .int .i64 b.min, .int .i64 b.pat, .slice pb b.pre.length cb] 24)) (w.heap.size + 1) [.int .i64 b.maj, .int .i64 b.min, .int .i64 b.pat, .slice pb b.pre.length cb] := Blk.new ((w).alloc (.cells #[.int .i64 a.maj, .int .i64 a.min, .int .i64 a.pat, .slice pa a.pre.length ca] 24)) [.int .i64 b.maj, .int .i64 b.min, .int .i64 b.pat, .slice pb b.pre.length cb] 24 (g := w.heap.size + 1) (by simp)
  refine (orders_any _ (HE.out.below B0 (Nat.le_refl _))).mono ?_
  rintro e w1 ⟨rfl, hb⟩
  have hk : Below (((w).alloc (.cells #[.int .i64 a.maj, .int .i64 a.min, .int .i64 a.pat, .slice pa a.pre.length ca] 24)).alloc (.cells #[.int .i64 b.maj, .int .i64 b.min, .int .i64 b.pat, .slice pb b.pre.length cb] 24)).heap.size (((w).alloc (.cells #[.int .i64 a.maj, .int .i64 a.min, .int .i64 a.pat, .slice pa a.pre.length ca] 24)).alloc (.cells #[.int .i64 b.maj, .int .i64 b.min, .int .i64 b.pat, .slice pb b.pre.length cb] 24)) w1 := hb
  have s1 : w.heap.size ≤ w1.heap.size := Nat.le_trans B0.size hk.size
  have q1 : w.heap.size + 2 ≤ w1.heap.size := by have z := hk.size; (try simp only [World.size_alloc] at z); omega
  have B1 : Below w.heap.size w w1 := bcall B0 hk B0.size
  replace XA := XA.below hk XA.lt
  replace XB := XB.below hk XB.lt
  clear B0 hk hb
  have XA_0 := XA.c 0 _ rfl
  have XA_1 := XA.c 1 _ rfl
  have XA_2 := XA.c 2 _ rfl
  have XA_3 := XA.c 3 _ rfl
  have XA_l := XA.lt
  have XB_0 := XB.c 0 _ rfl
  have XB_1 := XB.c 1 _ rfl
  have XB_2 := XB.c 2 _ rfl
  have XB_3 := XB.c 3 _ rfl
  have XB_l := XB.lt
  go_wp2_with fail
  refine (CA.out _ (HA.out.below B1 (Nat.le_refl _))).mono ?_
  rintro e w2 ⟨rfl, hb⟩
  have hk : Below (w1).heap.size (w1) w2 := hb
  have s2 : w.heap.size ≤ w2.heap.size := Nat.le_trans B1.size hk.size
  have q2 : w1.heap.size + 0 ≤ w2.heap.size := by have z := hk.size; (try simp only [World.size_alloc, World.size_setCell] at z); omega
  have B2 : Below w.heap.size w w2 := bcall B1 hk B1.size
  replace XA := XA.below hk XA.lt
  replace XB := XB.below hk XB.lt
  clear B1 hk hb
  clear XA_0 XA_1 XA_2 XA_3 XA_l XB_0 XB_1 XB_2 XB_3 XB_l
  have XA_0 := XA.c 0 _ rfl
  have XA_1 := XA.c 1 _ rfl
  have XA_2 := XA.c 2 _ rfl
  have XA_3 := XA.c 3 _ rfl
  have XA_l := XA.lt
  have XB_0 := XB.c 0 _ rfl
  have XB_1 := XB.c 1 _ rfl
  have XB_2 := XB.c 2 _ rfl
  have XB_3 := XB.c 3 _ rfl
  have XB_l := XB.lt
  go_wp2_with fail
  refine wp_region_ord [0, 2, 1, 3] (by kernel_rfl) (by kernel_rfl) ?_
  replace B2 := (B2.alloc B2.size (.cells #[.int .i64 f1, .int .i64 f2] 27))
  replace XA := (XA.alloc (.cells #[.int .i64 f1, .int .i64 f2] 27))
  replace XB := (XB.alloc (.cells #[.int .i64 f1, .int .i64 f2] 27))
  have T5 : Box2 ((w2).alloc (.cells #[.int .i64 f1, .int .i64 f2] 27)) (w2.heap.size) (.int .i64 f1) (.int .i64 f2) := Box2.newAt (w := w2) (r := w2.heap.size) (x := .int .i64 f1) (y := .int .i64 f2) (t := 27) (by simp)
  have q3 : w2.heap.size + 1 ≤ ((w2).alloc (.cells #[.int .i64 f1, .int .i64 f2] 27)).drew.heap.size := by simp only [World.size_alloc, World.size_drew]; omega
  replace B2 := B2.drew
  replace XA := XA.drew
  replace XB := XB.drew
  replace T5 := T5.drew
  clear XA_0 XA_1 XA_2 XA_3 XA_l XB_0 XB_1 XB_2 XB_3 XB_l
  generalize ((w2).alloc (.cells #[.int .i64 f1, .int .i64 f2] 27)).drew = w3 at *
  have s3 : w.heap.size ≤ w3.heap.size := B2.size
  have XA_0 := XA.c 0 _ rfl
  have XA_1 := XA.c 1 _ rfl
  have XA_2 := XA.c 2 _ rfl
  have XA_3 := XA.c 3 _ rfl
  have XA_l := XA.lt
  have XB_0 := XB.c 0 _ rfl
  have XB_1 := XB.c 1 _ rfl
  have XB_2 := XB.c 2 _ rfl
  have XB_3 := XB.c 3 _ rfl
  have XB_l := XB.lt
  obtain ⟨T5_0, T5_1, T5_f0, T5_f1, T5_l⟩ := id T5
  repeat (first | (refine wpI_rd rfl rfl ?_; go_big_quiet_step (fail); refine wpQuiet_nil ?_) | (refine wpI_skip rfl rfl ?_; try simp only [Act.put, List.setIfInBounds_toArray, List.set_cons_zero, List.set_cons_succ]))
  try simp only [Act.put, List.setIfInBounds_toArray, List.set_cons_zero, List.set_cons_succ]
  refine wpI_call (f := 11) rfl rfl rfl (by simp [go_sem]; rfl) ?_
  refine (VA.out _ (HA.out.below B2 (Nat.le_refl _))).mono ?_
  rintro e w4 ⟨rfl, hb⟩
  refine ⟨_, rfl, hb, ?_⟩
  skip
  have hk : Below (w3).heap.size (w3) w4 := hb
  have s4 : w.heap.size ≤ w4.heap.size := Nat.le_trans B2.size hk.size
  have q4 : w3.heap.size + 0 ≤ w4.heap.size := by have z := hk.size; (try simp only [World.size_alloc, World.size_setCell] at z); omega
  have B4 : Below w.heap.size w w4 := bcall B2 hk B2.size
  replace XA := XA.below hk XA.lt
  replace XB := XB.below hk XB.lt
  replace T5 := T5.below hk T5.lt
  clear B2 hk hb
  clear XA_0 XA_1 XA_2 XA_3 XA_l XB_0 XB_1 XB_2 XB_3 XB_l T5_0 T5_1 T5_f0 T5_f1 T5_l
  have XA_0 := XA.c 0 _ rfl
  have XA_1 := XA.c 1 _ rfl
  have XA_2 := XA.c 2 _ rfl
  have XA_3 := XA.c 3 _ rfl
  have XA_l := XA.lt
  have XB_0 := XB.c 0 _ rfl
  have XB_1 := XB.c 1 _ rfl
  have XB_2 := XB.c 2 _ rfl
  have XB_3 := XB.c 3 _ rfl
  have XB_l := XB.lt
  obtain ⟨T5_0, T5_1, T5_f0, T5_f1, T5_l⟩ := id T5
  try simp only [Act.put, List.setIfInBounds_toArray, List.set_cons_zero, List.set_cons_succ]
  repeat (first | (refine wpI_rd rfl rfl ?_; go_big_quiet_step (fail); refine wpQuiet_nil ?_) | (refine wpI_skip rfl rfl ?_; try simp only [Act.put, List.setIfInBounds_toArray, List.set_cons_zero, List.set_cons_succ]))
  try simp only [Act.put, List.setIfInBounds_toArray, List.set_cons_zero, List.set_cons_succ]
  refine wpI_nil ?_
  try simp only [Act.put, List.setIfInBounds_toArray, List.set_cons_zero, List.set_cons_succ]
  go_wp2_with fail
  replace B4 := (B4.alloc B4.size (.cells #[.int .i64 f1, .int .i64 f2] 27))
  replace XA := (XA.alloc (.cells #[.int .i64 f1, .int .i64 f2] 27))
  replace XB := (XB.alloc (.cells #[.int .i64 f1, .int .i64 f2] 27))
  replace T5 := (T5.alloc (.cells #[.int .i64 f1, .int .i64 f2] 27))
  have T6 : Box2 ((w4).alloc (.cells #[.int .i64 f1, .int .i64 f2] 27)) (w4.heap.size) (.int .i64 f1) (.int .i64 f2) := Box2.newAt (w := w4) (r := w4.heap.size) (x := .int .i64 f1) (y := .int .i64 f2) (t := 27) (by simp)
  refine (CC.out _ (HA.out.below B4 (Nat.le_refl _)) (HB.out.below B4 (Nat.le_refl _))).mono ?_
  rintro e w5 ⟨rfl, hb⟩
  have hk : Below ((w4).alloc (.cells #[.int .i64 f1, .int .i64 f2] 27)).heap.size ((w4).alloc (.cells #[.int .i64 f1, .int .i64 f2] 27)) w5 := hb
  have s5 : w.heap.size ≤ w5.heap.size := Nat.le_trans B4.size hk.size
  have q5 : w4.heap.size + 1 ≤ w5.heap.size := by have z := hk.size; (try simp only [World.size_alloc] at z); omega
  have B5 : Below w.heap.size w w5 := bcall B4 hk B4.size
  replace XA := XA.below hk XA.lt
  replace XB := XB.below hk XB.lt
  replace T5 := T5.below hk T5.lt
  replace T6 := T6.below hk T6.lt
  clear B4 hk hb
  clear XA_0 XA_1 XA_2 XA_3 XA_l XB_0 XB_1 XB_2 XB_3 XB_l T5_0 T5_1 T5_f0 T5_f1 T5_l
  have XA_0 := XA.c 0 _ rfl
  have XA_1 := XA.c 1 _ rfl
  have XA_2 := XA.c 2 _ rfl
  have XA_3 := XA.c 3 _ rfl
  have XA_l := XA.lt
  have XB_0 := XB.c 0 _ rfl
  have XB_1 := XB.c 1 _ rfl
  have XB_2 := XB.c 2 _ rfl
  have XB_3 := XB.c 3 _ rfl
  have XB_l := XB.lt
  obtain ⟨T5_0, T5_1, T5_f0, T5_f1, T5_l⟩ := id T5
  obtain ⟨T6_0, T6_1, T6_f0, T6_f1, T6_l⟩ := id T6
  go_wp2_with fail
  replace B5 := (B5.setCell (p := ⟨w4.heap.size, 0, none⟩) (by dsimp only; omega) (.int .i64 f1))
  replace XA := (XA.far (a := ⟨w4.heap.size, 0, none⟩) (by dsimp only; omega) (.int .i64 f1))
  replace XB := (XB.far (a := ⟨w4.heap.size, 0, none⟩) (by dsimp only; omega) (.int .i64 f1))
  replace T5 := (T5.far (a := ⟨w4.heap.size, 0, none⟩) (by dsimp only; omega) (.int .i64 f1))
  replace B5 := (B5.setCell (p := ⟨w4.heap.size, 1, none⟩) (by dsimp only; omega) (.int .i64 f2))
  replace XA := (XA.far (a := ⟨w4.heap.size, 1, none⟩) (by dsimp only; omega) (.int .i64 f2))
  replace XB := (XB.far (a := ⟨w4.heap.size, 1, none⟩) (by dsimp only; omega) (.int .i64 f2))
  replace T5 := (T5.far (a := ⟨w4.heap.size, 1, none⟩) (by dsimp only; omega) (.int .i64 f2))
  replace T6 := (T6.set (.int .i64 f1) (.int .i64 f2))
  replace B5 := (B5.alloc B5.size (.cells #[.int .i64 f1, .int .i64 f2] 27))
  replace XA := (XA.alloc (.cells #[.int .i64 f1, .int .i64 f2] 27))
  replace XB := (XB.alloc (.cells #[.int .i64 f1, .int .i64 f2] 27))
  replace T5 := (T5.alloc (.cells #[.int .i64 f1, .int .i64 f2] 27))
  replace T6 := (T6.alloc (.cells #[.int .i64 f1, .int .i64 f2] 27))
  have T8 : Box2 ((((w5).setCell ⟨w4.heap.size, 0, none⟩ (.int .i64 f1)).setCell ⟨w4.heap.size, 1, none⟩ (.int .i64 f2)).alloc (.cells #[.int .i64 f1, .int .i64 f2] 27)) (w5.heap.size) (.int .i64 f1) (.int .i64 f2) := Box2.newAt (w := ((w5).setCell ⟨w4.heap.size, 0, none⟩ (.int .i64 f1)).setCell ⟨w4.heap.size, 1, none⟩ (.int .i64 f2)) (r := w5.heap.size) (x := .int .i64 f1) (y := .int .i64 f2) (t := 27) (by simp)
  refine (CX.out _ (HA.out.below B5 (Nat.le_refl _))).mono ?_
  rintro e w6 ⟨px, cx, rfl, vx, hb⟩
  have VX := Lib.hid vx
  clear vx
  have hk : Below ((((w5).setCell ⟨w4.heap.size, 0, none⟩ (.int .i64 f1)).setCell ⟨w4.heap.size, 1, none⟩ (.int .i64 f2)).alloc (.cells #[.int .i64 f1, .int .i64 f2] 27)).heap.size ((((w5).setCell ⟨w4.heap.size, 0, none⟩ (.int .i64 f1)).setCell ⟨w4.heap.size, 1, none⟩ (.int .i64 f2)).alloc (.cells #[.int .i64 f1, .int .i64 f2] 27)) w6 := hb
  have s6 : w.heap.size ≤ w6.heap.size := Nat.le_trans B5.size hk.size
  have q6 : w5.heap.size + 1 ≤ w6.heap.size := by have z := hk.size; (try simp only [World.size_alloc, World.size_setCell] at z); omega
  have B6 : Below w.heap.size w w6 := bcall B5 hk B5.size
  replace XA := XA.below hk XA.lt
  replace XB := XB.below hk XB.lt
  replace T5 := T5.below hk T5.lt
  replace T6 := T6.below hk T6.lt
  replace T8 := T8.below hk T8.lt
  clear B5 hk hb
  clear XA_0 XA_1 XA_2 XA_3 XA_l XB_0 XB_1 XB_2 XB_3 XB_l T5_0 T5_1 T5_f0 T5_f1 T5_l T6_0 T6_1 T6_f0 T6_f1 T6_l
  have XA_0 := XA.c 0 _ rfl
  have XA_1 := XA.c 1 _ rfl
  have XA_2 := XA.c 2 _ rfl
  have XA_3 := XA.c 3 _ rfl
  have XA_l := XA.lt
  have XB_0 := XB.c 0 _ rfl
  have XB_1 := XB.c 1 _ rfl
  have XB_2 := XB.c 2 _ rfl
  have XB_3 := XB.c 3 _ rfl
  have XB_l := XB.lt
  obtain ⟨T5_0, T5_1, T5_f0, T5_f1, T5_l⟩ := id T5
  obtain ⟨T6_0, T6_1, T6_f0, T6_f1, T6_l⟩ := id T6
  obtain ⟨T8_0, T8_1, T8_f0, T8_f1, T8_l⟩ := id T8
  go_wp2_with fail
  refine wp_region_ord [0, 1, 2, 3, 4, 5, 6, 7, 8, 9, 10, 11, 12, 13, 14, 15, 16, 17, 18, 19, 20, 21, 22, 23, 24] (by kernel_rfl) (by kernel_rfl) ?_
  replace VX := Lib.hid (VIn.setF VX.out T8 (.int .i64 f1) (.int .i64 f2))
  replace B6 := (B6.setCell (p := ⟨w5.heap.size, 0, none⟩) (by dsimp only; omega) (.int .i64 f1))
  replace XA := (XA.far (a := ⟨w5.heap.size, 0, none⟩) (by dsimp only; omega) (.int .i64 f1))
  replace XB := (XB.far (a := ⟨w5.heap.size, 0, none⟩) (by dsimp only; omega) (.int .i64 f1))
  replace T5 := (T5.far (a := ⟨w5.heap.size, 0, none⟩) (by dsimp only; omega) (.int .i64 f1))
  replace T6 := (T6.far (a := ⟨w5.heap.size, 0, none⟩) (by dsimp only; omega) (.int .i64 f1))
  replace B6 := (B6.setCell (p := ⟨w5.heap.size, 1, none⟩) (by dsimp only; omega) (.int .i64 f2))
  replace XA := (XA.far (a := ⟨w5.heap.size, 1, none⟩) (by dsimp only; omega) (.int .i64 f2))
  replace XB := (XB.far (a := ⟨w5.heap.size, 1, none⟩) (by dsimp only; omega) (.int .i64 f2))
  replace T5 := (T5.far (a := ⟨w5.heap.size, 1, none⟩) (by dsimp only; omega) (.int .i64 f2))
  replace T6 := (T6.far (a := ⟨w5.heap.size, 1, none⟩) (by dsimp only; omega) (.int .i64 f2))
  replace T8 := (T8.set (.int .i64 f1) (.int .i64 f2))
  replace B6 := (B6.alloc B6.size (.cells #[.int .i64 Pl.Ver.zero.maj, .int .i64 Pl.Ver.zero.min, .int .i64 Pl.Ver.zero.pat, .slice px Pl.Ver.zero.pre.length cx] 24))
  replace XA := (XA.alloc (.cells #[.int .i64 Pl.Ver.zero.maj, .int .i64 Pl.Ver.zero.min, .int .i64 Pl.Ver.zero.pat, .slice px Pl.Ver.zero.pre.length cx] 24))
  replace XB := (XB.alloc (.cells #[.int .i64 Pl.Ver.zero.maj, .int .i64 Pl.Ver.zero.min, .int .i64 Pl.Ver.zero.pat, .slice px Pl.Ver.zero.pre.length cx] 24))
  replace T5 := (T5.alloc (.cells #[.int .i64 Pl.Ver.zero.maj, .int .i64 Pl.Ver.zero.min, .int .i64 Pl.Ver.zero.pat, .slice px Pl.Ver.zero.pre.length cx] 24))
  replace T6 := (T6.alloc (.cells #[.int .i64 Pl.Ver.zero.maj, .int .i64 Pl.Ver.zero.min, .int .i64 Pl.Ver.zero.pat, .slice px Pl.Ver.zero.pre.length cx] 24))
  replace T8 := (T8.alloc (.cells #[.int .i64 Pl.Ver.zero.maj, .int .i64 Pl.Ver.zero.min, .int .i64 Pl.Ver.zero.pat, .slice px Pl.Ver.zero.pre.length cx] 24))
  replace VX := Lib.hid (VX.out.below (B := (((w6).setCell ⟨w5.heap.size, 0, none⟩ (.int .i64 f1)).setCell ⟨w5.heap.size, 1, none⟩ (.int .i64 f2)).heap.size) (w' := (((w6).setCell ⟨w5.heap.size, 0, none⟩ (.int .i64 f1)).setCell ⟨w5.heap.size, 1, none⟩ (.int .i64 f2)).alloc (.cells #[.int .i64 Pl.Ver.zero.maj, .int .i64 Pl.Ver.zero.min, .int .i64 Pl.Ver.zero.pat, .slice px Pl.Ver.zero.pre.length cx] 24)) ((Below.refl _ _).alloc (Nat.le_refl _) _) (Nat.le_refl _))
  have T9 : Blk ((((w6).setCell ⟨w5.heap.size, 0, none⟩ (.int .i64 f1)).setCell ⟨w5.heap.size, 1, none⟩ (.int .i64 f2)).alloc (.cells #[.int .i64 Pl.Ver.zero.maj, .int .i64 Pl.Ver.zero.min, .int .i64 Pl.Ver.zero.pat, .slice px Pl.Ver.zero.pre.length cx] 24)) (w6.heap.size) [.int .i64 Pl.Ver.zero.maj, .int .i64 Pl.Ver.zero.min, .int .i64 Pl.Ver.zero.pat, .slice px Pl.Ver.zero.pre.length cx] := Blk.new (((w6).setCell ⟨w5.heap.size, 0, none⟩ (.int .i64 f1)).setCell ⟨w5.heap.size, 1, none⟩ (.int .i64 f2)) [.int .i64 Pl.Ver.zero.maj, .int .i64 Pl.Ver.zero.min, .int .i64 Pl.Ver.zero.pat, .slice px Pl.Ver.zero.pre.length cx] 24 (g := w6.heap.size) (by simp)
  have q7 : w6.heap.size + 1 ≤ ((((w6).setCell ⟨w5.heap.size, 0, none⟩ (.int .i64 f1)).setCell ⟨w5.heap.size, 1, none⟩ (.int .i64 f2)).alloc (.cells #[.int .i64 Pl.Ver.zero.maj, .int .i64 Pl.Ver.zero.min, .int .i64 Pl.Ver.zero.pat, .slice px Pl.Ver.zero.pre.length cx] 24)).drew.heap.size := by simp only [World.size_alloc, World.size_setCell, World.size_drew]; omega
  replace B6 := B6.drew
  replace XA := XA.drew
  replace XB := XB.drew
  replace T5 := T5.drew
  replace T6 := T6.drew
  replace T8 := T8.drew
  replace VX := Lib.hid (VX.out.below (B := ((((w6).setCell ⟨w5.heap.size, 0, none⟩ (.int .i64 f1)).setCell ⟨w5.heap.size, 1, none⟩ (.int .i64 f2)).alloc (.cells #[.int .i64 Pl.Ver.zero.maj, .int .i64 Pl.Ver.zero.min, .int .i64 Pl.Ver.zero.pat, .slice px Pl.Ver.zero.pre.length cx] 24)).heap.size) (w' := ((((w6).setCell ⟨w5.heap.size, 0, none⟩ (.int .i64 f1)).setCell ⟨w5.heap.size, 1, none⟩ (.int .i64 f2)).alloc (.cells #[.int .i64 Pl.Ver.zero.maj, .int .i64 Pl.Ver.zero.min, .int .i64 Pl.Ver.zero.pat, .slice px Pl.Ver.zero.pre.length cx] 24)).drew) (Below.refl _ _).drew (Nat.le_refl _))
  replace T9 := T9.drew
  clear XA_0 XA_1 XA_2 XA_3 XA_l XB_0 XB_1 XB_2 XB_3 XB_l T5_0 T5_1 T5_f0 T5_f1 T5_l T6_0 T6_1 T6_f0 T6_f1 T6_l T8_0 T8_1 T8_f0 T8_f1 T8_l
  generalize ((((w6).setCell ⟨w5.heap.size, 0, none⟩ (.int .i64 f1)).setCell ⟨w5.heap.size, 1, none⟩ (.int .i64 f2)).alloc (.cells #[.int .i64 Pl.Ver.zero.maj, .int .i64 Pl.Ver.zero.min, .int .i64 Pl.Ver.zero.pat, .slice px Pl.Ver.zero.pre.length cx] 24)).drew = w7 at *
  have s7 : w.heap.size ≤ w7.heap.size := B6.size
  have XA_0 := XA.c 0 _ rfl
  have XA_1 := XA.c 1 _ rfl
  have XA_2 := XA.c 2 _ rfl
  have XA_3 := XA.c 3 _ rfl
  have XA_l := XA.lt
  have XB_0 := XB.c 0 _ rfl
  have XB_1 := XB.c 1 _ rfl
  have XB_2 := XB.c 2 _ rfl
  have XB_3 := XB.c 3 _ rfl
  have XB_l := XB.lt
  obtain ⟨T5_0, T5_1, T5_f0, T5_f1, T5_l⟩ := id T5
  obtain ⟨T6_0, T6_1, T6_f0, T6_f1, T6_l⟩ := id T6
  obtain ⟨T8_0, T8_1, T8_f0, T8_f1, T8_l⟩ := id T8
  have T9_0 := T9.c 0 _ rfl
  have T9_1 := T9.c 1 _ rfl
  have T9_2 := T9.c 2 _ rfl
  have T9_3 := T9.c 3 _ rfl
  have T9_l := T9.lt
  repeat (first | (refine wpI_rd rfl rfl ?_; go_big_quiet_step (fail); refine wpQuiet_nil ?_) | (refine wpI_skip rfl rfl ?_; try simp only [Act.put, List.setIfInBounds_toArray, List.set_cons_zero, List.set_cons_succ]))
  try simp only [Act.put, List.setIfInBounds_toArray, List.set_cons_zero, List.set_cons_succ]
  refine wpI_call (f := 17) rfl rfl rfl (by simp [go_sem]; rfl) ?_
  refine (CS.out _ _ _ _ _ VX.out (VIn.zero _)).mono ?_
  rintro e w8 ⟨rfl, hb⟩
  refine ⟨_, rfl, hb, ?_⟩
  skip
  have hk : Below (w7).heap.size (w7) w8 := hb
  have s8 : w.heap.size ≤ w8.heap.size := Nat.le_trans B6.size hk.size
  have q8 : w7.heap.size + 0 ≤ w8.heap.size := by have z := hk.size; (try simp only [World.size_alloc, World.size_setCell] at z); omega
  have B8 : Below w.heap.size w w8 := bcall B6 hk B6.size
  replace XA := XA.below hk XA.lt
  replace XB := XB.below hk XB.lt
  replace T5 := T5.below hk T5.lt
  replace T6 := T6.below hk T6.lt
  replace T8 := T8.below hk T8.lt
  replace VX := Lib.hid (VX.out.below hk (Nat.le_refl _))
  replace T9 := T9.below hk T9.lt
  clear B6 hk hb
  clear XA_0 XA_1 XA_2 XA_3 XA_l XB_0 XB_1 XB_2 XB_3 XB_l T5_0 T5_1 T5_f0 T5_f1 T5_l T6_0 T6_1 T6_f0 T6_f1 T6_l T8_0 T8_1 T8_f0 T8_f1 T8_l T9_0 T9_1 T9_2 T9_3 T9_l
  have XA_0 := XA.c 0 _ rfl
  have XA_1 := XA.c 1 _ rfl
  have XA_2 := XA.c 2 _ rfl
  have XA_3 := XA.c 3 _ rfl
  have XA_l := XA.lt
  have XB_0 := XB.c 0 _ rfl
  have XB_1 := XB.c 1 _ rfl
  have XB_2 := XB.c 2 _ rfl
  have XB_3 := XB.c 3 _ rfl
  have XB_l := XB.lt
  obtain ⟨T5_0, T5_1, T5_f0, T5_f1, T5_l⟩ := id T5
  obtain ⟨T6_0, T6_1, T6_f0, T6_f1, T6_l⟩ := id T6
  obtain ⟨T8_0, T8_1, T8_f0, T8_f1, T8_l⟩ := id T8
  have T9_0 := T9.c 0 _ rfl
  have T9_1 := T9.c 1 _ rfl
  have T9_2 := T9.c 2 _ rfl
  have T9_3 := T9.c 3 _ rfl
  have T9_l := T9.lt
  try simp only [Act.put, List.setIfInBounds_toArray, List.set_cons_zero, List.set_cons_succ]
  repeat (first | (refine wpI_rd rfl rfl ?_; go_big_quiet_step (fail); refine wpQuiet_nil ?_) | (refine wpI_skip rfl rfl ?_; try simp only [Act.put, List.setIfInBounds_toArray, List.set_cons_zero, List.set_cons_succ]))
  try simp only [Act.put, List.setIfInBounds_toArray, List.set_cons_zero, List.set_cons_succ]
  refine wpI_nil ?_
  try simp only [Act.put, List.setIfInBounds_toArray, List.set_cons_zero, List.set_cons_succ]
  go_wp2_with fail
  go_ret
  exact ⟨rfl, B8⟩
set_option maxRecDepth 100000 in
set_option maxHeartbeats 4000000 in
theorem vms_Bt (a b : Pl.Ver) (pa pb : Option Addr) (ca cb : Nat) (w : World) (E : Env w) (ha : VIn w a pa ca) (hb : VIn w b pb cb) (oka : a.Ok) (g1 g2 : Int) (hg : g1 ≠ 0) (eb : Pl.vrF b = (g1, g2)) (eh : Pl.vrF (Pl.verNext a) = (0, 0)) :
    Calls Tryd.prog 3 #[verV a pa ca, verV b pb cb] w fun e w' => e = .returned (.bool true) ∧ Below w.heap.size w w' := by
  have HE := Lib.hid E
  have HA := Lib.hid ha
  have HB := Lib.hid hb
  have ea := Pl.vrF_ok oka
  have u3 := bneT hg
  have u4 := beqF hg
  have CA := Lib.hid (fun (W : World) (h : VIn W a pa ca) => VersionFault_any a pa ca W h)
  rw [ea] at CA
  have VA := Lib.hid (fun (W : World) (h : VIn W a pa ca) => Validate_any a pa ca W h)
  rw [ea] at VA
  have CB := Lib.hid (fun (W : World) (h : VIn W b pb cb) => VersionFault_any b pb cb W h)
  rw [eb] at CB
  have ec : Pl.cmpF a b = (g1, -2) := by unfold Pl.cmpF; rw [if_neg (by rw [ea]; decide), if_pos (by rw [eb]; exact hg), eb]
  have ev : Pl.cmpV a b = 0 := by unfold Pl.cmpV; rw [ec, if_pos (by exact hg)]
  have CC := Lib.hid (fun (W : World) (h : VIn W a pa ca) (h2 : VIn W b pb cb) => verCompare_any a b pa pb ca cb W h h2)
  rw [ec, ev] at CC
  have en : Pl.nextF a = (0, 0) := by unfold Pl.nextF; rw [if_neg (by rw [ea]; decide), if_neg (by rw [eh]; decide)]
  have em : Pl.nextV a = Pl.verNext a := by unfold Pl.nextV; rw [en, if_neg (by decide)]
  obtain ⟨n, hn⟩ : ∃ n, Pl.verNext a = n := ⟨_, rfl⟩
  rw [hn] at eh em
  have CN := Lib.hid (fun (W : World) (h : VIn W a pa ca) => VersionNext_any a pa ca W h oka)
  rw [hn] at CN
  have CH := Lib.hid (fun (W : World) (p : Option Addr) (c : Nat) (h : VIn W n p c) => VersionFault_any n p c W h)
  rw [eh] at CH
  clear hn eh
  have CX := Lib.hid (fun (W : World) (h : VIn W a pa ca) => Next_any a pa ca W h)
  rw [en, em] at CX
  have CS := Lib.hid (fun (W : World) (p q : Option Addr) (c d : Nat) (h : VIn W n p c) (h2 : VIn W n q d) => SameVersion_any n n p q c d W h h2)
  rw [Pl.sameB_iff.2 rfl] at CS
  simp only [fltV] at CA VA CB CC CH
  delta RVerF at CX
  simp only [fltV] at CX
  delta RVer at CN
  clear E ha hb ea ec ev en em eb
  go_enter Tryd.func3, Tryd.ntmps3
  have B0 : Below w.heap.size w w := Below.refl _ _
  go_wp2_with fail
  replace B0 := (B0.alloc B0.size (.cells #[.int .i64 a.maj, .int .i64 a.min, .int .i64 a.pat, .slice pa a.pre.length ca] 24))
  have XA : Blk ((w).alloc (.cells #[.int .i64 a.maj, .int .i64 a.min, .int .i64 a.pat, .slice pa a.pre.length ca] 24)) (w.heap.size) [.int .i64 a.maj, .int .i64 a.min, .int .i64 a.pat, .slice pa a.pre.length ca] := Blk.new (w) [.int .i64 a.maj, .int .i64 a.min, .int .i64 a.pat, .slice pa a.pre.length ca] 24 (g := w.heap.size) (by simp)
  replace B0 := (B0.alloc B0.size (.cells #[.int .i64 b.maj, .int .i64 b.min, .int .i64 b.pat, .slice pb b.pre.length cb] 24))
  replace XA := (XA.alloc (.cells #[.int .i64 b.maj, .int .i64 b.min, .int .i64 b.pat, .slice pb b.pre.length cb] 24))
  have XB : Blk (((w).alloc (.cells #[.int .i64 a.maj, .int .i64 a.min, .int .i64 a.pat, .slice pa a.pre.length ca] 24)).alloc (.cells #[.int .i64 b.maj, .int .i64 b.min, .int .i64 b.pat, .slice pb b.pre.length cb] 24)) (w.heap.size + 1) [.int .i64 b.maj, .int .i64 b.min, .int .i64 b.pat, .slice pb b.pre.length cb] := Blk.new ((w).alloc (.cells #[.int .i64 a.maj, .int .i64 a.min, .int .i64 a.pat, .slice pa a.pre.length ca] 24)) [.int .i64 b.maj, .int .i64 b.min, .int .i64 b.pat, .slice pb b.pre.length cb] 24 (g := w.heap.size + 1) (by simp)
  refine (orders_any _ (HE.out.below B0 (Nat.le_refl _))).mono ?_
  rintro e w1 ⟨rfl, hb⟩
  have hk : Below (((w).alloc (.cells #[.int .i64 a.maj, .int .i64 a.min, .int .i64 a.pat, .slice pa a.pre.length ca] 24)).alloc (.cells #[.int .i64 b.maj, .int .i64 b.min, .int .i64 b.pat, .slice pb b.pre.length cb] 24)).heap.size (((w).alloc (.cells #[.int .i64 a.maj, .int .i64 a.min, .int .i64 a.pat, .slice pa a.pre.length ca] 24)).alloc (.cells #[.int .i64 b.maj, .int .i64 b.min, .int .i64 b.pat, .slice pb b.pre.length cb] 24)) w1 := hb
  have s1 : w.heap.size ≤ w1.heap.size := Nat.le_trans B0.size hk.size
  have q1 : w.heap.size + 2 ≤ w1.heap.size := by have z := hk.size; (try simp only [World.size_alloc] at z); omega
  have B1 : Below w.heap.size w w1 := bcall B0 hk B0.size
  replace XA := XA.below hk XA.lt
  replace XB := XB.below hk XB.lt
  clear B0 hk hb
  have XA_0 := XA.c 0 _ rfl
  have XA_1 := XA.c 1 _ rfl
  have XA_2 := XA.c 2 _ rfl
  have XA_3 := XA.c 3 _ rfl
  have XA_l := XA.lt
  have XB_0 := XB.c 0 _ rfl
  have XB_1 := XB.c 1 _ rfl
  have XB_2 := XB.c 2 _ rfl
  have XB_3 := XB.c 3 _ rfl
  have XB_l := XB.lt
  go_wp2_with fail
  refine (CA.out _ (HA.out.below B1 (Nat.le_refl _))).mono ?_
  rintro e w2 ⟨rfl, hb⟩
  have hk : Below (w1).heap.size (w1) w2 := hb
  have s2 : w.heap.size ≤ w2.heap.size := Nat.le_trans B1.size hk.size
  have q2 : w1.heap.size + 0 ≤ w2.heap.size := by have z := hk.size; (try simp only [World.size_alloc, World.size_setCell] at z); omega
  have B2 : Below w.heap.size w w2 := bcall B1 hk B1.size
  replace XA := XA.below hk XA.lt
  replace XB := XB.below hk XB.lt
  clear B1 hk hb
  clear XA_0 XA_1 XA_2 XA_3 XA_l XB_0 XB_1 XB_2 XB_3 XB_l
  have XA_0 := XA.c 0 _ rfl
  have XA_1 := XA.c 1 _ rfl
  have XA_2 := XA.c 2 _ rfl
  have XA_3 := XA.c 3 _ rfl
  have XA_l := XA.lt
  have XB_0 := XB.c 0 _ rfl
  have XB_1 := XB.c 1 _ rfl
  have XB_2 := XB.c 2 _ rfl
  have XB_3 := XB.c 3 _ rfl
  have XB_l := XB.lt
  go_wp2_with fail
  refine wp_region_ord [0, 2, 1, 3] (by kernel_rfl) (by kernel_rfl) ?_
  replace B2 := (B2.alloc B2.size (.cells #[.int .i64 0, .int .i64 0] 27))
  replace XA := (XA.alloc (.cells #[.int .i64 0, .int .i64 0] 27))
  replace XB := (XB.alloc (.cells #[.int .i64 0, .int .i64 0] 27))
  have T5 : Box2 ((w2).alloc (.cells #[.int .i64 0, .int .i64 0] 27)) (w2.heap.size) (.int .i64 0) (.int .i64 0) := Box2.newAt (w := w2) (r := w2.heap.size) (x := .int .i64 0) (y := .int .i64 0) (t := 27) (by simp)
  have q3 : w2.heap.size + 1 ≤ ((w2).alloc (.cells #[.int .i64 0, .int .i64 0] 27)).drew.heap.size := by simp only [World.size_alloc, World.size_drew]; omega
  replace B2 := B2.drew
  replace XA := XA.drew
  replace XB := XB.drew
  replace T5 := T5.drew
  clear XA_0 XA_1 XA_2 XA_3 XA_l XB_0 XB_1 XB_2 XB_3 XB_l
  generalize ((w2).alloc (.cells #[.int .i64 0, .int .i64 0] 27)).drew = w3 at *
  have s3 : w.heap.size ≤ w3.heap.size := B2.size
  have XA_0 := XA.c 0 _ rfl
  have XA_1 := XA.c 1 _ rfl
  have XA_2 := XA.c 2 _ rfl
  have XA_3 := XA.c 3 _ rfl
  have XA_l := XA.lt
  have XB_0 := XB.c 0 _ rfl
  have XB_1 := XB.c 1 _ rfl
  have XB_2 := XB.c 2 _ rfl
  have XB_3 := XB.c 3 _ rfl
  have XB_l := XB.lt
  obtain ⟨T5_0, T5_1, T5_f0, T5_f1, T5_l⟩ := id T5
  repeat (first | (refine wpI_rd rfl rfl ?_; go_big_quiet_step (fail); refine wpQuiet_nil ?_) | (refine wpI_skip rfl rfl ?_; try simp only [Act.put, List.setIfInBounds_toArray, List.set_cons_zero, List.set_cons_succ]))
  try simp only [Act.put, List.setIfInBounds_toArray, List.set_cons_zero, List.set_cons_succ]
  refine wpI_call (f := 11) rfl rfl rfl (by simp [go_sem]; rfl) ?_
  refine (VA.out _ (HA.out.below B2 (Nat.le_refl _))).mono ?_
  rintro e w4 ⟨rfl, hb⟩
  refine ⟨_, rfl, hb, ?_⟩
  skip
  have hk : Below (w3).heap.size (w3) w4 := hb
  have s4 : w.heap.size ≤ w4.heap.size := Nat.le_trans B2.size hk.size
  have q4 : w3.heap.size + 0 ≤ w4.heap.size := by have z := hk.size; (try simp only [World.size_alloc, World.size_setCell] at z); omega
  have B4 : Below w.heap.size w w4 := bcall B2 hk B2.size
  replace XA := XA.below hk XA.lt
  replace XB := XB.below hk XB.lt
  replace T5 := T5.below hk T5.lt
  clear B2 hk hb
  clear XA_0 XA_1 XA_2 XA_3 XA_l XB_0 XB_1 XB_2 XB_3 XB_l T5_0 T5_1 T5_f0 T5_f1 T5_l
  have XA_0 := XA.c 0 _ rfl
  have XA_1 := XA.c 1 _ rfl
  have XA_2 := XA.c 2 _ rfl
  have XA_3 := XA.c 3 _ rfl
  have XA_l := XA.lt
  have XB_0 := XB.c 0 _ rfl
  have XB_1 := XB.c 1 _ rfl
  have XB_2 := XB.c 2 _ rfl
  have XB_3 := XB.c 3 _ rfl
  have XB_l := XB.lt
  obtain ⟨T5_0, T5_1, T5_f0, T5_f1, T5_l⟩ := id T5
  try simp only [Act.put, List.setIfInBounds_toArray, List.set_cons_zero, List.set_cons_succ]
  repeat (first | (refine wpI_rd rfl rfl ?_; go_big_quiet_step (fail); refine wpQuiet_nil ?_) | (refine wpI_skip rfl rfl ?_; try simp only [Act.put, List.setIfInBounds_toArray, List.set_cons_zero, List.set_cons_succ]))
  try simp only [Act.put, List.setIfInBounds_toArray, List.set_cons_zero, List.set_cons_succ]
  refine wpI_nil ?_
  try simp only [Act.put, List.setIfInBounds_toArray, List.set_cons_zero, List.set_cons_succ]
  go_wp2_with fail
  replace B4 := (B4.alloc B4.size (.cells #[.int .i64 0, .int .i64 0] 27))
  replace XA := (XA.alloc (.cells #[.int .i64 0, .int .i64 0] 27))
  replace XB := (XB.alloc (.cells #[.int .i64 0, .int .i64 0] 27))
  replace T5 := (T5.alloc (.cells #[.int .i64 0, .int .i64 0] 27))
  have T6 : Box2 ((w4).alloc (.cells #[.int .i64 0, .int .i64 0] 27)) (w4.heap.size) (.int .i64 0) (.int .i64 0) := Box2.newAt (w := w4) (r := w4.heap.size) (x := .int .i64 0) (y := .int .i64 0) (t := 27) (by simp)
  refine (CB.out _ (HB.out.below B4 (Nat.le_refl _))).mono ?_
  rintro e w5 ⟨rfl, hb⟩
  have hk : Below ((w4).alloc (.cells #[.int .i64 0, .int .i64 0] 27)).heap.size ((w4).alloc (.cells #[.int .i64 0, .int .i64 0] 27)) w5 := hb
  have s5 : w.heap.size ≤ w5.heap.size := Nat.le_trans B4.size hk.size
  have q5 : w4.heap.size + 1 ≤ w5.heap.size := by have z := hk.size; (try simp only [World.size_alloc] at z); omega
  have B5 : Below w.heap.size w w5 := bcall B4 hk B4.size
  replace XA := XA.below hk XA.lt
  replace XB := XB.below hk XB.lt
  replace T5 := T5.below hk T5.lt
  replace T6 := T6.below hk T6.lt
  clear B4 hk hb
  clear XA_0 XA_1 XA_2 XA_3 XA_l XB_0 XB_1 XB_2 XB_3 XB_l T5_0 T5_1 T5_f0 T5_f1 T5_l
  have XA_0 := XA.c 0 _ rfl
  have XA_1 := XA.c 1 _ rfl
  have XA_2 := XA.c 2 _ rfl
  have XA_3 := XA.c 3 _ rfl
  have XA_l := XA.lt
  have XB_0 := XB.c 0 _ rfl
  have XB_1 := XB.c 1 _ rfl
  have XB_2 := XB.c 2 _ rfl
  have XB_3 := XB.c 3 _ rfl
  have XB_l := XB.lt
  obtain ⟨T5_0, T5_1, T5_f0, T5_f1, T5_l⟩ := id T5
  obtain ⟨T6_0, T6_1, T6_f0, T6_f1, T6_l⟩ := id T6
  go_wp2_with fail
  refine (CB.out _ (HB.out.below B5 (Nat.le_refl _))).mono ?_
  rintro e w6 ⟨rfl, hb⟩
  have hk : Below (w5).heap.size (w5) w6 := hb
  have s6 : w.heap.size ≤ w6.heap.size := Nat.le_trans B5.size hk.size
  have q6 : w5.heap.size + 0 ≤ w6.heap.size := by have z := hk.size; (try simp only [World.size_alloc, World.size_setCell] at z); omega
  have B6 : Below w.heap.size w w6 := bcall B5 hk B5.size
  replace XA := XA.below hk XA.lt
  replace XB := XB.below hk XB.lt
  replace T5 := T5.below hk T5.lt
  replace T6 := T6.below hk T6.lt
  clear B5 hk hb
  clear XA_0 XA_1 XA_2 XA_3 XA_l XB_0 XB_1 XB_2 XB_3 XB_l T5_0 T5_1 T5_f0 T5_f1 T5_l T6_0 T6_1 T6_f0 T6_f1 T6_l
  have XA_0 := XA.c 0 _ rfl
  have XA_1 := XA.c 1 _ rfl
  have XA_2 := XA.c 2 _ rfl
  have XA_3 := XA.c 3 _ rfl
  have XA_l := XA.lt
  have XB_0 := XB.c 0 _ rfl
  have XB_1 := XB.c 1 _ rfl
  have XB_2 := XB.c 2 _ rfl
  have XB_3 := XB.c 3 _ rfl
  have XB_l := XB.lt
  obtain ⟨T5_0, T5_1, T5_f0, T5_f1, T5_l⟩ := id T5
  obtain ⟨T6_0, T6_1, T6_f0, T6_f1, T6_l⟩ := id T6
  go_wp2_with (go_at_call 12; refine (lfault_at _ _ _).mono ?_; rintro e w' ⟨rfl, rfl⟩)
  replace B6 := (B6.setCell (p := ⟨w4.heap.size, 0, none⟩) (by dsimp only; omega) (.int .i64 g1))
  replace XA := (XA.far (a := ⟨w4.heap.size, 0, none⟩) (by dsimp only; omega) (.int .i64 g1))
  replace XB := (XB.far (a := ⟨w4.heap.size, 0, none⟩) (by dsimp only; omega) (.int .i64 g1))
  replace T5 := (T5.far (a := ⟨w4.heap.size, 0, none⟩) (by dsimp only; omega) (.int .i64 g1))
  replace B6 := (B6.setCell (p := ⟨w4.heap.size, 1, none⟩) (by dsimp only; omega) (.int .i64 (-2)))
  replace XA := (XA.far (a := ⟨w4.heap.size, 1, none⟩) (by dsimp only; omega) (.int .i64 (-2)))
  replace XB := (XB.far (a := ⟨w4.heap.size, 1, none⟩) (by dsimp only; omega) (.int .i64 (-2)))
  replace T5 := (T5.far (a := ⟨w4.heap.size, 1, none⟩) (by dsimp only; omega) (.int .i64 (-2)))
  replace T6 := (T6.set (.int .i64 g1) (.int .i64 (-2)))
  replace B6 := (B6.alloc B6.size (.cells #[.int .i64 g1, .int .i64 (-2)] 27))
  replace XA := (XA.alloc (.cells #[.int .i64 g1, .int .i64 (-2)] 27))
  replace XB := (XB.alloc (.cells #[.int .i64 g1, .int .i64 (-2)] 27))
  replace T5 := (T5.alloc (.cells #[.int .i64 g1, .int .i64 (-2)] 27))
  replace T6 := (T6.alloc (.cells #[.int .i64 g1, .int .i64 (-2)] 27))
  refine (CC.out _ (HA.out.below B6 (Nat.le_refl _)) (HB.out.below B6 (Nat.le_refl _))).mono ?_
  rintro e w7 ⟨rfl, hb⟩
  have hk : Below ((((w6).setCell ⟨w4.heap.size, 0, none⟩ (.int .i64 g1)).setCell ⟨w4.heap.size, 1, none⟩ (.int .i64 (-2))).alloc (.cells #[.int .i64 g1, .int .i64 (-2)] 27)).heap.size ((((w6).setCell ⟨w4.heap.size, 0, none⟩ (.int .i64 g1)).setCell ⟨w4.heap.size, 1, none⟩ (.int .i64 (-2))).alloc (.cells #[.int .i64 g1, .int .i64 (-2)] 27)) w7 := hb
  have s7 : w.heap.size ≤ w7.heap.size := Nat.le_trans B6.size hk.size
  have q7 : w6.heap.size + 1 ≤ w7.heap.size := by have z := hk.size; (try simp only [World.size_alloc, World.size_setCell] at z); omega
  have B7 : Below w.heap.size w w7 := bcall B6 hk B6.size
  replace XA := XA.below hk XA.lt
  replace XB := XB.below hk XB.lt
  replace T5 := T5.below hk T5.lt
  replace T6 := T6.below hk T6.lt
  clear B6 hk hb
  clear XA_0 XA_1 XA_2 XA_3 XA_l XB_0 XB_1 XB_2 XB_3 XB_l T5_0 T5_1 T5_f0 T5_f1 T5_l T6_0 T6_1 T6_f0 T6_f1 T6_l
  have XA_0 := XA.c 0 _ rfl
  have XA_1 := XA.c 1 _ rfl
  have XA_2 := XA.c 2 _ rfl
  have XA_3 := XA.c 3 _ rfl
  have XA_l := XA.lt
  have XB_0 := XB.c 0 _ rfl
  have XB_1 := XB.c 1 _ rfl
  have XB_2 := XB.c 2 _ rfl
  have XB_3 := XB.c 3 _ rfl
  have XB_l := XB.lt
  obtain ⟨T5_0, T5_1, T5_f0, T5_f1, T5_l⟩ := id T5
  obtain ⟨T6_0, T6_1, T6_f0, T6_f1, T6_l⟩ := id T6
  go_wp2_with fail
  replace B7 := (B7.setCell (p := ⟨w4.heap.size, 0, none⟩) (by dsimp only; omega) (.int .i64 0))
  replace XA := (XA.far (a := ⟨w4.heap.size, 0, none⟩) (by dsimp only; omega) (.int .i64 0))
  replace XB := (XB.far (a := ⟨w4.heap.size, 0, none⟩) (by dsimp only; omega) (.int .i64 0))
  replace T5 := (T5.far (a := ⟨w4.heap.size, 0, none⟩) (by dsimp only; omega) (.int .i64 0))
  replace B7 := (B7.setCell (p := ⟨w4.heap.size, 1, none⟩) (by dsimp only; omega) (.int .i64 0))
  replace XA := (XA.far (a := ⟨w4.heap.size, 1, none⟩) (by dsimp only; omega) (.int .i64 0))
  replace XB := (XB.far (a := ⟨w4.heap.size, 1, none⟩) (by dsimp only; omega) (.int .i64 0))
  replace T5 := (T5.far (a := ⟨w4.heap.size, 1, none⟩) (by dsimp only; omega) (.int .i64 0))
  replace T6 := (T6.set (.int .i64 0) (.int .i64 0))
  replace B7 := (B7.alloc B7.size (.cells #[.int .i64 g1, .int .i64 (-2)] 27))
  replace XA := (XA.alloc (.cells #[.int .i64 g1, .int .i64 (-2)] 27))
  replace XB := (XB.alloc (.cells #[.int .i64 g1, .int .i64 (-2)] 27))
  replace T5 := (T5.alloc (.cells #[.int .i64 g1, .int .i64 (-2)] 27))
  replace T6 := (T6.alloc (.cells #[.int .i64 g1, .int .i64 (-2)] 27))
  have T8 : Box2 ((((w7).setCell ⟨w4.heap.size, 0, none⟩ (.int .i64 0)).setCell ⟨w4.heap.size, 1, none⟩ (.int .i64 0)).alloc (.cells #[.int .i64 g1, .int .i64 (-2)] 27)) (w7.heap.size) (.int .i64 g1) (.int .i64 (-2)) := Box2.newAt (w := ((w7).setCell ⟨w4.heap.size, 0, none⟩ (.int .i64 0)).setCell ⟨w4.heap.size, 1, none⟩ (.int .i64 0)) (r := w7.heap.size) (x := .int .i64 g1) (y := .int .i64 (-2)) (t := 27) (by simp)
  refine (CN.out _ (HA.out.below B7 (Nat.le_refl _))).mono ?_
  rintro e w8 ⟨pn, cn, rfl, vn, hb⟩
  have VN := Lib.hid vn
  clear vn
  have hk : Below ((((w7).setCell ⟨w4.heap.size, 0, none⟩ (.int .i64 0)).setCell ⟨w4.heap.size, 1, none⟩ (.int .i64 0)).alloc (.cells #[.int .i64 g1, .int .i64 (-2)] 27)).heap.size ((((w7).setCell ⟨w4.heap.size, 0, none⟩ (.int .i64 0)).setCell ⟨w4.heap.size, 1, none⟩ (.int .i64 0)).alloc (.cells #[.int .i64 g1, .int .i64 (-2)] 27)) w8 := hb
  have s8 : w.heap.size ≤ w8.heap.size := Nat.le_trans B7.size hk.size
  have q8 : w7.heap.size + 1 ≤ w8.heap.size := by have z := hk.size; (try simp only [World.size_alloc, World.size_setCell] at z); omega
  have B8 : Below w.heap.size w w8 := bcall B7 hk B7.size
  replace XA := XA.below hk XA.lt
  replace XB := XB.below hk XB.lt
  replace T5 := T5.below hk T5.lt
  replace T6 := T6.below hk T6.lt
  replace T8 := T8.below hk T8.lt
  clear B7 hk hb
  clear XA_0 XA_1 XA_2 XA_3 XA_l XB_0 XB_1 XB_2 XB_3 XB_l T5_0 T5_1 T5_f0 T5_f1 T5_l T6_0 T6_1 T6_f0 T6_f1 T6_l
  have XA_0 := XA.c 0 _ rfl
  have XA_1 := XA.c 1 _ rfl
  have XA_2 := XA.c 2 _ rfl
  have XA_3 := XA.c 3 _ rfl
  have XA_l := XA.lt
  have XB_0 := XB.c 0 _ rfl
  have XB_1 := XB.c 1 _ rfl
  have XB_2 := XB.c 2 _ rfl
  have XB_3 := XB.c 3 _ rfl
  have XB_l := XB.lt
  obtain ⟨T5_0, T5_1, T5_f0, T5_f1, T5_l⟩ := id T5
  obtain ⟨T6_0, T6_1, T6_f0, T6_f1, T6_l⟩ := id T6
  obtain ⟨T8_0, T8_1, T8_f0, T8_f1, T8_l⟩ := id T8
  go_wp2_with fail
  refine (CH.out _ _ _ VN.out).mono ?_
  rintro e w9 ⟨rfl, hb⟩
  clear VN
  have hk : Below (w8).heap.size (w8) w9 := hb
  have s9 : w.heap.size ≤ w9.heap.size := Nat.le_trans B8.size hk.size
  have q9 : w8.heap.size + 0 ≤ w9.heap.size := by have z := hk.size; (try simp only [World.size_alloc, World.size_setCell] at z); omega
  have B9 : Below w.heap.size w w9 := bcall B8 hk B8.size
  replace XA := XA.below hk XA.lt
  replace XB := XB.below hk XB.lt
  replace T5 := T5.below hk T5.lt
  replace T6 := T6.below hk T6.lt
  replace T8 := T8.below hk T8.lt
  clear B8 hk hb
  clear XA_0 XA_1 XA_2 XA_3 XA_l XB_0 XB_1 XB_2 XB_3 XB_l T5_0 T5_1 T5_f0 T5_f1 T5_l T6_0 T6_1 T6_f0 T6_f1 T6_l T8_0 T8_1 T8_f0 T8_f1 T8_l
  have XA_0 := XA.c 0 _ rfl
  have XA_1 := XA.c 1 _ rfl
  have XA_2 := XA.c 2 _ rfl
  have XA_3 := XA.c 3 _ rfl
  have XA_l := XA.lt
  have XB_0 := XB.c 0 _ rfl
  have XB_1 := XB.c 1 _ rfl
  have XB_2 := XB.c 2 _ rfl
  have XB_3 := XB.c 3 _ rfl
  have XB_l := XB.lt
  obtain ⟨T5_0, T5_1, T5_f0, T5_f1, T5_l⟩ := id T5
  obtain ⟨T6_0, T6_1, T6_f0, T6_f1, T6_l⟩ := id T6
  obtain ⟨T8_0, T8_1, T8_f0, T8_f1, T8_l⟩ := id T8
  go_wp2_with fail
  refine (CX.out _ (HA.out.below B9 (Nat.le_refl _))).mono ?_
  rintro e w10 ⟨px, cx, rfl, vx, hb⟩
  have VX := Lib.hid vx
  clear vx
  have hk : Below (w9).heap.size (w9) w10 := hb
  have s10 : w.heap.size ≤ w10.heap.size := Nat.le_trans B9.size hk.size
  have q10 : w9.heap.size + 0 ≤ w10.heap.size := by have z := hk.size; (try simp only [World.size_alloc, World.size_setCell] at z); omega
  have B10 : Below w.heap.size w w10 := bcall B9 hk B9.size
  replace XA := XA.below hk XA.lt
  replace XB := XB.below hk XB.lt
  replace T5 := T5.below hk T5.lt
  replace T6 := T6.below hk T6.lt
  replace T8 := T8.below hk T8.lt
  clear B9 hk hb
  clear XA_0 XA_1 XA_2 XA_3 XA_l XB_0 XB_1 XB_2 XB_3 XB_l T5_0 T5_1 T5_f0 T5_f1 T5_l T6_0 T6_1 T6_f0 T6_f1 T6_l T8_0 T8_1 T8_f0 T8_f1 T8_l
  have XA_0 := XA.c 0 _ rfl
  have XA_1 := XA.c 1 _ rfl
  have XA_2 := XA.c 2 _ rfl
  have XA_3 := XA.c 3 _ rfl
  have XA_l := XA.lt
  have XB_0 := XB.c 0 _ rfl
  have XB_1 := XB.c 1 _ rfl
  have XB_2 := XB.c 2 _ rfl
  have XB_3 := XB.c 3 _ rfl
  have XB_l := XB.lt
  obtain ⟨T5_0, T5_1, T5_f0, T5_f1, T5_l⟩ := id T5
  obtain ⟨T6_0, T6_1, T6_f0, T6_f1, T6_l⟩ := id T6
  obtain ⟨T8_0, T8_1, T8_f0, T8_f1, T8_l⟩ := id T8
  go_wp2_with fail
  refine wp_region_ord [0, 1, 2, 3, 4, 5, 6, 7, 8, 9, 10, 11, 12, 13, 14, 15, 16, 17, 18, 19, 20, 21, 22, 23, 24] (by kernel_rfl) (by kernel_rfl) ?_
  replace VX := Lib.hid (VIn.setF VX.out T8 (.int .i64 0) (.int .i64 0))
  replace B10 := (B10.setCell (p := ⟨w7.heap.size, 0, none⟩) (by dsimp only; omega) (.int .i64 0))
  replace XA := (XA.far (a := ⟨w7.heap.size, 0, none⟩) (by dsimp only; omega) (.int .i64 0))
  replace XB := (XB.far (a := ⟨w7.heap.size, 0, none⟩) (by dsimp only; omega) (.int .i64 0))
  replace T5 := (T5.far (a := ⟨w7.heap.size, 0, none⟩) (by dsimp only; omega) (.int .i64 0))
  replace T6 := (T6.far (a := ⟨w7.heap.size, 0, none⟩) (by dsimp only; omega) (.int .i64 0))
  replace B10 := (B10.setCell (p := ⟨w7.heap.size, 1, none⟩) (by dsimp only; omega) (.int .i64 0))
  replace XA := (XA.far (a := ⟨w7.heap.size, 1, none⟩) (by dsimp only; omega) (.int .i64 0))
  replace XB := (XB.far (a := ⟨w7.heap.size, 1, none⟩) (by dsimp only; omega) (.int .i64 0))
  replace T5 := (T5.far (a := ⟨w7.heap.size, 1, none⟩) (by dsimp only; omega) (.int .i64 0))
  replace T6 := (T6.far (a := ⟨w7.heap.size, 1, none⟩) (by dsimp only; omega) (.int .i64 0))
  replace T8 := (T8.set (.int .i64 0) (.int .i64 0))
  replace B10 := (B10.alloc B10.size (.cells #[.int .i64 n.maj, .int .i64 n.min, .int .i64 n.pat, .slice px n.pre.length cx] 24))
  replace XA := (XA.alloc (.cells #[.int .i64 n.maj, .int .i64 n.min, .int .i64 n.pat, .slice px n.pre.length cx] 24))
  replace XB := (XB.alloc (.cells #[.int .i64 n.maj, .int .i64 n.min, .int .i64 n.pat, .slice px n.pre.length cx] 24))
  replace T5 := (T5.alloc (.cells #[.int .i64 n.maj, .int .i64 n.min, .int .i64 n.pat, .slice px n.pre.length cx] 24))
  replace T6 := (T6.alloc (.cells #[.int .i64 n.maj, .int .i64 n.min, .int .i64 n.pat, .slice px n.pre.length cx] 24))
  replace T8 := (T8.alloc (.cells #[.int .i64 n.maj, .int .i64 n.min, .int .i64 n.pat, .slice px n.pre.length cx] 24))
  replace VX := Lib.hid (VX.out.below (B := (((w10).setCell ⟨w7.heap.size, 0, none⟩ (.int .i64 0)).setCell ⟨w7.heap.size, 1, none⟩ (.int .i64 0)).heap.size) (w' := (((w10).setCell ⟨w7.heap.size, 0, none⟩ (.int .i64 0)).setCell ⟨w7.heap.size, 1, none⟩ (.int .i64 0)).alloc (.cells #[.int .i64 n.maj, .int .i64 n.min, .int .i64 n.pat, .slice px n.pre.length cx] 24)) ((Below.refl _ _).alloc (Nat.le_refl _) _) (Nat.le_refl _))
  have T9 : Blk ((((w10).setCell ⟨w7.heap.size, 0, none⟩ (.int .i64 0)).setCell ⟨w7.heap.size, 1, none⟩ (.int .i64 0)).alloc (.cells #[.int .i64 n.maj, .int .i64 n.min, .int .i64 n.pat, .slice px n.pre.length cx] 24)) (w10.heap.size) [.int .i64 n.maj, .int .i64 n.min, .int .i64 n.pat, .slice px n.pre.length cx] := Blk.new (((w10).setCell ⟨w7.heap.size, 0, none⟩ (.int .i64 0)).setCell ⟨w7.heap.size, 1, none⟩ (.int .i64 0)) [.int .i64 n.maj, .int .i64 n.min, .int .i64 n.pat, .slice px n.pre.length cx] 24 (g := w10.heap.size) (by simp)
  have q11 : w10.heap.size + 1 ≤ ((((w10).setCell ⟨w7.heap.size, 0, none⟩ (.int .i64 0)).setCell ⟨w7.heap.size, 1, none⟩ (.int .i64 0)).alloc (.cells #[.int .i64 n.maj, .int .i64 n.min, .int .i64 n.pat, .slice px n.pre.length cx] 24)).drew.heap.size := by simp only [World.size_alloc, World.size_setCell, World.size_drew]; omega
  replace B10 := B10.drew
  replace XA := XA.drew
  replace XB := XB.drew
  replace T5 := T5.drew
  replace T6 := T6.drew
  replace T8 := T8.drew
  replace VX := Lib.hid (VX.out.below (B := ((((w10).setCell ⟨w7.heap.size, 0, none⟩ (.int .i64 0)).setCell ⟨w7.heap.size, 1, none⟩ (.int .i64 0)).alloc (.cells #[.int .i64 n.maj, .int .i64 n.min, .int .i64 n.pat, .slice px n.pre.length cx] 24)).heap.size) (w' := ((((w10).setCell ⟨w7.heap.size, 0, none⟩ (.int .i64 0)).setCell ⟨w7.heap.size, 1, none⟩ (.int .i64 0)).alloc (.cells #[.int .i64 n.maj, .int .i64 n.min, .int .i64 n.pat, .slice px n.pre.length cx] 24)).drew) (Below.refl _ _).drew (Nat.le_refl _))
  replace T9 := T9.drew
  clear XA_0 XA_1 XA_2 XA_3 XA_l XB_0 XB_1 XB_2 XB_3 XB_l T5_0 T5_1 T5_f0 T5_f1 T5_l T6_0 T6_1 T6_f0 T6_f1 T6_l T8_0 T8_1 T8_f0 T8_f1 T8_l
  generalize ((((w10).setCell ⟨w7.heap.size, 0, none⟩ (.int .i64 0)).setCell ⟨w7.heap.size, 1, none⟩ (.int .i64 0)).alloc (.cells #[.int .i64 n.maj, .int .i64 n.min, .int .i64 n.pat, .slice px n.pre.length cx] 24)).drew = w11 at *
  have s11 : w.heap.size ≤ w11.heap.size := B10.size
  have XA_0 := XA.c 0 _ rfl
  have XA_1 := XA.c 1 _ rfl
  have XA_2 := XA.c 2 _ rfl
  have XA_3 := XA.c 3 _ rfl
  have XA_l := XA.lt
  have XB_0 := XB.c 0 _ rfl
  have XB_1 := XB.c 1 _ rfl
  have XB_2 := XB.c 2 _ rfl
  have XB_3 := XB.c 3 _ rfl
  have XB_l := XB.lt
  obtain ⟨T5_0, T5_1, T5_f0, T5_f1, T5_l⟩ := id T5
  obtain ⟨T6_0, T6_1, T6_f0, T6_f1, T6_l⟩ := id T6
  obtain ⟨T8_0, T8_1, T8_f0, T8_f1, T8_l⟩ := id T8
  have T9_0 := T9.c 0 _ rfl
  have T9_1 := T9.c 1 _ rfl
  have T9_2 := T9.c 2 _ rfl
  have T9_3 := T9.c 3 _ rfl
  have T9_l := T9.lt
  repeat (first | (refine wpI_rd rfl rfl ?_; go_big_quiet_step (fail); refine wpQuiet_nil ?_) | (refine wpI_skip rfl rfl ?_; try simp only [Act.put, List.setIfInBounds_toArray, List.set_cons_zero, List.set_cons_succ]))
  try simp only [Act.put, List.setIfInBounds_toArray, List.set_cons_zero, List.set_cons_succ]
  refine wpI_call (f := 15) rfl rfl rfl (by simp [go_sem]; rfl) ?_
  refine (CN.out _ (HA.out.below B10 (Nat.le_refl _))).mono ?_
  rintro e w12 ⟨pn, cn, rfl, vn, hb⟩
  have VN := Lib.hid vn
  clear vn
  refine ⟨_, rfl, hb, ?_⟩
  skip
  have hk : Below (w11).heap.size (w11) w12 := hb
  have s12 : w.heap.size ≤ w12.heap.size := Nat.le_trans B10.size hk.size
  have q12 : w11.heap.size + 0 ≤ w12.heap.size := by have z := hk.size; (try simp only [World.size_alloc, World.size_setCell] at z); omega
  have B12 : Below w.heap.size w w12 := bcall B10 hk B10.size
  replace XA := XA.below hk XA.lt
  replace XB := XB.below hk XB.lt
  replace T5 := T5.below hk T5.lt
  replace T6 := T6.below hk T6.lt
  replace T8 := T8.below hk T8.lt
  replace VX := Lib.hid (VX.out.below hk (Nat.le_refl _))
  replace T9 := T9.below hk T9.lt
  clear B10 hk hb
  clear XA_0 XA_1 XA_2 XA_3 XA_l XB_0 XB_1 XB_2 XB_3 XB_l T5_0 T5_1 T5_f0 T5_f1 T5_l T6_0 T6_1 T6_f0 T6_f1 T6_l T8_0 T8_1 T8_f0 T8_f1 T8_l T9_0 T9_1 T9_2 T9_3 T9_l
  have XA_0 := XA.c 0 _ rfl
  have XA_1 := XA.c 1 _ rfl
  have XA_2 := XA.c 2 _ rfl
  have XA_3 := XA.c 3 _ rfl
  have XA_l := XA.lt
  have XB_0 := XB.c 0 _ rfl
  have XB_1 := XB.c 1 _ rfl
  have XB_2 := XB.c 2 _ rfl
  have XB_3 := XB.c 3 _ rfl
  have XB_l := XB.lt
  obtain ⟨T5_0, T5_1, T5_f0, T5_f1, T5_l⟩ := id T5
  obtain ⟨T6_0, T6_1, T6_f0, T6_f1, T6_l⟩ := id T6
  obtain ⟨T8_0, T8_1, T8_f0, T8_f1, T8_l⟩ := id T8
  have T9_0 := T9.c 0 _ rfl
  have T9_1 := T9.c 1 _ rfl
  have T9_2 := T9.c 2 _ rfl
  have T9_3 := T9.c 3 _ rfl
  have T9_l := T9.lt
  try simp only [Act.put, List.setIfInBounds_toArray, List.set_cons_zero, List.set_cons_succ]
  refine wpI_call (f := 17) rfl rfl rfl (by simp [go_sem]; rfl) ?_
  refine (CS.out _ _ _ _ _ VX.out VN.out).mono ?_
  rintro e w13 ⟨rfl, hb⟩
  clear VN
  refine ⟨_, rfl, hb, ?_⟩
  skip
  have hk : Below (w12).heap.size (w12) w13 := hb
  have s13 : w.heap.size ≤ w13.heap.size := Nat.le_trans B12.size hk.size
  have q13 : w12.heap.size + 0 ≤ w13.heap.size := by have z := hk.size; (try simp only [World.size_alloc, World.size_setCell] at z); omega
  have B13 : Below w.heap.size w w13 := bcall B12 hk B12.size
  replace XA := XA.below hk XA.lt
  replace XB := XB.below hk XB.lt
  replace T5 := T5.below hk T5.lt
  replace T6 := T6.below hk T6.lt
  replace T8 := T8.below hk T8.lt
  replace VX := Lib.hid (VX.out.below hk (Nat.le_refl _))
  replace T9 := T9.below hk T9.lt
  clear B12 hk hb
  clear XA_0 XA_1 XA_2 XA_3 XA_l XB_0 XB_1 XB_2 XB_3 XB_l T5_0 T5_1 T5_f0 T5_f1 T5_l T6_0 T6_1 T6_f0 T6_f1 T6_l T8_0 T8_1 T8_f0 T8_f1 T8_l T9_0 T9_1 T9_2 T9_3 T9_l
  have XA_0 := XA.c 0 _ rfl
  have XA_1 := XA.c 1 _ rfl
  have XA_2 := XA.c 2 _ rfl
  have XA_3 := XA.c 3 _ rfl
  have XA_l := XA.lt
  have XB_0 := XB.c 0 _ rfl
  have XB_1 := XB.c 1 _ rfl
  have XB_2 := XB.c 2 _ rfl
  have XB_3 := XB.c 3 _ rfl
  have XB_l := XB.lt
  obtain ⟨T5_0, T5_1, T5_f0, T5_f1, T5_l⟩ := id T5
  obtain ⟨T6_0, T6_1, T6_f0, T6_f1, T6_l⟩ := id T6
  obtain ⟨T8_0, T8_1, T8_f0, T8_f1, T8_l⟩ := id T8
  have T9_0 := T9.c 0 _ rfl
  have T9_1 := T9.c 1 _ rfl
  have T9_2 := T9.c 2 _ rfl
  have T9_3 := T9.c 3 _ rfl
  have T9_l := T9.lt
  try simp only [Act.put, List.setIfInBounds_toArray, List.set_cons_zero, List.set_cons_succ]
  repeat (first | (refine wpI_rd rfl rfl ?_; go_big_quiet_step (fail); refine wpQuiet_nil ?_) | (refine wpI_skip rfl rfl ?_; try simp only [Act.put, List.setIfInBounds_toArray, List.set_cons_zero, List.set_cons_succ]))
  try simp only [Act.put, List.setIfInBounds_toArray, List.set_cons_zero, List.set_cons_succ]
  refine wpI_nil ?_
  try simp only [Act.put, List.setIfInBounds_toArray, List.set_cons_zero, List.set_cons_succ]
  go_wp2_with fail
  go_ret
  exact ⟨rfl, B13⟩
set_option maxRecDepth 100000 in
set_option maxHeartbeats 4000000 in
theorem vms_Bf (a b : Pl.Ver) (pa pb : Option Addr) (ca cb : Nat) (w : World) (E : Env w) (ha : VIn w a pa ca) (hb : VIn w b pb cb) (oka : a.Ok) (g1 g2 : Int) (hg : g1 ≠ 0) (eb : Pl.vrF b = (g1, g2)) (h1 h2 : Int) (hh : h1 ≠ 0) (eh : Pl.vrF (Pl.verNext a) = (h1, h2)) :
    Calls Tryd.prog 3 #[verV a pa ca, verV b pb cb] w fun e w' => e = .returned (.bool true) ∧ Below w.heap.size w w' := by
  have HE := Lib.hid E
  have HA := Lib.hid ha
  have HB := Lib.hid hb
  have ea := Pl.vrF_ok oka
  have u3 := bneT hg
  have u4 := beqF hg
  have u5 := bneT hh
  have u6 := beqF hh
  have CA := Lib.hid (fun (W : World) (h : VIn W a pa ca) => VersionFault_any a pa ca W h)
  rw [ea] at CA
  have VA := Lib.hid (fun (W : World) (h : VIn W a pa ca) => Validate_any a pa ca W h)
  rw [ea] at VA
  have CB := Lib.hid (fun (W : World) (h : VIn W b pb cb) => VersionFault_any b pb cb W h)
  rw [eb] at CB
  have ec : Pl.cmpF a b = (g1, -2) := by unfold Pl.cmpF; rw [if_neg (by rw [ea]; decide), if_pos (by rw [eb]; exact hg), eb]
  have ev : Pl.cmpV a b = 0 := by unfold Pl.cmpV; rw [ec, if_pos (by exact hg)]
  have CC := Lib.hid (fun (W : World) (h : VIn W a pa ca) (h2 : VIn W b pb cb) => verCompare_any a b pa pb ca cb W h h2)
  rw [ec, ev] at CC
  have en : Pl.nextF a = (10, -1) := by unfold Pl.nextF; rw [if_neg (by rw [ea]; decide), if_pos (by rw [eh]; exact hh)]
  have em : Pl.nextV a = Pl.Ver.zero := by unfold Pl.nextV; rw [en, if_pos (by decide)]
  obtain ⟨n, hn⟩ : ∃ n, Pl.verNext a = n := ⟨_, rfl⟩
  rw [hn] at eh
  have CN := Lib.hid (fun (W : World) (h : VIn W a pa ca) => VersionNext_any a pa ca W h oka)
  rw [hn] at CN
  have CH := Lib.hid (fun (W : World) (p : Option Addr) (c : Nat) (h : VIn W n p c) => VersionFault_any n p c W h)
  rw [eh] at CH
  clear hn eh
  have CX := Lib.hid (fun (W : World) (h : VIn W a pa ca) => Next_any a pa ca W h)
  rw [en, em] at CX
  have CS := Lib.hid (fun (W : World) (p q : Option Addr) (c d : Nat) (h : VIn W Pl.Ver.zero p c) (h2 : VIn W Pl.Ver.zero q d) => SameVersion_any Pl.Ver.zero Pl.Ver.zero p q c d W h h2)
  rw [Pl.sameB_iff.2 rfl] at CS
  simp only [fltV] at CA VA CB CC CH
  delta RVerF at CX
  simp only [fltV] at CX
  delta RVer at CN
  clear E ha hb ea ec ev en em eb
  go_enter Tryd.func3, Tryd.ntmps3
  have B0 : Below w.heap.size w w := Below.refl _ _
  go_wp2_with fail
  replace B0 := (B0.alloc B0.size (.cells #[.int .i64 a.maj, .int .i64 a.min, .int .i64 a.pat, .slice pa a.pre.length ca] 24))
  have XA : Blk ((w).alloc (.cells #[.int .i64 a.maj, .int .i64 a.min, .int .i64 a.pat, .slice pa a.pre.length ca] 24)) (w.heap.size) [.int .i64 a.maj, .int .i64 a.min, .int .i64 a.pat, .slice pa a.pre.length ca] := Blk.new (w) [.int .i64 a.maj, .int .i64 a.min, .int .i64 a.pat, .slice pa a.pre.length ca] 24 (g := w.heap.size) (by simp)
  replace B0 := (B0.alloc B0.size (.cells #[.int .i64 b.maj, .int .i64 b.min, .int .i64 b.pat, .slice pb b.pre.length cb] 24))
  replace XA := (XA.alloc (.cells #[.int .i64 b.maj, .int .i64 b.min, .int .i64 b.pat, .slice pb b.pre.length cb] 24))
  have XB : Blk (((w).alloc (.cells #[.int .i64 a.maj, .int .i64 a.min, .int .i64 a.pat, .slice pa a.pre.length ca] 24)).alloc (.cells #[.int .i64 b.maj, .int .i64 b.min, .int .i64 b.pat, .slice pb b.pre.length cb] 24)) (w.heap.size + 1) [.int .i64 b.maj, .int .i64 b.min, .int .i64 b.pat, .slice pb b.pre.length cb] := Blk.new ((w).alloc (.cells #[.int .i64 a.maj, .int .i64 a.min, .int .i64 a.pat, .slice pa a.pre.length ca] 24)) [.int .i64 b.maj, .int .i64 b.min, .int .i64 b.pat, .slice pb b.pre.length cb] 24 (g := w.heap.size + 1) (by simp)
  refine (orders_any _ (HE.out.below B0 (Nat.le_refl _))).mono ?_
  rintro e w1 ⟨rfl, hb⟩
  have hk : Below (((w).alloc (.cells #[.int .i64 a.maj, .int .i64 a.min, .int .i64 a.pat, .slice pa a.pre.length ca] 24)).alloc (.cells #[.int .i64 b.maj, .int .i64 b.min, .int .i64 b.pat, .slice pb b.pre.length cb] 24)).heap.size (((w).alloc (.cells #[.int .i64 a.maj, .int .i64 a.min, .int .i64 a.pat, .slice pa a.pre.length ca] 24)).alloc (.cells #[.int .i64 b.maj, .int .i64 b.min, .int .i64 b.pat, .slice pb b.pre.length cb] 24)) w1 := hb
  have s1 : w.heap.size ≤ w1.heap.size := Nat.le_trans B0.size hk.size
  have q1 : w.heap.size + 2 ≤ w1.heap.size := by have z := hk.size; (try simp only [World.size_alloc] at z); omega
  have B1 : Below w.heap.size w w1 := bcall B0 hk B0.size
  replace XA := XA.below hk XA.lt
  replace XB := XB.below hk XB.lt
  clear B0 hk hb
  have XA_0 := XA.c 0 _ rfl
  have XA_1 := XA.c 1 _ rfl
  have XA_2 := XA.c 2 _ rfl
  have XA_3 := XA.c 3 _ rfl
  have XA_l := XA.lt
  have XB_0 := XB.c 0 _ rfl
  have XB_1 := XB.c 1 _ rfl
  have XB_2 := XB.c 2 _ rfl
  have XB_3 := XB.c 3 _ rfl
  have XB_l := XB.lt
  go_wp2_with fail
  refine (CA.out _ (HA.out.below B1 (Nat.le_refl _))).mono ?_
  rintro e w2 ⟨rfl, hb⟩
  have hk : Below (w1).heap.size (w1) w2 := hb
  have s2 : w.heap.size ≤ w2.heap.size := Nat.le_trans B1.size hk.size
  have q2 : w1.heap.size + 0 ≤ w2.heap.size := by have z := hk.size; (try simp only [World.size_alloc, World.size_setCell] at z); omega
  have B2 : Below w.heap.size w w2 := bcall B1 hk B1.size
  replace XA := XA.below hk XA.lt
  replace XB := XB.below hk XB.lt
  clear B1 hk hb
  clear XA_0 XA_1 XA_2 XA_3 XA_l XB_0 XB_1 XB_2 XB_3 XB_l
  have XA_0 := XA.c 0 _ rfl
  have XA_1 := XA.c 1 _ rfl
  have XA_2 := XA.c 2 _ rfl
  have XA_3 := XA.c 3 _ rfl
  have XA_l := XA.lt
  have XB_0 := XB.c 0 _ rfl
  have XB_1 := XB.c 1 _ rfl
  have XB_2 := XB.c 2 _ rfl
  have XB_3 := XB.c 3 _ rfl
  have XB_l := XB.lt
  go_wp2_with fail
  refine wp_region_ord [0, 2, 1, 3] (by kernel_rfl) (by kernel_rfl) ?_
  replace B2 := (B2.alloc B2.size (.cells #[.int .i64 0, .int .i64 0] 27))
  replace XA := (XA.alloc (.cells #[.int .i64 0, .int .i64 0] 27))
  replace XB := (XB.alloc (.cells #[.int .i64 0, .int .i64 0] 27))
  have T5 : Box2 ((w2).alloc (.cells #[.int .i64 0, .int .i64 0] 27)) (w2.heap.size) (.int .i64 0) (.int .i64 0) := Box2.newAt (w := w2) (r := w2.heap.size) (x := .int .i64 0) (y := .int .i64 0) (t := 27) (by simp)
  have q3 : w2.heap.size + 1 ≤ ((w2).alloc (.cells #[.int .i64 0, .int .i64 0] 27)).drew.heap.size := by simp only [World.size_alloc, World.size_drew]; omega
  replace B2 := B2.drew
  replace XA := XA.drew
  replace XB := XB.drew
  replace T5 := T5.drew
  clear XA_0 XA_1 XA_2 XA_3 XA_l XB_0 XB_1 XB_2 XB_3 XB_l
  generalize ((w2).alloc (.cells #[.int .i64 0, .int .i64 0] 27)).drew = w3 at *
  have s3 : w.heap.size ≤ w3.heap.size := B2.size
  have XA_0 := XA.c 0 _ rfl
  have XA_1 := XA.c 1 _ rfl
  have XA_2 := XA.c 2 _ rfl
  have XA_3 := XA.c 3 _ rfl
  have XA_l := XA.lt
  have XB_0 := XB.c 0 _ rfl
  have XB_1 := XB.c 1 _ rfl
  have XB_2 := XB.c 2 _ rfl
  have XB_3 := XB.c 3 _ rfl
  have XB_l := XB.lt
  obtain ⟨T5_0, T5_1, T5_f0, T5_f1, T5_l⟩ := id T5
  repeat (first | (refine wpI_rd rfl rfl ?_; go_big_quiet_step (fail); refine wpQuiet_nil ?_) | (refine wpI_skip rfl rfl ?_; try simp only [Act.put, List.setIfInBounds_toArray, List.set_cons_zero, List.set_cons_succ]))
  try simp only [Act.put, List.setIfInBounds_toArray, List.set_cons_zero, List.set_cons_succ]
  refine wpI_call (f := 11) rfl rfl rfl (by simp [go_sem]; rfl) ?_
  refine (VA.out _ (HA.out.below B2 (Nat.le_refl _))).mono ?_
  rintro e w4 ⟨rfl, hb⟩
  refine ⟨_, rfl, hb, ?_⟩
  skip
  have hk : Below (w3).heap.size (w3) w4 := hb
  have s4 : w.heap.size ≤ w4.heap.size := Nat.le_trans B2.size hk.size
  have q4 : w3.heap.size + 0 ≤ w4.heap.size := by have z := hk.size; (try simp only [World.size_alloc, World.size_setCell] at z); omega
  have B4 : Below w.heap.size w w4 := bcall B2 hk B2.size
  replace XA := XA.below hk XA.lt
  replace XB := XB.below hk XB.lt
  replace T5 := T5.below hk T5.lt
  clear B2 hk hb
  clear XA_0 XA_1 XA_2 XA_3 XA_l XB_0 XB_1 XB_2 XB_3 XB_l T5_0 T5_1 T5_f0 T5_f1 T5_l
  have XA_0 := XA.c 0 _ rfl
  have XA_1 := XA.c 1 _ rfl
  have XA_2 := XA.c 2 _ rfl
  have XA_3 := XA.c 3 _ rfl
  have XA_l := XA.lt
  have XB_0 := XB.c 0 _ rfl
  have XB_1 := XB.c 1 _ rfl
  have XB_2 := XB.c 2 _ rfl
  have XB_3 := XB.c 3 _ rfl
  have XB_l := XB.lt
  obtain ⟨T5_0, T5_1, T5_f0, T5_f1, T5_l⟩ := id T5
  try simp only [Act.put, List.setIfInBounds_toArray, List.set_cons_zero, List.set_cons_succ]
  repeat (first | (refine wpI_rd rfl rfl ?_; go_big_quiet_step (fail); refine wpQuiet_nil ?_) | (refine wpI_skip rfl rfl ?_; try simp only [Act.put, List.setIfInBounds_toArray, List.set_cons_zero, List.set_cons_succ]))
  try simp only [Act.put, List.setIfInBounds_toArray, List.set_cons_zero, List.set_cons_succ]
  refine wpI_nil ?_
  try simp only [Act.put, List.setIfInBounds_toArray, List.set_cons_zero, List.set_cons_succ]
  go_wp2_with fail
  replace B4 := (B4.alloc B4.size (.cells #[.int .i64 0, .int .i64 0] 27))
  replace XA := (XA.alloc (.cells #[.int .i64 0, .int .i64 0] 27))
  replace XB := (XB.alloc (.cells #[.int .i64 0, .int .i64 0] 27))
  replace T5 := (T5.alloc (.cells #[.int .i64 0, .int .i64 0] 27))
  have T6 : Box2 ((w4).alloc (.cells #[.int .i64 0, .int .i64 0] 27)) (w4.heap.size) (.int .i64 0) (.int .i64 0) := Box2.newAt (w := w4) (r := w4.heap.size) (x := .int .i64 0) (y := .int .i64 0) (t := 27) (by simp)
  refine (CB.out _ (HB.out.below B4 (Nat.le_refl _))).mono ?_
  rintro e w5 ⟨rfl, hb⟩
  have hk : Below ((w4).alloc (.cells #[.int .i64 0, .int .i64 0] 27)).heap.size ((w4).alloc (.cells #[.int .i64 0, .int .i64 0] 27)) w5 := hb
  have s5 : w.heap.size ≤ w5.heap.size := Nat.le_trans B4.size hk.size
  have q5 : w4.heap.size + 1 ≤ w5.heap.size := by have z := hk.size; (try simp only [World.size_alloc] at z); omega
  have B5 : Below w.heap.size w w5 := bcall B4 hk B4.size
  replace XA := XA.below hk XA.lt
  replace XB := XB.below hk XB.lt
  replace T5 := T5.below hk T5.lt
  replace T6 := T6.below hk T6.lt
  clear B4 hk hb
  clear XA_0 XA_1 XA_2 XA_3 XA_l XB_0 XB_1 XB_2 XB_3 XB_l T5_0 T5_1 T5_f0 T5_f1 T5_l
  have XA_0 := XA.c 0 _ rfl
  have XA_1 := XA.c 1 _ rfl
  have XA_2 := XA.c 2 _ rfl
  have XA_3 := XA.c 3 _ rfl
  have XA_l := XA.lt
  have XB_0 := XB.c 0 _ rfl
  have XB_1 := XB.c 1 _ rfl
  have XB_2 := XB.c 2 _ rfl
  have XB_3 := XB.c 3 _ rfl
  have XB_l := XB.lt
  obtain ⟨T5_0, T5_1, T5_f0, T5_f1, T5_l⟩ := id T5
  obtain ⟨T6_0, T6_1, T6_f0, T6_f1, T6_l⟩ := id T6
  go_wp2_with fail
  refine (CB.out _ (HB.out.below B5 (Nat.le_refl _))).mono ?_
  rintro e w6 ⟨rfl, hb⟩
  have hk : Below (w5).heap.size (w5) w6 := hb
  have s6 : w.heap.size ≤ w6.heap.size := Nat.le_trans B5.size hk.size
  have q6 : w5.heap.size + 0 ≤ w6.heap.size := by have z := hk.size; (try simp only [World.size_alloc, World.size_setCell] at z); omega
  have B6 : Below w.heap.size w w6 := bcall B5 hk B5.size
  replace XA := XA.below hk XA.lt
  replace XB := XB.below hk XB.lt
  replace T5 := T5.below hk T5.lt
  replace T6 := T6.below hk T6.lt
  clear B5 hk hb
  clear XA_0 XA_1 XA_2 XA_3 XA_l XB_0 XB_1 XB_2 XB_3 XB_l T5_0 T5_1 T5_f0 T5_f1 T5_l T6_0 T6_1 T6_f0 T6_f1 T6_l
  have XA_0 := XA.c 0 _ rfl
  have XA_1 := XA.c 1 _ rfl
  have XA_2 := XA.c 2 _ rfl
  have XA_3 := XA.c 3 _ rfl
  have XA_l := XA.lt
  have XB_0 := XB.c 0 _ rfl
  have XB_1 := XB.c 1 _ rfl
  have XB_2 := XB.c 2 _ rfl
  have XB_3 := XB.c 3 _ rfl
  have XB_l := XB.lt
  obtain ⟨T5_0, T5_1, T5_f0, T5_f1, T5_l⟩ := id T5
  obtain ⟨T6_0, T6_1, T6_f0, T6_f1, T6_l⟩ := id T6
  go_wp2_with (go_at_call 12; refine (lfault_at _ _ _).mono ?_; rintro e w' ⟨rfl, rfl⟩)
  replace B6 := (B6.setCell (p := ⟨w4.heap.size, 0, none⟩) (by dsimp only; omega) (.int .i64 g1))
  replace XA := (XA.far (a := ⟨w4.heap.size, 0, none⟩) (by dsimp only; omega) (.int .i64 g1))
  replace XB := (XB.far (a := ⟨w4.heap.size, 0, none⟩) (by dsimp only; omega) (.int .i64 g1))
  replace T5 := (T5.far (a := ⟨w4.heap.size, 0, none⟩) (by dsimp only; omega) (.int .i64 g1))
  replace B6 := (B6.setCell (p := ⟨w4.heap.size, 1, none⟩) (by dsimp only; omega) (.int .i64 (-2)))
  replace XA := (XA.far (a := ⟨w4.heap.size, 1, none⟩) (by dsimp only; omega) (.int .i64 (-2)))
  replace XB := (XB.far (a := ⟨w4.heap.size, 1, none⟩) (by dsimp only; omega) (.int .i64 (-2)))
  replace T5 := (T5.far (a := ⟨w4.heap.size, 1, none⟩) (by dsimp only; omega) (.int .i64 (-2)))
  replace T6 := (T6.set (.int .i64 g1) (.int .i64 (-2)))
  replace B6 := (B6.alloc B6.size (.cells #[.int .i64 g1, .int .i64 (-2)] 27))
  replace XA := (XA.alloc (.cells #[.int .i64 g1, .int .i64 (-2)] 27))
  replace XB := (XB.alloc (.cells #[.int .i64 g1, .int .i64 (-2)] 27))
  replace T5 := (T5.alloc (.cells #[.int .i64 g1, .int .i64 (-2)] 27))
  replace T6 := (T6.alloc (.cells #[.int .i64 g1, .int .i64 (-2)] 27))
  refine (CC.out _ (HA.out.below B6 (Nat.le_refl _)) (HB.out.below B6 (Nat.le_refl _))).mono ?_
  rintro e w7 ⟨rfl, hb⟩
  have hk : Below ((((w6).setCell ⟨w4.heap.size, 0, none⟩ (.int .i64 g1)).setCell ⟨w4.heap.size, 1, none⟩ (.int .i64 (-2))).alloc (.cells #[.int .i64 g1, .int .i64 (-2)] 27)).heap.size ((((w6).setCell ⟨w4.heap.size, 0, none⟩ (.int .i64 g1)).setCell ⟨w4.heap.size, 1, none⟩ (.int .i64 (-2))).alloc (.cells #[.int .i64 g1, .int .i64 (-2)] 27)) w7 := hb
  have s7 : w.heap.size ≤ w7.heap.size := Nat.le_trans B6.size hk.size
  have q7 : w6.heap.size + 1 ≤ w7.heap.size := by have z := hk.size; (try simp only [World.size_alloc, World.size_setCell] at z); omega
  have B7 : Below w.heap.size w w7 := bcall B6 hk B6.size
  replace XA := XA.below hk XA.lt
  replace XB := XB.below hk XB.lt
  replace T5 := T5.below hk T5.lt
  replace T6 := T6.below hk T6.lt
  clear B6 hk hb
  clear XA_0 XA_1 XA_2 XA_3 XA_l XB_0 XB_1 XB_2 XB_3 XB_l T5_0 T5_1 T5_f0 T5_f1 T5_l T6_0 T6_1 T6_f0 T6_f1 T6_l
  have XA_0 := XA.c 0 _ rfl
  have XA_1 := XA.c 1 _ rfl
  have XA_2 := XA.c 2 _ rfl
  have XA_3 := XA.c 3 _ rfl
  have XA_l := XA.lt
  have XB_0 := XB.c 0 _ rfl
  have XB_1 := XB.c 1 _ rfl
  have XB_2 := XB.c 2 _ rfl
  have XB_3 := XB.c 3 _ rfl
  have XB_l := XB.lt
  obtain ⟨T5_0, T5_1, T5_f0, T5_f1, T5_l⟩ := id T5
  obtain ⟨T6_0, T6_1, T6_f0, T6_f1, T6_l⟩ := id T6
  go_wp2_with fail
  replace B7 := (B7.setCell (p := ⟨w4.heap.size, 0, none⟩) (by dsimp only; omega) (.int .i64 0))
  replace XA := (XA.far (a := ⟨w4.heap.size, 0, none⟩) (by dsimp only; omega) (.int .i64 0))
  replace XB := (XB.far (a := ⟨w4.heap.size, 0, none⟩) (by dsimp only; omega) (.int .i64 0))
  replace T5 := (T5.far (a := ⟨w4.heap.size, 0, none⟩) (by dsimp only; omega) (.int .i64 0))
  replace B7 := (B7.setCell (p := ⟨w4.heap.size, 1, none⟩) (by dsimp only; omega) (.int .i64 0))
  replace XA := (XA.far (a := ⟨w4.heap.size, 1, none⟩) (by dsimp only; omega) (.int .i64 0))
  replace XB := (XB.far (a := ⟨w4.heap.size, 1, none⟩) (by dsimp only; omega) (.int .i64 0))
  replace T5 := (T5.far (a := ⟨w4.heap.size, 1, none⟩) (by dsimp only; omega) (.int .i64 0))
  replace T6 := (T6.set (.int .i64 0) (.int .i64 0))
  replace B7 := (B7.alloc B7.size (.cells #[.int .i64 g1, .int .i64 (-2)] 27))
  replace XA := (XA.alloc (.cells #[.int .i64 g1, .int .i64 (-2)] 27))
  replace XB := (XB.alloc (.cells #[.int .i64 g1, .int .i64 (-2)] 27))
  replace T5 := (T5.alloc (.cells #[.int .i64 g1, .int .i64 (-2)] 27))
  replace T6 := (T6.alloc (.cells #[.int .i64 g1, .int .i64 (-2)] 27))
  have T8 : Box2 ((((w7).setCell ⟨w4.heap.size, 0, none⟩ (.int .i64 0)).setCell ⟨w4.heap.size, 1, none⟩ (.int .i64 0)).alloc (.cells #[.int .i64 g1, .int .i64 (-2)] 27)) (w7.heap.size) (.int .i64 g1) (.int .i64 (-2)) := Box2.newAt (w := ((w7).setCell ⟨w4.heap.size, 0, none⟩ (.int .i64 0)).setCell ⟨w4.heap.size, 1, none⟩ (.int .i64 0)) (r := w7.heap.size) (x := .int .i64 g1) (y := .int .i64 (-2)) (t := 27) (by simp)
  refine (CN.out _ (HA.out.below B7 (Nat.le_refl _))).mono ?_
  rintro e w8 ⟨pn, cn, rfl, vn, hb⟩
  have VN := Lib.hid vn
  clear vn
  have hk : Below ((((w7).setCell ⟨w4.heap.size, 0, none⟩ (.int .i64 0)).setCell ⟨w4.heap.size, 1, none⟩ (.int .i64 0)).alloc (.cells #[.int .i64 g1, .int .i64 (-2)] 27)).heap.size ((((w7).setCell ⟨w4.heap.size, 0, none⟩ (.int .i64 0)).setCell ⟨w4.heap.size, 1, none⟩ (.int .i64 0)).alloc (.cells #[.int .i64 g1, .int .i64 (-2)] 27)) w8 := hb
  have s8 : w.heap.size ≤ w8.heap.size := Nat.le_trans B7.size hk.size
  have q8 : w7.heap.size + 1 ≤ w8.heap.size := by have z := hk.size; (try simp only [World.size_alloc, World.size_setCell] at z); omega
  have B8 : Below w.heap.size w w8 := bcall B7 hk B7.size
  replace XA := XA.below hk XA.lt
  replace XB := XB.below hk XB.lt
  replace T5 := T5.below hk T5.lt
  replace T6 := T6.below hk T6.lt
  replace T8 := T8.below hk T8.lt
  clear B7 hk hb
  clear XA_0 XA_1 XA_2 XA_3 XA_l XB_0 XB_1 XB_2 XB_3 XB_l T5_0 T5_1 T5_f0 T5_f1 T5_l T6_0 T6_1 T6_f0 T6_f1 T6_l
  have XA_0 := XA.c 0 _ rfl
  have XA_1 := XA.c 1 _ rfl
  have XA_2 := XA.c 2 _ rfl
  have XA_3 := XA.c 3 _ rfl
  have XA_l := XA.lt
  have XB_0 := XB.c 0 _ rfl
  have XB_1 := XB.c 1 _ rfl
  have XB_2 := XB.c 2 _ rfl
  have XB_3 := XB.c 3 _ rfl
  have XB_l := XB.lt
  obtain ⟨T5_0, T5_1, T5_f0, T5_f1, T5_l⟩ := id T5
  obtain ⟨T6_0, T6_1, T6_f0, T6_f1, T6_l⟩ := id T6
  obtain ⟨T8_0, T8_1, T8_f0, T8_f1, T8_l⟩ := id T8
  go_wp2_with fail
  refine (CH.out _ _ _ VN.out).mono ?_
  rintro e w9 ⟨rfl, hb⟩
  clear VN
  have hk : Below (w8).heap.size (w8) w9 := hb
  have s9 : w.heap.size ≤ w9.heap.size := Nat.le_trans B8.size hk.size
  have q9 : w8.heap.size + 0 ≤ w9.heap.size := by have z := hk.size; (try simp only [World.size_alloc, World.size_setCell] at z); omega
  have B9 : Below w.heap.size w w9 := bcall B8 hk B8.size
  replace XA := XA.below hk XA.lt
  replace XB := XB.below hk XB.lt
  replace T5 := T5.below hk T5.lt
  replace T6 := T6.below hk T6.lt
  replace T8 := T8.below hk T8.lt
  clear B8 hk hb
  clear XA_0 XA_1 XA_2 XA_3 XA_l XB_0 XB_1 XB_2 XB_3 XB_l T5_0 T5_1 T5_f0 T5_f1 T5_l T6_0 T6_1 T6_f0 T6_f1 T6_l T8_0 T8_1 T8_f0 T8_f1 T8_l
  have XA_0 := XA.c 0 _ rfl
  have XA_1 := XA.c 1 _ rfl
  have XA_2 := XA.c 2 _ rfl
  have XA_3 := XA.c 3 _ rfl
  have XA_l := XA.lt
  have XB_0 := XB.c 0 _ rfl
  have XB_1 := XB.c 1 _ rfl
  have XB_2 := XB.c 2 _ rfl
  have XB_3 := XB.c 3 _ rfl
  have XB_l := XB.lt
  obtain ⟨T5_0, T5_1, T5_f0, T5_f1, T5_l⟩ := id T5
  obtain ⟨T6_0, T6_1, T6_f0, T6_f1, T6_l⟩ := id T6
  obtain ⟨T8_0, T8_1, T8_f0, T8_f1, T8_l⟩ := id T8
  go_wp2_with (go_at_call 12; refine (lfault_at _ _ _).mono ?_; rintro e w' ⟨rfl, rfl⟩)
  replace B9 := (B9.setCell (p := ⟨w4.heap.size, 0, none⟩) (by dsimp only; omega) (.int .i64 10))
  replace XA := (XA.far (a := ⟨w4.heap.size, 0, none⟩) (by dsimp only; omega) (.int .i64 10))
  replace XB := (XB.far (a := ⟨w4.heap.size, 0, none⟩) (by dsimp only; omega) (.int .i64 10))
  replace T5 := (T5.far (a := ⟨w4.heap.size, 0, none⟩) (by dsimp only; omega) (.int .i64 10))
  replace T8 := (T8.far (a := ⟨w4.heap.size, 0, none⟩) (by dsimp only; omega) (.int .i64 10))
  replace B9 := (B9.setCell (p := ⟨w4.heap.size, 1, none⟩) (by dsimp only; omega) (.int .i64 (-1)))
  replace XA := (XA.far (a := ⟨w4.heap.size, 1, none⟩) (by dsimp only; omega) (.int .i64 (-1)))
  replace XB := (XB.far (a := ⟨w4.heap.size, 1, none⟩) (by dsimp only; omega) (.int .i64 (-1)))
  replace T5 := (T5.far (a := ⟨w4.heap.size, 1, none⟩) (by dsimp only; omega) (.int .i64 (-1)))
  replace T8 := (T8.far (a := ⟨w4.heap.size, 1, none⟩) (by dsimp only; omega) (.int .i64 (-1)))
  replace T6 := (T6.set (.int .i64 10) (.int .i64 (-1)))
  replace B9 := (B9.alloc B9.size (.cells #[.int .i64 10, .int .i64 (-1)] 27))
  replace XA := (XA.alloc (.cells #[.int .i64 10, .int .i64 (-1)] 27))
  replace XB := (XB.alloc (.cells #[.int .i64 10, .int .i64 (-1)] 27))
  replace T5 := (T5.alloc (.cells #[.int .i64 10, .int .i64 (-1)] 27))
  replace T6 := (T6.alloc (.cells #[.int .i64 10, .int .i64 (-1)] 27))
  replace T8 := (T8.alloc (.cells #[.int .i64 10, .int .i64 (-1)] 27))
  refine (CX.out _ (HA.out.below B9 (Nat.le_refl _))).mono ?_
  rintro e w10 ⟨px, cx, rfl, vx, hb⟩
  have VX := Lib.hid vx
  clear vx
  have hk : Below ((((w9).setCell ⟨w4.heap.size, 0, none⟩ (.int .i64 10)).setCell ⟨w4.heap.size, 1, none⟩ (.int .i64 (-1))).alloc (.cells #[.int .i64 10, .int .i64 (-1)] 27)).heap.size ((((w9).setCell ⟨w4.heap.size, 0, none⟩ (.int .i64 10)).setCell ⟨w4.heap.size, 1, none⟩ (.int .i64 (-1))).alloc (.cells #[.int .i64 10, .int .i64 (-1)] 27)) w10 := hb
  have s10 : w.heap.size ≤ w10.heap.size := Nat.le_trans B9.size hk.size
  have q10 : w9.heap.size + 1 ≤ w10.heap.size := by have z := hk.size; (try simp only [World.size_alloc, World.size_setCell] at z); omega
  have B10 : Below w.heap.size w w10 := bcall B9 hk B9.size
  replace XA := XA.below hk XA.lt
  replace XB := XB.below hk XB.lt
  replace T5 := T5.below hk T5.lt
  replace T6 := T6.below hk T6.lt
  replace T8 := T8.below hk T8.lt
  clear B9 hk hb
  clear XA_0 XA_1 XA_2 XA_3 XA_l XB_0 XB_1 XB_2 XB_3 XB_l T5_0 T5_1 T5_f0 T5_f1 T5_l T6_0 T6_1 T6_f0 T6_f1 T6_l T8_0 T8_1 T8_f0 T8_f1 T8_l
  have XA_0 := XA.c 0 _ rfl
  have XA_1 := XA.c 1 _ rfl
  have XA_2 := XA.c 2 _ rfl
  have XA_3 := XA.c 3 _ rfl
  have XA_l := XA.lt
  have XB_0 := XB.c 0 _ rfl
  have XB_1 := XB.c 1 _ rfl
  have XB_2 := XB.c 2 _ rfl
  have XB_3 := XB.c 3 _ rfl
  have XB_l := XB.lt
  obtain ⟨T5_0, T5_1, T5_f0, T5_f1, T5_l⟩ := id T5
  obtain ⟨T6_0, T6_1, T6_f0, T6_f1, T6_l⟩ := id T6
  obtain ⟨T8_0, T8_1, T8_f0, T8_f1, T8_l⟩ := id T8
  go_wp2_with fail
  refine wp_region_ord [0, 1, 2, 3, 4, 5, 6, 7, 8, 9, 10, 11, 12, 13, 14, 15, 16, 17, 18, 19, 20, 21, 22, 23, 24] (by kernel_rfl) (by kernel_rfl) ?_
  replace VX := Lib.hid (VIn.setF VX.out T8 (.int .i64 10) (.int .i64 (-1)))
  replace B10 := (B10.setCell (p := ⟨w7.heap.size, 0, none⟩) (by dsimp only; omega) (.int .i64 10))
  replace XA := (XA.far (a := ⟨w7.heap.size, 0, none⟩) (by dsimp only; omega) (.int .i64 10))
  replace XB := (XB.far (a := ⟨w7.heap.size, 0, none⟩) (by dsimp only; omega) (.int .i64 10))
  replace T5 := (T5.far (a := ⟨w7.heap.size, 0, none⟩) (by dsimp only; omega) (.int .i64 10))
  replace T6 := (T6.far (a := ⟨w7.heap.size, 0, none⟩) (by dsimp only; omega) (.int .i64 10))
  replace B10 := (B10.setCell (p := ⟨w7.heap.size, 1, none⟩) (by dsimp only; omega) (.int .i64 (-1)))
  replace XA := (XA.far (a := ⟨w7.heap.size, 1, none⟩) (by dsimp only; omega) (.int .i64 (-1)))
  replace XB := (XB.far (a := ⟨w7.heap.size, 1, none⟩) (by dsimp only; omega) (.int .i64 (-1)))
  replace T5 := (T5.far (a := ⟨w7.heap.size, 1, none⟩) (by dsimp only; omega) (.int .i64 (-1)))
  replace T6 := (T6.far (a := ⟨w7.heap.size, 1, none⟩) (by dsimp only; omega) (.int .i64 (-1)))
  replace T8 := (T8.set (.int .i64 10) (.int .i64 (-1)))
  replace B10 := (B10.alloc B10.size (.cells #[.int .i64 Pl.Ver.zero.maj, .int .i64 Pl.Ver.zero.min, .int .i64 Pl.Ver.zero.pat, .slice px Pl.Ver.zero.pre.length cx] 24))
  replace XA := (XA.alloc (.cells #[.int .i64 Pl.Ver.zero.maj, .int .i64 Pl.Ver.zero.min, .int .i64 Pl.Ver.zero.pat, .slice px Pl.Ver.zero.pre.length cx] 24))
  replace XB := (XB.alloc (.cells #[.int .i64 Pl.Ver.zero.maj, .int .i64 Pl.Ver.zero.min, .int .i64 Pl.Ver.zero.pat, .slice px Pl.Ver.zero.pre.length cx] 24))
  replace T5 := (T5.alloc (.cells #[.int .i64 Pl.Ver.zero.maj, .int .i64 Pl.Ver.zero.min, .int .i64 Pl.Ver.zero.pat, .slice px Pl.Ver.zero.pre.length cx] 24))
  replace T6 := (T6.alloc (.cells #[.int .i64 Pl.Ver.zero.maj, .int .i64 Pl.Ver.zero.min, .int .i64 Pl.Ver.zero.pat, .slice px Pl.Ver.zero.pre.length cx] 24))
  replace T8 := (T8.alloc (.cells #[.int .i64 Pl.Ver.zero.maj, .int .i64 Pl.Ver.zero.min, .int .i64 Pl.Ver.zero.pat, .slice px Pl.Ver.zero.pre.length cx] 24))
  replace VX := Lib.hid (VX.out.below (B := (((w10).setCell ⟨w7.heap.size, 0, none⟩ (.int .i64 10)).setCell ⟨w7.heap.size, 1, none⟩ (.int .i64 (-1))).heap.size) (w' := (((w10).setCell ⟨w7.heap.size, 0, none⟩ (.int .i64 10)).setCell ⟨w7.heap.size, 1, none⟩ (.int .i64 (-1))).alloc (.cells #[.int .i64 Pl.Ver.zero.maj, .int .i64 Pl.Ver.zero.min, .int .i64 Pl.Ver.zero.pat, .slice px Pl.Ver.zero.pre.length cx] 24)) ((Below.refl _ _).alloc (Nat.le_refl _) _) (Nat.le_refl _))
  have T9 : Blk ((((w10).setCell ⟨w7.heap.size, 0, none⟩ (.int .i64 10)).setCell ⟨w7.heap.size, 1, none⟩ (.int .i64 (-1))).alloc (.cells #[.int .i64 Pl.Ver.zero.maj, .int .i64 Pl.Ver.zero.min, .int .i64 Pl.Ver.zero.pat, .slice px Pl.Ver.zero.pre.length cx] 24)) (w10.heap.size) [.int .i64 Pl.Ver.zero.maj, .int .i64 Pl.Ver.zero.min, .int .i64 Pl.Ver.zero.pat, .slice px Pl.Ver.zero.pre.length cx] := Blk.new (((w10).setCell ⟨w7.heap.size, 0, none⟩ (.int .i64 10)).setCell ⟨w7.heap.size, 1, none⟩ (.int .i64 (-1))) [.int .i64 Pl.Ver.zero.maj, .int .i64 Pl.Ver.zero.min, .int .i64 Pl.Ver.zero.pat, .slice px Pl.Ver.zero.pre.length cx] 24 (g := w10.heap.size) (by simp)
  have q11 : w10.heap.size + 1 ≤ ((((w10).setCell ⟨w7.heap.size, 0, none⟩ (.int .i64 10)).setCell ⟨w7.heap.size, 1, none⟩ (.int .i64 (-1))).alloc (.cells #[.int .i64 Pl.Ver.zero.maj, .int .i64 Pl.Ver.zero.min, .int .i64 Pl.Ver.zero.pat, .slice px Pl.Ver.zero.pre.length cx] 24)).drew.heap.size := by simp only [World.size_alloc, World.size_setCell, World.size_drew]; omega
  replace B10 := B10.drew
  replace XA := XA.drew
  replace XB := XB.drew
  replace T5 := T5.drew
  replace T6 := T6.drew
  replace T8 := T8.drew
  replace VX := Lib.hid (VX.out.below (B := ((((w10).setCell ⟨w7.heap.size, 0, none⟩ (.int .i64 10)).setCell ⟨w7.heap.size, 1, none⟩ (.int .i64 (-1))).alloc (.cells #[.int .i64 Pl.Ver.zero.maj, .int .i64 Pl.Ver.zero.min, .int .i64 Pl.Ver.zero.pat, .slice px Pl.Ver.zero.pre.length cx] 24)).heap.size) (w' := ((((w10).setCell ⟨w7.heap.size, 0, none⟩ (.int .i64 10)).setCell ⟨w7.heap.size, 1, none⟩ (.int .i64 (-1))).alloc (.cells #[.int .i64 Pl.Ver.zero.maj, .int .i64 Pl.Ver.zero.min, .int .i64 Pl.Ver.zero.pat, .slice px Pl.Ver.zero.pre.length cx] 24)).drew) (Below.refl _ _).drew (Nat.le_refl _))
  replace T9 := T9.drew
  clear XA_0 XA_1 XA_2 XA_3 XA_l XB_0 XB_1 XB_2 XB_3 XB_l T5_0 T5_1 T5_f0 T5_f1 T5_l T6_0 T6_1 T6_f0 T6_f1 T6_l T8_0 T8_1 T8_f0 T8_f1 T8_l
  generalize ((((w10).setCell ⟨w7.heap.size, 0, none⟩ (.int .i64 10)).setCell ⟨w7.heap.size, 1, none⟩ (.int .i64 (-1))).alloc (.cells #[.int .i64 Pl.Ver.zero.maj, .int .i64 Pl.Ver.zero.min, .int .i64 Pl.Ver.zero.pat, .slice px Pl.Ver.zero.pre.length cx] 24)).drew = w11 at *
  have s11 : w.heap.size ≤ w11.heap.size := B10.size
  have XA_0 := XA.c 0 _ rfl
  have XA_1 := XA.c 1 _ rfl
  have XA_2 := XA.c 2 _ rfl
  have XA_3 := XA.c 3 _ rfl
  have XA_l := XA.lt
  have XB_0 := XB.c 0 _ rfl
  have XB_1 := XB.c 1 _ rfl
  have XB_2 := XB.c 2 _ rfl
  have XB_3 := XB.c 3 _ rfl
  have XB_l := XB.lt
  obtain ⟨T5_0, T5_1, T5_f0, T5_f1, T5_l⟩ := id T5
  obtain ⟨T6_0, T6_1, T6_f0, T6_f1, T6_l⟩ := id T6
  obtain ⟨T8_0, T8_1, T8_f0, T8_f1, T8_l⟩ := id T8
  have T9_0 := T9.c 0 _ rfl
  have T9_1 := T9.c 1 _ rfl
  have T9_2 := T9.c 2 _ rfl
  have T9_3 := T9.c 3 _ rfl
  have T9_l := T9.lt
  repeat (first | (refine wpI_rd rfl rfl ?_; go_big_quiet_step (fail); refine wpQuiet_nil ?_) | (refine wpI_skip rfl rfl ?_; try simp only [Act.put, List.setIfInBounds_toArray, List.set_cons_zero, List.set_cons_succ]))
  try simp only [Act.put, List.setIfInBounds_toArray, List.set_cons_zero, List.set_cons_succ]
  refine wpI_call (f := 17) rfl rfl rfl (by simp [go_sem]; rfl) ?_
  refine (CS.out _ _ _ _ _ VX.out (VIn.zero _)).mono ?_
  rintro e w12 ⟨rfl, hb⟩
  refine ⟨_, rfl, hb, ?_⟩
  skip
  have hk : Below (w11).heap.size (w11) w12 := hb
  have s12 : w.heap.size ≤ w12.heap.size := Nat.le_trans B10.size hk.size
  have q12 : w11.heap.size + 0 ≤ w12.heap.size := by have z := hk.size; (try simp only [World.size_alloc, World.size_setCell] at z); omega
  have B12 : Below w.heap.size w w12 := bcall B10 hk B10.size
  replace XA := XA.below hk XA.lt
  replace XB := XB.below hk XB.lt
  replace T5 := T5.below hk T5.lt
  replace T6 := T6.below hk T6.lt
  replace T8 := T8.below hk T8.lt
  replace VX := Lib.hid (VX.out.below hk (Nat.le_refl _))
  replace T9 := T9.below hk T9.lt
  clear B10 hk hb
  clear XA_0 XA_1 XA_2 XA_3 XA_l XB_0 XB_1 XB_2 XB_3 XB_l T5_0 T5_1 T5_f0 T5_f1 T5_l T6_0 T6_1 T6_f0 T6_f1 T6_l T8_0 T8_1 T8_f0 T8_f1 T8_l T9_0 T9_1 T9_2 T9_3 T9_l
  have XA_0 := XA.c 0 _ rfl
  have XA_1 := XA.c 1 _ rfl
  have XA_2 := XA.c 2 _ rfl
  have XA_3 := XA.c 3 _ rfl
  have XA_l := XA.lt
  have XB_0 := XB.c 0 _ rfl
  have XB_1 := XB.c 1 _ rfl
  have XB_2 := XB.c 2 _ rfl
  have XB_3 := XB.c 3 _ rfl
  have XB_l := XB.lt
  obtain ⟨T5_0, T5_1, T5_f0, T5_f1, T5_l⟩ := id T5
  obtain ⟨T6_0, T6_1, T6_f0, T6_f1, T6_l⟩ := id T6
  obtain ⟨T8_0, T8_1, T8_f0, T8_f1, T8_l⟩ := id T8
  have T9_0 := T9.c 0 _ rfl
  have T9_1 := T9.c 1 _ rfl
  have T9_2 := T9.c 2 _ rfl
  have T9_3 := T9.c 3 _ rfl
  have T9_l := T9.lt
  try simp only [Act.put, List.setIfInBounds_toArray, List.set_cons_zero, List.set_cons_succ]
  repeat (first | (refine wpI_rd rfl rfl ?_; go_big_quiet_step (fail); refine wpQuiet_nil ?_) | (refine wpI_skip rfl rfl ?_; try simp only [Act.put, List.setIfInBounds_toArray, List.set_cons_zero, List.set_cons_succ]))
  try simp only [Act.put, List.setIfInBounds_toArray, List.set_cons_zero, List.set_cons_succ]
  refine wpI_nil ?_
  try simp only [Act.put, List.setIfInBounds_toArray, List.set_cons_zero, List.set_cons_succ]
  go_wp2_with fail
  go_ret
  exact ⟨rfl, B12⟩
set_option maxRecDepth 100000 in
set_option maxHeartbeats 4000000 in
theorem vms_Ct (a b : Pl.Ver) (pa pb : Option Addr) (ca cb : Nat) (w : World) (E : Env w) (ha : VIn w a pa ca) (hb : VIn w b pb cb) (oka : a.Ok) (okb : b.Ok) (eh : Pl.vrF (Pl.verNext a) = (0, 0)) :
    Calls Tryd.prog 3 #[verV a pa ca, verV b pb cb] w fun e w' => e = .returned (.bool true) ∧ Below w.heap.size w w' := by
  have HE := Lib.hid E
  have HA := Lib.hid ha
  have HB := Lib.hid hb
  have ea := Pl.vrF_ok oka
  have eb := Pl.vrF_ok okb
  have CA := Lib.hid (fun (W : World) (h : VIn W a pa ca) => VersionFault_any a pa ca W h)
  rw [ea] at CA
  have VA := Lib.hid (fun (W : World) (h : VIn W a pa ca) => Validate_any a pa ca W h)
  rw [ea] at VA
  have CB := Lib.hid (fun (W : World) (h : VIn W b pb cb) => VersionFault_any b pb cb W h)
  rw [eb] at CB
  have ec : Pl.cmpF a b = (0, 0) := by unfold Pl.cmpF; rw [if_neg (by rw [ea]; decide), if_neg (by rw [eb]; decide)]
  obtain ⟨k, hk0⟩ : ∃ k, Pl.verCmp a b = k := ⟨_, rfl⟩
  have ev : Pl.cmpV a b = k := by unfold Pl.cmpV; rw [ec, if_neg (by decide), hk0]
  have CC := Lib.hid (fun (W : World) (h : VIn W a pa ca) (h2 : VIn W b pb cb) => verCompare_any a b pa pb ca cb W h h2)
  rw [ec, ev] at CC
  have CO := Lib.hid (fun (W : World) (h : VIn W a pa ca) (h2 : VIn W b pb cb) => VersionOrder_any a b pa pb ca cb W (VOk.of h oka) (VOk.of h2 okb))
  rw [hk0] at CO
  clear hk0
  have en : Pl.nextF a = (0, 0) := by unfold Pl.nextF; rw [if_neg (by rw [ea]; decide), if_neg (by rw [eh]; decide)]
  have em : Pl.nextV a = Pl.verNext a := by unfold Pl.nextV; rw [en, if_neg (by decide)]
  obtain ⟨n, hn⟩ : ∃ n, Pl.verNext a = n := ⟨_, rfl⟩
  rw [hn] at eh em
  have CN := Lib.hid (fun (W : World) (h : VIn W a pa ca) => VersionNext_any a pa ca W h oka)
  rw [hn] at CN
  have CH := Lib.hid (fun (W : World) (p : Option Addr) (c : Nat) (h : VIn W n p c) => VersionFault_any n p c W h)
  rw [eh] at CH
  clear hn eh
  have CX := Lib.hid (fun (W : World) (h : VIn W a pa ca) => Next_any a pa ca W h)
  rw [en, em] at CX
  have CS := Lib.hid (fun (W : World) (p q : Option Addr) (c d : Nat) (h : VIn W n p c) (h2 : VIn W n q d) => SameVersion_any n n p q c d W h h2)
  rw [Pl.sameB_iff.2 rfl] at CS
  simp only [fltV] at CA VA CB CC CH
  delta RVerF at CX
  simp only [fltV] at CX
  delta RVer at CN
  clear E ha hb ea ec ev en em eb
  go_enter Tryd.func3, Tryd.ntmps3
  have B0 : Below w.heap.size w w := Below.refl _ _
  go_wp2_with fail
  replace B0 := (B0.alloc B0.size (.cells #[.int .i64 a.maj, .int .i64 a.min, .int .i64 a.pat, .slice pa a.pre.length ca] 24))
  have XA : Blk ((w).alloc (.cells #[.int .i64 a.maj, .int .i64 a.min, .int .i64 a.pat, .slice pa a.pre.length ca] 24)) (w.heap.size) [.int .i64 a.maj, .int .i64 a.min, .int .i64 a.pat, .slice pa a.pre.length ca] := Blk.new (w) [.int .i64 a.maj, .int .i64 a.min, .int .i64 a.pat, .slice pa a.pre.length ca] 24 (g := w.heap.size) (by simp)
  replace B0 := (B0.alloc B0.size (.cells #[.int .i64 b.maj, .int .i64 b.min, .int .i64 b.pat, .slice pb b.pre.length cb] 24))
  replace XA := (XA.alloc (.cells #[.int .i64 b.maj, .int .i64 b.min, .int .i64 b.pat, .slice pb b.pre.length cb] 24))
  have XB : Blk (((w).alloc (.cells #[.int .i64 a.maj, .int .i64 a.min, .int .i64 a.pat, .slice pa a.pre.length ca] 24)).alloc (.cells #[.int .i64 b.maj, .int .i64 b.min, .int .i64 b.pat, .slice pb b.pre.length cb] 24)) (w.heap.size + 1) [.int .i64 b.maj, .int .i64 b.min, .int .i64 b.pat, .slice pb b.pre.length cb] := Blk.new ((w).alloc (.cells #[.int .i64 a.maj, .int .i64 a.min, .int .i64 a.pat, .slice pa a.pre.length ca] 24)) [.int .i64 b.maj, .int .i64 b.min, .int .i64 b.pat, .slice pb b.pre.length cb] 24 (g := w.heap.size + 1) (by simp)
  refine (orders_any _ (HE.out.below B0 (Nat.le_refl _))).mono ?_
  rintro e w1 ⟨rfl, hb⟩
  have hk : Below (((w).alloc (.cells #[.int .i64 a.maj, .int .i64 a.min, .int .i64 a.pat, .slice pa a.pre.length ca] 24)).alloc (.cells #[.int .i64 b.maj, .int .i64 b.min, .int .i64 b.pat, .slice pb b.pre.length cb] 24)).heap.size (((w).alloc (.cells #[.int .i64 a.maj, .int .i64 a.min, .int .i64 a.pat, .slice pa a.pre.length ca] 24)).alloc (.cells #[.int .i64 b.maj, .int .i64 b.min, .int .i64 b.pat, .slice pb b.pre.length cb] 24)) w1 := hb
  have s1 : w.heap.size ≤ w1.heap.size := Nat.le_trans B0.size hk.size
  have q1 : w.heap.size + 2 ≤ w1.heap.size := by have z := hk.size; (try simp only [World.size_alloc] at z); omega
  have B1 : Below w.heap.size w w1 := bcall B0 hk B0.size
  replace XA := XA.below hk XA.lt
  replace XB := XB.below hk XB.lt
  clear B0 hk hb
  have XA_0 := XA.c 0 _ rfl
  have XA_1 := XA.c 1 _ rfl
  have XA_2 := XA.c 2 _ rfl
  have XA_3 := XA.c 3 _ rfl
  have XA_l := XA.lt
  have XB_0 := XB.c 0 _ rfl
  have XB_1 := XB.c 1 _ rfl
  have XB_2 := XB.c 2 _ rfl
  have XB_3 := XB.c 3 _ rfl
  have XB_l := XB.lt
  go_wp2_with fail
  refine (CA.out _ (HA.out.below B1 (Nat.le_refl _))).mono ?_
  rintro e w2 ⟨rfl, hb⟩
  have hk : Below (w1).heap.size (w1) w2 := hb
  have s2 : w.heap.size ≤ w2.heap.size := Nat.le_trans B1.size hk.size
  have q2 : w1.heap.size + 0 ≤ w2.heap.size := by have z := hk.size; (try simp only [World.size_alloc, World.size_setCell] at z); omega
  have B2 : Below w.heap.size w w2 := bcall B1 hk B1.size
  replace XA := XA.below hk XA.lt
  replace XB := XB.below hk XB.lt
  clear B1 hk hb
  clear XA_0 XA_1 XA_2 XA_3 XA_l XB_0 XB_1 XB_2 XB_3 XB_l
  have XA_0 := XA.c 0 _ rfl
  have XA_1 := XA.c 1 _ rfl
  have XA_2 := XA.c 2 _ rfl
  have XA_3 := XA.c 3 _ rfl
  have XA_l := XA.lt
  have XB_0 := XB.c 0 _ rfl
  have XB_1 := XB.c 1 _ rfl
  have XB_2 := XB.c 2 _ rfl
  have XB_3 := XB.c 3 _ rfl
  have XB_l := XB.lt
  go_wp2_with fail
  refine wp_region_ord [0, 2, 1, 3] (by kernel_rfl) (by kernel_rfl) ?_
  replace B2 := (B2.alloc B2.size (.cells #[.int .i64 0, .int .i64 0] 27))
  replace XA := (XA.alloc (.cells #[.int .i64 0, .int .i64 0] 27))
  replace XB := (XB.alloc (.cells #[.int .i64 0, .int .i64 0] 27))
  have T5 : Box2 ((w2).alloc (.cells #[.int .i64 0, .int .i64 0] 27)) (w2.heap.size) (.int .i64 0) (.int .i64 0) := Box2.newAt (w := w2) (r := w2.heap.size) (x := .int .i64 0) (y := .int .i64 0) (t := 27) (by simp)
  have q3 : w2.heap.size + 1 ≤ ((w2).alloc (.cells #[.int .i64 0, .int .i64 0] 27)).drew.heap.size := by simp only [World.size_alloc, World.size_drew]; omega
  replace B2 := B2.drew
  replace XA := XA.drew
  replace XB := XB.drew
  replace T5 := T5.drew
  clear XA_0 XA_1 XA_2 XA_3 XA_l XB_0 XB_1 XB_2 XB_3 XB_l
  generalize ((w2).alloc (.cells #[.int .i64 0, .int .i64 0] 27)).drew = w3 at *
  have s3 : w.heap.size ≤ w3.heap.size := B2.size
  have XA_0 := XA.c 0 _ rfl
  have XA_1 := XA.c 1 _ rfl
  have XA_2 := XA.c 2 _ rfl
  have XA_3 := XA.c 3 _ rfl
  have XA_l := XA.lt
  have XB_0 := XB.c 0 _ rfl
  have XB_1 := XB.c 1 _ rfl
  have XB_2 := XB.c 2 _ rfl
  have XB_3 := XB.c 3 _ rfl
  have XB_l := XB.lt
  obtain ⟨T5_0, T5_1, T5_f0, T5_f1, T5_l⟩ := id T5
  repeat (first | (refine wpI_rd rfl rfl ?_; go_big_quiet_step (fail); refine wpQuiet_nil ?_) | (refine wpI_skip rfl rfl ?_; try simp only [Act.put, List.setIfInBounds_toArray, List.set_cons_zero, List.set_cons_succ]))
  try simp only [Act.put, List.setIfInBounds_toArray, List.set_cons_zero, List.set_cons_succ]
  refine wpI_call (f := 11) rfl rfl rfl (by simp [go_sem]; rfl) ?_
  refine (VA.out _ (HA.out.below B2 (Nat.le_refl _))).mono ?_
  rintro e w4 ⟨rfl, hb⟩
  refine ⟨_, rfl, hb, ?_⟩
  skip
  have hk : Below (w3).heap.size (w3) w4 := hb
  have s4 : w.heap.size ≤ w4.heap.size := Nat.le_trans B2.size hk.size
  have q4 : w3.heap.size + 0 ≤ w4.heap.size := by have z := hk.size; (try simp only [World.size_alloc, World.size_setCell] at z); omega
  have B4 : Below w.heap.size w w4 := bcall B2 hk B2.size
  replace XA := XA.below hk XA.lt
  replace XB := XB.below hk XB.lt
  replace T5 := T5.below hk T5.lt
  clear B2 hk hb
  clear XA_0 XA_1 XA_2 XA_3 XA_l XB_0 XB_1 XB_2 XB_3 XB_l T5_0 T5_1 T5_f0 T5_f1 T5_l
  have XA_0 := XA.c 0 _ rfl
  have XA_1 := XA.c 1 _ rfl
  have XA_2 := XA.c 2 _ rfl
  have XA_3 := XA.c 3 _ rfl
  have XA_l := XA.lt
  have XB_0 := XB.c 0 _ rfl
  have XB_1 := XB.c 1 _ rfl
  have XB_2 := XB.c 2 _ rfl
  have XB_3 := XB.c 3 _ rfl
  have XB_l := XB.lt
  obtain ⟨T5_0, T5_1, T5_f0, T5_f1, T5_l⟩ := id T5
  try simp only [Act.put, List.setIfInBounds_toArray, List.set_cons_zero, List.set_cons_succ]
  repeat (first | (refine wpI_rd rfl rfl ?_; go_big_quiet_step (fail); refine wpQuiet_nil ?_) | (refine wpI_skip rfl rfl ?_; try simp only [Act.put, List.setIfInBounds_toArray, List.set_cons_zero, List.set_cons_succ]))
  try simp only [Act.put, List.setIfInBounds_toArray, List.set_cons_zero, List.set_cons_succ]
  refine wpI_nil ?_
  try simp only [Act.put, List.setIfInBounds_toArray, List.set_cons_zero, List.set_cons_succ]
  go_wp2_with fail
  replace B4 := (B4.alloc B4.size (.cells #[.int .i64 0, .int .i64 0] 27))
  replace XA := (XA.alloc (.cells #[.int .i64 0, .int .i64 0] 27))
  replace XB := (XB.alloc (.cells #[.int .i64 0, .int .i64 0] 27))
  replace T5 := (T5.alloc (.cells #[.int .i64 0, .int .i64 0] 27))
  have T6 : Box2 ((w4).alloc (.cells #[.int .i64 0, .int .i64 0] 27)) (w4.heap.size) (.int .i64 0) (.int .i64 0) := Box2.newAt (w := w4) (r := w4.heap.size) (x := .int .i64 0) (y := .int .i64 0) (t := 27) (by simp)
  refine (CB.out _ (HB.out.below B4 (Nat.le_refl _))).mono ?_
  rintro e w5 ⟨rfl, hb⟩
  have hk : Below ((w4).alloc (.cells #[.int .i64 0, .int .i64 0] 27)).heap.size ((w4).alloc (.cells #[.int .i64 0, .int .i64 0] 27)) w5 := hb
  have s5 : w.heap.size ≤ w5.heap.size := Nat.le_trans B4.size hk.size
  have q5 : w4.heap.size + 1 ≤ w5.heap.size := by have z := hk.size; (try simp only [World.size_alloc] at z); omega
  have B5 : Below w.heap.size w w5 := bcall B4 hk B4.size
  replace XA := XA.below hk XA.lt
  replace XB := XB.below hk XB.lt
  replace T5 := T5.below hk T5.lt
  replace T6 := T6.below hk T6.lt
  clear B4 hk hb
  clear XA_0 XA_1 XA_2 XA_3 XA_l XB_0 XB_1 XB_2 XB_3 XB_l T5_0 T5_1 T5_f0 T5_f1 T5_l
  have XA_0 := XA.c 0 _ rfl
  have XA_1 := XA.c 1 _ rfl
  have XA_2 := XA.c 2 _ rfl
  have XA_3 := XA.c 3 _ rfl
  have XA_l := XA.lt
  have XB_0 := XB.c 0 _ rfl
  have XB_1 := XB.c 1 _ rfl
  have XB_2 := XB.c 2 _ rfl
  have XB_3 := XB.c 3 _ rfl
  have XB_l := XB.lt
  obtain ⟨T5_0, T5_1, T5_f0, T5_f1, T5_l⟩ := id T5
  obtain ⟨T6_0, T6_1, T6_f0, T6_f1, T6_l⟩ := id T6
  go_wp2_with fail
  refine (CC.out _ (HA.out.below B5 (Nat.le_refl _)) (HB.out.below B5 (Nat.le_refl _))).mono ?_
  rintro e w6 ⟨rfl, hb⟩
  have hk : Below (w5).heap.size (w5) w6 := hb
  have s6 : w.heap.size ≤ w6.heap.size := Nat.le_trans B5.size hk.size
  have q6 : w5.heap.size + 0 ≤ w6.heap.size := by have z := hk.size; (try simp only [World.size_alloc, World.size_setCell] at z); omega
  have B6 : Below w.heap.size w w6 := bcall B5 hk B5.size
  replace XA := XA.below hk XA.lt
  replace XB := XB.below hk XB.lt
  replace T5 := T5.below hk T5.lt
  replace T6 := T6.below hk T6.lt
  clear B5 hk hb
  clear XA_0 XA_1 XA_2 XA_3 XA_l XB_0 XB_1 XB_2 XB_3 XB_l T5_0 T5_1 T5_f0 T5_f1 T5_l T6_0 T6_1 T6_f0 T6_f1 T6_l
  have XA_0 := XA.c 0 _ rfl
  have XA_1 := XA.c 1 _ rfl
  have XA_2 := XA.c 2 _ rfl
  have XA_3 := XA.c 3 _ rfl
  have XA_l := XA.lt
  have XB_0 := XB.c 0 _ rfl
  have XB_1 := XB.c 1 _ rfl
  have XB_2 := XB.c 2 _ rfl
  have XB_3 := XB.c 3 _ rfl
  have XB_l := XB.lt
  obtain ⟨T5_0, T5_1, T5_f0, T5_f1, T5_l⟩ := id T5
  obtain ⟨T6_0, T6_1, T6_f0, T6_f1, T6_l⟩ := id T6
  go_wp2_with fail
  replace B6 := (B6.alloc B6.size (.cells #[.int .i64 0, .int .i64 0] 27))
  replace XA := (XA.alloc (.cells #[.int .i64 0, .int .i64 0] 27))
  replace XB := (XB.alloc (.cells #[.int .i64 0, .int .i64 0] 27))
  replace T5 := (T5.alloc (.cells #[.int .i64 0, .int .i64 0] 27))
  replace T6 := (T6.alloc (.cells #[.int .i64 0, .int .i64 0] 27))
  have T8 : Box2 ((w6).alloc (.cells #[.int .i64 0, .int .i64 0] 27)) (w6.heap.size) (.int .i64 0) (.int .i64 0) := Box2.newAt (w := w6) (r := w6.heap.size) (x := .int .i64 0) (y := .int .i64 0) (t := 27) (by simp)
  refine (CO.out _ (HA.out.below B6 (Nat.le_refl _)) (HB.out.below B6 (Nat.le_refl _))).mono ?_
  rintro e w7 ⟨rfl, hb⟩
  have hk : Below ((w6).alloc (.cells #[.int .i64 0, .int .i64 0] 27)).heap.size ((w6).alloc (.cells #[.int .i64 0, .int .i64 0] 27)) w7 := hb
  have s7 : w.heap.size ≤ w7.heap.size := Nat.le_trans B6.size hk.size
  have q7 : w6.heap.size + 1 ≤ w7.heap.size := by have z := hk.size; (try simp only [World.size_alloc] at z); omega
  have B7 : Below w.heap.size w w7 := bcall B6 hk B6.size
  replace XA := XA.below hk XA.lt
  replace XB := XB.below hk XB.lt
  replace T5 := T5.below hk T5.lt
  replace T6 := T6.below hk T6.lt
  replace T8 := T8.below hk T8.lt
  clear B6 hk hb
  clear XA_0 XA_1 XA_2 XA_3 XA_l XB_0 XB_1 XB_2 XB_3 XB_l T5_0 T5_1 T5_f0 T5_f1 T5_l T6_0 T6_1 T6_f0 T6_f1 T6_l
  have XA_0 := XA.c 0 _ rfl
  have XA_1 := XA.c 1 _ rfl
  have XA_2 := XA.c 2 _ rfl
  have XA_3 := XA.c 3 _ rfl
  have XA_l := XA.lt
  have XB_0 := XB.c 0 _ rfl
  have XB_1 := XB.c 1 _ rfl
  have XB_2 := XB.c 2 _ rfl
  have XB_3 := XB.c 3 _ rfl
  have XB_l := XB.lt
  obtain ⟨T5_0, T5_1, T5_f0, T5_f1, T5_l⟩ := id T5
  obtain ⟨T6_0, T6_1, T6_f0, T6_f1, T6_l⟩ := id T6
  obtain ⟨T8_0, T8_1, T8_f0, T8_f1, T8_l⟩ := id T8
  go_wp2_with fail
  replace B7 := (B7.setCell (p := ⟨w4.heap.size, 0, none⟩) (by dsimp only; omega) (.int .i64 0))
  replace XA := (XA.far (a := ⟨w4.heap.size, 0, none⟩) (by dsimp only; omega) (.int .i64 0))
  replace XB := (XB.far (a := ⟨w4.heap.size, 0, none⟩) (by dsimp only; omega) (.int .i64 0))
  replace T5 := (T5.far (a := ⟨w4.heap.size, 0, none⟩) (by dsimp only; omega) (.int .i64 0))
  replace T8 := (T8.far (a := ⟨w4.heap.size, 0, none⟩) (by dsimp only; omega) (.int .i64 0))
  replace B7 := (B7.setCell (p := ⟨w4.heap.size, 1, none⟩) (by dsimp only; omega) (.int .i64 0))
  replace XA := (XA.far (a := ⟨w4.heap.size, 1, none⟩) (by dsimp only; omega) (.int .i64 0))
  replace XB := (XB.far (a := ⟨w4.heap.size, 1, none⟩) (by dsimp only; omega) (.int .i64 0))
  replace T5 := (T5.far (a := ⟨w4.heap.size, 1, none⟩) (by dsimp only; omega) (.int .i64 0))
  replace T8 := (T8.far (a := ⟨w4.heap.size, 1, none⟩) (by dsimp only; omega) (.int .i64 0))
  replace T6 := (T6.set (.int .i64 0) (.int .i64 0))
  refine (CN.out _ (HA.out.below B7 (Nat.le_refl _))).mono ?_
  rintro e w8 ⟨pn, cn, rfl, vn, hb⟩
  have VN := Lib.hid vn
  clear vn
  have hk : Below (((w7).setCell ⟨w4.heap.size, 0, none⟩ (.int .i64 0)).setCell ⟨w4.heap.size, 1, none⟩ (.int .i64 0)).heap.size (((w7).setCell ⟨w4.heap.size, 0, none⟩ (.int .i64 0)).setCell ⟨w4.heap.size, 1, none⟩ (.int .i64 0)) w8 := hb
  have s8 : w.heap.size ≤ w8.heap.size := Nat.le_trans B7.size hk.size
  have q8 : w7.heap.size + 0 ≤ w8.heap.size := by have z := hk.size; (try simp only [World.size_setCell] at z); omega
  have B8 : Below w.heap.size w w8 := bcall B7 hk B7.size
  replace XA := XA.below hk XA.lt
  replace XB := XB.below hk XB.lt
  replace T5 := T5.below hk T5.lt
  replace T6 := T6.below hk T6.lt
  replace T8 := T8.below hk T8.lt
  clear B7 hk hb
  clear XA_0 XA_1 XA_2 XA_3 XA_l XB_0 XB_1 XB_2 XB_3 XB_l T5_0 T5_1 T5_f0 T5_f1 T5_l T6_0 T6_1 T6_f0 T6_f1 T6_l T8_0 T8_1 T8_f0 T8_f1 T8_l
  have XA_0 := XA.c 0 _ rfl
  have XA_1 := XA.c 1 _ rfl
  have XA_2 := XA.c 2 _ rfl
  have XA_3 := XA.c 3 _ rfl
  have XA_l := XA.lt
  have XB_0 := XB.c 0 _ rfl
  have XB_1 := XB.c 1 _ rfl
  have XB_2 := XB.c 2 _ rfl
  have XB_3 := XB.c 3 _ rfl
  have XB_l := XB.lt
  obtain ⟨T5_0, T5_1, T5_f0, T5_f1, T5_l⟩ := id T5
  obtain ⟨T6_0, T6_1, T6_f0, T6_f1, T6_l⟩ := id T6
  obtain ⟨T8_0, T8_1, T8_f0, T8_f1, T8_l⟩ := id T8
  go_wp2_with fail
  refine (CH.out _ _ _ VN.out).mono ?_
  rintro e w9 ⟨rfl, hb⟩
  clear VN
  have hk : Below (w8).heap.size (w8) w9 := hb
  have s9 : w.heap.size ≤ w9.heap.size := Nat.le_trans B8.size hk.size
  have q9 : w8.heap.size + 0 ≤ w9.heap.size := by have z := hk.size; (try simp only [World.size_alloc, World.size_setCell] at z); omega
  have B9 : Below w.heap.size w w9 := bcall B8 hk B8.size
  replace XA := XA.below hk XA.lt
  replace XB := XB.below hk XB.lt
  replace T5 := T5.below hk T5.lt
  replace T6 := T6.below hk T6.lt
  replace T8 := T8.below hk T8.lt
  clear B8 hk hb
  clear XA_0 XA_1 XA_2 XA_3 XA_l XB_0 XB_1 XB_2 XB_3 XB_l T5_0 T5_1 T5_f0 T5_f1 T5_l T6_0 T6_1 T6_f0 T6_f1 T6_l T8_0 T8_1 T8_f0 T8_f1 T8_l
  have XA_0 := XA.c 0 _ rfl
  have XA_1 := XA.c 1 _ rfl
  have XA_2 := XA.c 2 _ rfl
  have XA_3 := XA.c 3 _ rfl
  have XA_l := XA.lt
  have XB_0 := XB.c 0 _ rfl
  have XB_1 := XB.c 1 _ rfl
  have XB_2 := XB.c 2 _ rfl
  have XB_3 := XB.c 3 _ rfl
  have XB_l := XB.lt
  obtain ⟨T5_0, T5_1, T5_f0, T5_f1, T5_l⟩ := id T5
  obtain ⟨T6_0, T6_1, T6_f0, T6_f1, T6_l⟩ := id T6
  obtain ⟨T8_0, T8_1, T8_f0, T8_f1, T8_l⟩ := id T8
  go_wp2_with fail
  refine (CX.out _ (HA.out.below B9 (Nat.le_refl _))).mono ?_
  rintro e w10 ⟨px, cx, rfl, vx, hb⟩
  have VX := Lib.hid vx
  clear vx
  have hk : Below (w9).heap.size (w9) w10 := hb
  have s10 : w.heap.size ≤ w10.heap.size := Nat.le_trans B9.size hk.size
  have q10 : w9.heap.size + 0 ≤ w10.heap.size := by have z := hk.size; (try simp only [World.size_alloc, World.size_setCell] at z); omega
  have B10 : Below w.heap.size w w10 := bcall B9 hk B9.size
  replace XA := XA.below hk XA.lt
  replace XB := XB.below hk XB.lt
  replace T5 := T5.below hk T5.lt
  replace T6 := T6.below hk T6.lt
  replace T8 := T8.below hk T8.lt
  clear B9 hk hb
  clear XA_0 XA_1 XA_2 XA_3 XA_l XB_0 XB_1 XB_2 XB_3 XB_l T5_0 T5_1 T5_f0 T5_f1 T5_l T6_0 T6_1 T6_f0 T6_f1 T6_l T8_0 T8_1 T8_f0 T8_f1 T8_l
  have XA_0 := XA.c 0 _ rfl
  have XA_1 := XA.c 1 _ rfl
  have XA_2 := XA.c 2 _ rfl
  have XA_3 := XA.c 3 _ rfl
  have XA_l := XA.lt
  have XB_0 := XB.c 0 _ rfl
  have XB_1 := XB.c 1 _ rfl
  have XB_2 := XB.c 2 _ rfl
  have XB_3 := XB.c 3 _ rfl
  have XB_l := XB.lt
  obtain ⟨T5_0, T5_1, T5_f0, T5_f1, T5_l⟩ := id T5
  obtain ⟨T6_0, T6_1, T6_f0, T6_f1, T6_l⟩ := id T6
  obtain ⟨T8_0, T8_1, T8_f0, T8_f1, T8_l⟩ := id T8
  go_wp2_with fail
  refine wp_region_ord [0, 1, 2, 3, 4, 5, 6, 7, 8, 9, 10, 11, 12, 13, 14, 15, 16, 17, 18, 19, 20, 21, 22, 23, 24] (by kernel_rfl) (by kernel_rfl) ?_
  replace VX := Lib.hid (VIn.setF VX.out T8 (.int .i64 0) (.int .i64 0))
  replace B10 := (B10.setCell (p := ⟨w6.heap.size, 0, none⟩) (by dsimp only; omega) (.int .i64 0))
  replace XA := (XA.far (a := ⟨w6.heap.size, 0, none⟩) (by dsimp only; omega) (.int .i64 0))
  replace XB := (XB.far (a := ⟨w6.heap.size, 0, none⟩) (by dsimp only; omega) (.int .i64 0))
  replace T5 := (T5.far (a := ⟨w6.heap.size, 0, none⟩) (by dsimp only; omega) (.int .i64 0))
  replace T6 := (T6.far (a := ⟨w6.heap.size, 0, none⟩) (by dsimp only; omega) (.int .i64 0))
  replace B10 := (B10.setCell (p := ⟨w6.heap.size, 1, none⟩) (by dsimp only; omega) (.int .i64 0))
  replace XA := (XA.far (a := ⟨w6.heap.size, 1, none⟩) (by dsimp only; omega) (.int .i64 0))
  replace XB := (XB.far (a := ⟨w6.heap.size, 1, none⟩) (by dsimp only; omega) (.int .i64 0))
  replace T5 := (T5.far (a := ⟨w6.heap.size, 1, none⟩) (by dsimp only; omega) (.int .i64 0))
  replace T6 := (T6.far (a := ⟨w6.heap.size, 1, none⟩) (by dsimp only; omega) (.int .i64 0))
  replace T8 := (T8.set (.int .i64 0) (.int .i64 0))
  replace B10 := (B10.alloc B10.size (.cells #[.int .i64 n.maj, .int .i64 n.min, .int .i64 n.pat, .slice px n.pre.length cx] 24))
  replace XA := (XA.alloc (.cells #[.int .i64 n.maj, .int .i64 n.min, .int .i64 n.pat, .slice px n.pre.length cx] 24))
  replace XB := (XB.alloc (.cells #[.int .i64 n.maj, .int .i64 n.min, .int .i64 n.pat, .slice px n.pre.length cx] 24))
  replace T5 := (T5.alloc (.cells #[.int .i64 n.maj, .int .i64 n.min, .int .i64 n.pat, .slice px n.pre.length cx] 24))
  replace T6 := (T6.alloc (.cells #[.int .i64 n.maj, .int .i64 n.min, .int .i64 n.pat, .slice px n.pre.length cx] 24))
  replace T8 := (T8.alloc (.cells #[.int .i64 n.maj, .int .i64 n.min, .int .i64 n.pat, .slice px n.pre.length cx] 24))
  replace VX := Lib.hid (VX.out.below (B := (((w10).setCell ⟨w6.heap.size, 0, none⟩ (.int .i64 0)).setCell ⟨w6.heap.size, 1, none⟩ (.int .i64 0)).heap.size) (w' := (((w10).setCell ⟨w6.heap.size, 0, none⟩ (.int .i64 0)).setCell ⟨w6.heap.size, 1, none⟩ (.int .i64 0)).alloc (.cells #[.int .i64 n.maj, .int .i64 n.min, .int .i64 n.pat, .slice px n.pre.length cx] 24)) ((Below.refl _ _).alloc (Nat.le_refl _) _) (Nat.le_refl _))
  have T9 : Blk ((((w10).setCell ⟨w6.heap.size, 0, none⟩ (.int .i64 0)).setCell ⟨w6.heap.size, 1, none⟩ (.int .i64 0)).alloc (.cells #[.int .i64 n.maj, .int .i64 n.min, .int .i64 n.pat, .slice px n.pre.length cx] 24)) (w10.heap.size) [.int .i64 n.maj, .int .i64 n.min, .int .i64 n.pat, .slice px n.pre.length cx] := Blk.new (((w10).setCell ⟨w6.heap.size, 0, none⟩ (.int .i64 0)).setCell ⟨w6.heap.size, 1, none⟩ (.int .i64 0)) [.int .i64 n.maj, .int .i64 n.min, .int .i64 n.pat, .slice px n.pre.length cx] 24 (g := w10.heap.size) (by simp)
  have q11 : w10.heap.size + 1 ≤ ((((w10).setCell ⟨w6.heap.size, 0, none⟩ (.int .i64 0)).setCell ⟨w6.heap.size, 1, none⟩ (.int .i64 0)).alloc (.cells #[.int .i64 n.maj, .int .i64 n.min, .int .i64 n.pat, .slice px n.pre.length cx] 24)).drew.heap.size := by simp only [World.size_alloc, World.size_setCell, World.size_drew]; omega
  replace B10 := B10.drew
  replace XA := XA.drew
  replace XB := XB.drew
  replace T5 := T5.drew
  replace T6 := T6.drew
  replace T8 := T8.drew
  replace VX := Lib.hid (VX.out.below (B := ((((w10).setCell ⟨w6.heap.size, 0, none⟩ (.int .i64 0)).setCell ⟨w6.heap.size, 1, none⟩ (.int .i64 0)).alloc (.cells #[.int .i64 n.maj, .int .i64 n.min, .int .i64 n.pat, .slice px n.pre.length cx] 24)).heap.size) (w' := ((((w10).setCell ⟨w6.heap.size, 0, none⟩ (.int .i64 0)).setCell ⟨w6.heap.size, 1, none⟩ (.int .i64 0)).alloc (.cells #[.int .i64 n.maj, .int .i64 n.min, .int .i64 n.pat, .slice px n.pre.length cx] 24)).drew) (Below.refl _ _).drew (Nat.le_refl _))
  replace T9 := T9.drew
  clear XA_0 XA_1 XA_2 XA_3 XA_l XB_0 XB_1 XB_2 XB_3 XB_l T5_0 T5_1 T5_f0 T5_f1 T5_l T6_0 T6_1 T6_f0 T6_f1 T6_l T8_0 T8_1 T8_f0 T8_f1 T8_l
  generalize ((((w10).setCell ⟨w6.heap.size, 0, none⟩ (.int .i64 0)).setCell ⟨w6.heap.size, 1, none⟩ (.int .i64 0)).alloc (.cells #[.int .i64 n.maj, .int .i64 n.min, .int .i64 n.pat, .slice px n.pre.length cx] 24)).drew = w11 at *
  have s11 : w.heap.size ≤ w11.heap.size := B10.size
  have XA_0 := XA.c 0 _ rfl
  have XA_1 := XA.c 1 _ rfl
  have XA_2 := XA.c 2 _ rfl
  have XA_3 := XA.c 3 _ rfl
  have XA_l := XA.lt
  have XB_0 := XB.c 0 _ rfl
  have XB_1 := XB.c 1 _ rfl
  have XB_2 := XB.c 2 _ rfl
  have XB_3 := XB.c 3 _ rfl
  have XB_l := XB.lt
  obtain ⟨T5_0, T5_1, T5_f0, T5_f1, T5_l⟩ := id T5
  obtain ⟨T6_0, T6_1, T6_f0, T6_f1, T6_l⟩ := id T6
  obtain ⟨T8_0, T8_1, T8_f0, T8_f1, T8_l⟩ := id T8
  have T9_0 := T9.c 0 _ rfl
  have T9_1 := T9.c 1 _ rfl
  have T9_2 := T9.c 2 _ rfl
  have T9_3 := T9.c 3 _ rfl
  have T9_l := T9.lt
  repeat (first | (refine wpI_rd rfl rfl ?_; go_big_quiet_step (fail); refine wpQuiet_nil ?_) | (refine wpI_skip rfl rfl ?_; try simp only [Act.put, List.setIfInBounds_toArray, List.set_cons_zero, List.set_cons_succ]))
  try simp only [Act.put, List.setIfInBounds_toArray, List.set_cons_zero, List.set_cons_succ]
  refine wpI_call (f := 15) rfl rfl rfl (by simp [go_sem]; rfl) ?_
  refine (CN.out _ (HA.out.below B10 (Nat.le_refl _))).mono ?_
  rintro e w12 ⟨pn, cn, rfl, vn, hb⟩
  have VN := Lib.hid vn
  clear vn
  refine ⟨_, rfl, hb, ?_⟩
  skip
  have hk : Below (w11).heap.size (w11) w12 := hb
  have s12 : w.heap.size ≤ w12.heap.size := Nat.le_trans B10.size hk.size
  have q12 : w11.heap.size + 0 ≤ w12.heap.size := by have z := hk.size; (try simp only [World.size_alloc, World.size_setCell] at z); omega
  have B12 : Below w.heap.size w w12 := bcall B10 hk B10.size
  replace XA := XA.below hk XA.lt
  replace XB := XB.below hk XB.lt
  replace T5 := T5.below hk T5.lt
  replace T6 := T6.below hk T6.lt
  replace T8 := T8.below hk T8.lt
  replace VX := Lib.hid (VX.out.below hk (Nat.le_refl _))
  replace T9 := T9.below hk T9.lt
  clear B10 hk hb
  clear XA_0 XA_1 XA_2 XA_3 XA_l XB_0 XB_1 XB_2 XB_3 XB_l T5_0 T5_1 T5_f0 T5_f1 T5_l T6_0 T6_1 T6_f0 T6_f1 T6_l T8_0 T8_1 T8_f0 T8_f1 T8_l T9_0 T9_1 T9_2 T9_3 T9_l
  have XA_0 := XA.c 0 _ rfl
  have XA_1 := XA.c 1 _ rfl
  have XA_2 := XA.c 2 _ rfl
  have XA_3 := XA.c 3 _ rfl
  have XA_l := XA.lt
  have XB_0 := XB.c 0 _ rfl
  have XB_1 := XB.c 1 _ rfl
  have XB_2 := XB.c 2 _ rfl
  have XB_3 := XB.c 3 _ rfl
  have XB_l := XB.lt
  obtain ⟨T5_0, T5_1, T5_f0, T5_f1, T5_l⟩ := id T5
  obtain ⟨T6_0, T6_1, T6_f0, T6_f1, T6_l⟩ := id T6
  obtain ⟨T8_0, T8_1, T8_f0, T8_f1, T8_l⟩ := id T8
  have T9_0 := T9.c 0 _ rfl
  have T9_1 := T9.c 1 _ rfl
  have T9_2 := T9.c 2 _ rfl
  have T9_3 := T9.c 3 _ rfl
  have T9_l := T9.lt
  try simp only [Act.put, List.setIfInBounds_toArray, List.set_cons_zero, List.set_cons_succ]
  refine wpI_call (f := 17) rfl rfl rfl (by simp [go_sem]; rfl) ?_
  refine (CS.out _ _ _ _ _ VX.out VN.out).mono ?_
  rintro e w13 ⟨rfl, hb⟩
  clear VN
  refine ⟨_, rfl, hb, ?_⟩
  skip
  have hk : Below (w12).heap.size (w12) w13 := hb
  have s13 : w.heap.size ≤ w13.heap.size := Nat.le_trans B12.size hk.size
  have q13 : w12.heap.size + 0 ≤ w13.heap.size := by have z := hk.size; (try simp only [World.size_alloc, World.size_setCell] at z); omega
  have B13 : Below w.heap.size w w13 := bcall B12 hk B12.size
  replace XA := XA.below hk XA.lt
  replace XB := XB.below hk XB.lt
  replace T5 := T5.below hk T5.lt
  replace T6 := T6.below hk T6.lt
  replace T8 := T8.below hk T8.lt
  replace VX := Lib.hid (VX.out.below hk (Nat.le_refl _))
  replace T9 := T9.below hk T9.lt
  clear B12 hk hb
  clear XA_0 XA_1 XA_2 XA_3 XA_l XB_0 XB_1 XB_2 XB_3 XB_l T5_0 T5_1 T5_f0 T5_f1 T5_l T6_0 T6_1 T6_f0 T6_f1 T6_l T8_0 T8_1 T8_f0 T8_f1 T8_l T9_0 T9_1 T9_2 T9_3 T9_l
  have XA_0 := XA.c 0 _ rfl
  have XA_1 := XA.c 1 _ rfl
  have XA_2 := XA.c 2 _ rfl
  have XA_3 := XA.c 3 _ rfl
  have XA_l := XA.lt
  have XB_0 := XB.c 0 _ rfl
  have XB_1 := XB.c 1 _ rfl
  have XB_2 := XB.c 2 _ rfl
  have XB_3 := XB.c 3 _ rfl
  have XB_l := XB.lt
  obtain ⟨T5_0, T5_1, T5_f0, T5_f1, T5_l⟩ := id T5
  obtain ⟨T6_0, T6_1, T6_f0, T6_f1, T6_l⟩ := id T6
  obtain ⟨T8_0, T8_1, T8_f0, T8_f1, T8_l⟩ := id T8
  have T9_0 := T9.c 0 _ rfl
  have T9_1 := T9.c 1 _ rfl
  have T9_2 := T9.c 2 _ rfl
  have T9_3 := T9.c 3 _ rfl
  have T9_l := T9.lt
  try simp only [Act.put, List.setIfInBounds_toArray, List.set_cons_zero, List.set_cons_succ]
  repeat (first | (refine wpI_rd rfl rfl ?_; go_big_quiet_step (fail); refine wpQuiet_nil ?_) | (refine wpI_skip rfl rfl ?_; try simp only [Act.put, List.setIfInBounds_toArray, List.set_cons_zero, List.set_cons_succ]))
  try simp only [Act.put, List.setIfInBounds_toArray, List.set_cons_zero, List.set_cons_succ]
  refine wpI_nil ?_
  try simp only [Act.put, List.setIfInBounds_toArray, List.set_cons_zero, List.set_cons_succ]
  go_wp2_with fail
  go_ret
  exact ⟨rfl, B13⟩
set_option maxRecDepth 100000 in
set_option maxHeartbeats 4000000 in
theorem vms_Cf (a b : Pl.Ver) (pa pb : Option Addr) (ca cb : Nat) (w : World) (E : Env w) (ha : VIn w a pa ca) (hb : VIn w b pb cb) (oka : a.Ok) (okb : b.Ok) (h1 h2 : Int) (hh : h1 ≠ 0) (eh : Pl.vrF (Pl.verNext a) = (h1, h2)) :
    Calls Tryd.prog 3 #[verV a pa ca, verV b pb cb] w fun e w' => e = .returned (.bool true) ∧ Below w.heap.size w w' := by
  have HE := Lib.hid E
  have HA := Lib.hid ha
  have HB := Lib.hid hb
  have ea := Pl.vrF_ok oka
  have eb := Pl.vrF_ok okb
  have u5 := bneT hh
  have u6 := beqF hh
  have CA := Lib.hid (fun (W : World) (h : VIn W a pa ca) => VersionFault_any a pa ca W h)
  rw [ea] at CA
  have VA := Lib.hid (fun (W : World) (h : VIn W a pa ca) => Validate_any a pa ca W h)
  rw [ea] at VA
  have CB := Lib.hid (fun (W : World) (h : VIn W b pb cb) => VersionFault_any b pb cb W h)
  rw [eb] at CB
  have ec : Pl.cmpF a b = (0, 0) := by unfold Pl.cmpF; rw [if_neg (by rw [ea]; decide), if_neg (by rw [eb]; decide)]
  obtain ⟨k, hk0⟩ : ∃ k, Pl.verCmp a b = k := ⟨_, rfl⟩
  have ev : Pl.cmpV a b = k := by unfold Pl.cmpV; rw [ec, if_neg (by decide), hk0]
  have CC := Lib.hid (fun (W : World) (h : VIn W a pa ca) (h2 : VIn W b pb cb) => verCompare_any a b pa pb ca cb W h h2)
  rw [ec, ev] at CC
  have CO := Lib.hid (fun (W : World) (h : VIn W a pa ca) (h2 : VIn W b pb cb) => VersionOrder_any a b pa pb ca cb W (VOk.of h oka) (VOk.of h2 okb))
  rw [hk0] at CO
  clear hk0
  have en : Pl.nextF a = (10, -1) := by unfold Pl.nextF; rw [if_neg (by rw [ea]; decide), if_pos (by rw [eh]; exact hh)]
  have em : Pl.nextV a = Pl.Ver.zero := by unfold Pl.nextV; rw [en, if_pos (by decide)]
  obtain ⟨n, hn⟩ : ∃ n, Pl.verNext a = n := ⟨_, rfl⟩
  rw [hn] at eh
  have CN := Lib.hid (fun (W : World) (h : VIn W a pa ca) => VersionNext_any a pa ca W h oka)
  rw [hn] at CN
  have CH := Lib.hid (fun (W : World) (p : Option Addr) (c : Nat) (h : VIn W n p c) => VersionFault_any n p c W h)
  rw [eh] at CH
  clear hn eh
  have CX := Lib.hid (fun (W : World) (h : VIn W a pa ca) => Next_any a pa ca W h)
  rw [en, em] at CX
  have CS := Lib.hid (fun (W : World) (p q : Option Addr) (c d : Nat) (h : VIn W Pl.Ver.zero p c) (h2 : VIn W Pl.Ver.zero q d) => SameVersion_any Pl.Ver.zero Pl.Ver.zero p q c d W h h2)
  rw [Pl.sameB_iff.2 rfl] at CS
  simp only [fltV] at CA VA CB CC CH
  delta RVerF at CX
  simp only [fltV] at CX
  delta RVer at CN
  clear E ha hb ea ec ev en em eb
  go_enter Tryd.func3, Tryd.ntmps3
  have B0 : Below w.heap.size w w := Below.refl _ _
  go_wp2_with fail
  replace B0 := (B0.alloc B0.size (.cells #[.int .i64 a.maj, .int .i64 a.min, .int .i64 a.pat, .slice pa a.pre.length ca] 24))
  have XA : Blk ((w).alloc (.cells #[.int .i64 a.maj, .int .i64 a.min, .int .i64 a.pat, .slice pa a.pre.length ca] 24)) (w.heap.size) [.int .i64 a.maj, .int .i64 a.min, .int .i64 a.pat, .slice pa a.pre.length ca] := Blk.new (w) [.int .i64 a.maj, .int .i64 a.min, .int .i64 a.pat, .slice pa a.pre.length ca] 24 (g := w.heap.size) (by simp)
  replace B0 := (B0.alloc B0.size (.cells #[.int .i64 b.maj, .int .i64 b.min, .int .i64 b.pat, .slice pb b.pre.length cb] 24))
  replace XA := (XA.alloc (.cells #[.int .i64 b.maj, .int .i64 b.min, .int .i64 b.pat, .slice pb b.pre.length cb] 24))
  have XB : Blk (((w).alloc (.cells #[.int .i64 a.maj, .int .i64 a.min, .int .i64 a.pat, .slice pa a.pre.length ca] 24)).alloc (.cells #[.int .i64 b.maj, .int .i64 b.min, .int .i64 b.pat, .slice pb b.pre.length cb] 24)) (w.heap.size + 1) [.int .i64 b.maj, .int .i64 b.min, .int .i64 b.pat, .slice pb b.pre.length cb] := Blk.new ((w).alloc (.cells #[.int .i64 a.maj, .int .i64 a.min, .int .i64 a.pat, .slice pa a.pre.length ca] 24)) [.int .i64 b.maj, .int .i64 b.min, .int .i64 b.pat, .slice pb b.pre.length cb] 24 (g := w.heap.size + 1) (by simp)
  refine (orders_any _ (HE.out.below B0 (Nat.le_refl _))).mono ?_
  rintro e w1 ⟨rfl, hb⟩
  have hk : Below (((w).alloc (.cells #[.int .i64 a.maj, .int .i64 a.min, .int .i64 a.pat, .slice pa a.pre.length ca] 24)).alloc (.cells #[.int .i64 b.maj, .int .i64 b.min, .int .i64 b.pat, .slice pb b.pre.length cb] 24)).heap.size (((w).alloc (.cells #[.int .i64 a.maj, .int .i64 a.min, .int .i64 a.pat, .slice pa a.pre.length ca] 24)).alloc (.cells #[.int .i64 b.maj, .int .i64 b.min, .int .i64 b.pat, .slice pb b.pre.length cb] 24)) w1 := hb
  have s1 : w.heap.size ≤ w1.heap.size := Nat.le_trans B0.size hk.size
  have q1 : w.heap.size + 2 ≤ w1.heap.size := by have z := hk.size; (try simp only [World.size_alloc] at z); omega
  have B1 : Below w.heap.size w w1 := bcall B0 hk B0.size
  replace XA := XA.below hk XA.lt
  replace XB := XB.below hk XB.lt
  clear B0 hk hb
  have XA_0 := XA.c 0 _ rfl
  have XA_1 := XA.c 1 _ rfl
  have XA_2 := XA.c 2 _ rfl
  have XA_3 := XA.c 3 _ rfl
  have XA_l := XA.lt
  have XB_0 := XB.c 0 _ rfl
  have XB_1 := XB.c 1 _ rfl
  have XB_2 := XB.c 2 _ rfl
  have XB_3 := XB.c 3 _ rfl
  have XB_l := XB.lt
  go_wp2_with fail
  refine (CA.out _ (HA.out.below B1 (Nat.le_refl _))).mono ?_
  rintro e w2 ⟨rfl, hb⟩
  have hk : Below (w1).heap.size (w1) w2 := hb
  have s2 : w.heap.size ≤ w2.heap.size := Nat.le_trans B1.size hk.size
  have q2 : w1.heap.size + 0 ≤ w2.heap.size := by have z := hk.size; (try simp only [World.size_alloc, World.size_setCell] at z); omega
  have B2 : Below w.heap.size w w2 := bcall B1 hk B1.size
  replace XA := XA.below hk XA.lt
  replace XB := XB.below hk XB.lt
  clear B1 hk hb
  clear XA_0 XA_1 XA_2 XA_3 XA_l XB_0 XB_1 XB_2 XB_3 XB_l
  have XA_0 := XA.c 0 _ rfl
  have XA_1 := XA.c 1 _ rfl
  have XA_2 := XA.c 2 _ rfl
  have XA_3 := XA.c 3 _ rfl
  have XA_l := XA.lt
  have XB_0 := XB.c 0 _ rfl
  have XB_1 := XB.c 1 _ rfl
  have XB_2 := XB.c 2 _ rfl
  have XB_3 := XB.c 3 _ rfl
  have XB_l := XB.lt
  go_wp2_with fail
  refine wp_region_ord [0, 2, 1, 3] (by kernel_rfl) (by kernel_rfl) ?_
  replace B2 := (B2.alloc B2.size (.cells #[.int .i64 0, .int .i64 0] 27))
  replace XA := (XA.alloc (.cells #[.int .i64 0, .int .i64 0] 27))
  replace XB := (XB.alloc (.cells #[.int .i64 0, .int .i64 0] 27))
  have T5 : Box2 ((w2).alloc (.cells #[.int .i64 0, .int .i64 0] 27)) (w2.heap.size) (.int .i64 0) (.int .i64 0) := Box2.newAt (w := w2) (r := w2.heap.size) (x := .int .i64 0) (y := .int .i64 0) (t := 27) (by simp)
  have q3 : w2.heap.size + 1 ≤ ((w2).alloc (.cells #[.int .i64 0, .int .i64 0] 27)).drew.heap.size := by simp only [World.size_alloc, World.size_drew]; omega
  replace B2 := B2.drew
  replace XA := XA.drew
  replace XB := XB.drew
  replace T5 := T5.drew
  clear XA_0 XA_1 XA_2 XA_3 XA_l XB_0 XB_1 XB_2 XB_3 XB_l
  generalize ((w2).alloc (.cells #[.int .i64 0, .int .i64 0] 27)).drew = w3 at *
  have s3 : w.heap.size ≤ w3.heap.size := B2.size
  have XA_0 := XA.c 0 _ rfl
  have XA_1 := XA.c 1 _ rfl
  have XA_2 := XA.c 2 _ rfl
  have XA_3 := XA.c 3 _ rfl
  have XA_l := XA.lt
  have XB_0 := XB.c 0 _ rfl
  have XB_1 := XB.c 1 _ rfl
  have XB_2 := XB.c 2 _ rfl
  have XB_3 := XB.c 3 _ rfl
  have XB_l := XB.lt
  obtain ⟨T5_0, T5_1, T5_f0, T5_f1, T5_l⟩ := id T5
  repeat (first | (refine wpI_rd rfl rfl ?_; go_big_quiet_step (fail); refine wpQuiet_nil ?_) | (refine wpI_skip rfl rfl ?_; try simp only [Act.put, List.setIfInBounds_toArray, List.set_cons_zero, List.set_cons_succ]))
  try simp only [Act.put, List.setIfInBounds_toArray, List.set_cons_zero, List.set_cons_succ]
  refine wpI_call (f := 11) rfl rfl rfl (by simp [go_sem]; rfl) ?_
  refine (VA.out _ (HA.out.below B2 (Nat.le_refl _))).mono ?_
  rintro e w4 ⟨rfl, hb⟩
  refine ⟨_, rfl, hb, ?_⟩
  skip
  have hk : Below (w3).heap.size (w3) w4 := hb
  have s4 : w.heap.size ≤ w4.heap.size := Nat.le_trans B2.size hk.size
  have q4 : w3.heap.size + 0 ≤ w4.heap.size := by have z := hk.size; (try simp only [World.size_alloc, World.size_setCell] at z); omega
  have B4 : Below w.heap.size w w4 := bcall B2 hk B2.size
  replace XA := XA.below hk XA.lt
  replace XB := XB.below hk XB.lt
  replace T5 := T5.below hk T5.lt
  clear B2 hk hb
  clear XA_0 XA_1 XA_2 XA_3 XA_l XB_0 XB_1 XB_2 XB_3 XB_l T5_0 T5_1 T5_f0 T5_f1 T5_l
  have XA_0 := XA.c 0 _ rfl
  have XA_1 := XA.c 1 _ rfl
  have XA_2 := XA.c 2 _ rfl
  have XA_3 := XA.c 3 _ rfl
  have XA_l := XA.lt
  have XB_0 := XB.c 0 _ rfl
  have XB_1 := XB.c 1 _ rfl
  have XB_2 := XB.c 2 _ rfl
  have XB_3 := XB.c 3 _ rfl
  have XB_l := XB.lt
  obtain ⟨T5_0, T5_1, T5_f0, T5_f1, T5_l⟩ := id T5
  try simp only [Act.put, List.setIfInBounds_toArray, List.set_cons_zero, List.set_cons_succ]
  repeat (first | (refine wpI_rd rfl rfl ?_; go_big_quiet_step (fail); refine wpQuiet_nil ?_) | (refine wpI_skip rfl rfl ?_; try simp only [Act.put, List.setIfInBounds_toArray, List.set_cons_zero, List.set_cons_succ]))
  try simp only [Act.put, List.setIfInBounds_toArray, List.set_cons_zero, List.set_cons_succ]
  refine wpI_nil ?_
  try simp only [Act.put, List.setIfInBounds_toArray, List.set_cons_zero, List.set_cons_succ]
  go_wp2_with fail
  replace B4 := (B4.alloc B4.size (.cells #[.int .i64 0, .int .i64 0] 27))
  replace XA := (XA.alloc (.cells #[.int .i64 0, .int .i64 0] 27))
  replace XB := (XB.alloc (.cells #[.int .i64 0, .int .i64 0] 27))
  replace T5 := (T5.alloc (.cells #[.int .i64 0, .int .i64 0] 27))
  have T6 : Box2 ((w4).alloc (.cells #[.int .i64 0, .int .i64 0] 27)) (w4.heap.size) (.int .i64 0) (.int .i64 0) := Box2.newAt (w := w4) (r := w4.heap.size) (x := .int .i64 0) (y := .int .i64 0) (t := 27) (by simp)
  refine (CB.out _ (HB.out.below B4 (Nat.le_refl _))).mono ?_
  rintro e w5 ⟨rfl, hb⟩
  have hk : Below ((w4).alloc (.cells #[.int .i64 0, .int .i64 0] 27)).heap.size ((w4).alloc (.cells #[.int .i64 0, .int .i64 0] 27)) w5 := hb
  have s5 : w.heap.size ≤ w5.heap.size := Nat.le_trans B4.size hk.size
  have q5 : w4.heap.size + 1 ≤ w5.heap.size := by have z := hk.size; (try simp only [World.size_alloc] at z); omega
  have B5 : Below w.heap.size w w5 := bcall B4 hk B4.size
  replace XA := XA.below hk XA.lt
  replace XB := XB.below hk XB.lt
  replace T5 := T5.below hk T5.lt
  replace T6 := T6.below hk T6.lt
  clear B4 hk hb
  clear XA_0 XA_1 XA_2 XA_3 XA_l XB_0 XB_1 XB_2 XB_3 XB_l T5_0 T5_1 T5_f0 T5_f1 T5_l
  have XA_0 := XA.c 0 _ rfl
  have XA_1 := XA.c 1 _ rfl
  have XA_2 := XA.c 2 _ rfl
  have XA_3 := XA.c 3 _ rfl
  have XA_l := XA.lt
  have XB_0 := XB.c 0 _ rfl
  have XB_1 := XB.c 1 _ rfl
  have XB_2 := XB.c 2 _ rfl
  have XB_3 := XB.c 3 _ rfl
  have XB_l := XB.lt
  obtain ⟨T5_0, T5_1, T5_f0, T5_f1, T5_l⟩ := id T5
  obtain ⟨T6_0, T6_1, T6_f0, T6_f1, T6_l⟩ := id T6
  go_wp2_with fail
  refine (CC.out _ (HA.out.below B5 (Nat.le_refl _)) (HB.out.below B5 (Nat.le_refl _))).mono ?_
  rintro e w6 ⟨rfl, hb⟩
  have hk : Below (w5).heap.size (w5) w6 := hb
  have s6 : w.heap.size ≤ w6.heap.size := Nat.le_trans B5.size hk.size
  have q6 : w5.heap.size + 0 ≤ w6.heap.size := by have z := hk.size; (try simp only [World.size_alloc, World.size_setCell] at z); omega
  have B6 : Below w.heap.size w w6 := bcall B5 hk B5.size
  replace XA := XA.below hk XA.lt
  replace XB := XB.below hk XB.lt
  replace T5 := T5.below hk T5.lt
  replace T6 := T6.below hk T6.lt
  clear B5 hk hb
  clear XA_0 XA_1 XA_2 XA_3 XA_l XB_0 XB_1 XB_2 XB_3 XB_l T5_0 T5_1 T5_f0 T5_f1 T5_l T6_0 T6_1 T6_f0 T6_f1 T6_l
  have XA_0 := XA.c 0 _ rfl
  have XA_1 := XA.c 1 _ rfl
  have XA_2 := XA.c 2 _ rfl
  have XA_3 := XA.c 3 _ rfl
  have XA_l := XA.lt
  have XB_0 := XB.c 0 _ rfl
  have XB_1 := XB.c 1 _ rfl
  have XB_2 := XB.c 2 _ rfl
  have XB_3 := XB.c 3 _ rfl
  have XB_l := XB.lt
  obtain ⟨T5_0, T5_1, T5_f0, T5_f1, T5_l⟩ := id T5
  obtain ⟨T6_0, T6_1, T6_f0, T6_f1, T6_l⟩ := id T6
  go_wp2_with fail
  replace B6 := (B6.alloc B6.size (.cells #[.int .i64 0, .int .i64 0] 27))
  replace XA := (XA.alloc (.cells #[.int .i64 0, .int .i64 0] 27))
  replace XB := (XB.alloc (.cells #[.int .i64 0, .int .i64 0] 27))
  replace T5 := (T5.alloc (.cells #[.int .i64 0, .int .i64 0] 27))
  replace T6 := (T6.alloc (.cells #[.int .i64 0, .int .i64 0] 27))
  have T8 : Box2 ((w6).alloc (.cells #[.int .i64 0, .int .i64 0] 27)) (w6.heap.size) (.int .i64 0) (.int .i64 0) := Box2.newAt (w := w6) (r := w6.heap.size) (x := .int .i64 0) (y := .int .i64 0) (t := 27) (by simp)
  refine (CO.out _ (HA.out.below B6 (Nat.le_refl _)) (HB.out.below B6 (Nat.le_refl _))).mono ?_
  rintro e w7 ⟨rfl, hb⟩
  have hk : Below ((w6).alloc (.cells #[.int .i64 0, .int .i64 0] 27)).heap.size ((w6).alloc (.cells #[.int .i64 0, .int .i64 0] 27)) w7 := hb
  have s7 : w.heap.size ≤ w7.heap.size := Nat.le_trans B6.size hk.size
  have q7 : w6.heap.size + 1 ≤ w7.heap.size := by have z := hk.size; (try simp only [World.size_alloc] at z); omega
  have B7 : Below w.heap.size w w7 := bcall B6 hk B6.size
  replace XA := XA.below hk XA.lt
  replace XB := XB.below hk XB.lt
  replace T5 := T5.below hk T5.lt
  replace T6 := T6.below hk T6.lt
  replace T8 := T8.below hk T8.lt
  clear B6 hk hb
  clear XA_0 XA_1 XA_2 XA_3 XA_l XB_0 XB_1 XB_2 XB_3 XB_l T5_0 T5_1 T5_f0 T5_f1 T5_l T6_0 T6_1 T6_f0 T6_f1 T6_l
  have XA_0 := XA.c 0 _ rfl
  have XA_1 := XA.c 1 _ rfl
  have XA_2 := XA.c 2 _ rfl
  have XA_3 := XA.c 3 _ rfl
  have XA_l := XA.lt
  have XB_0 := XB.c 0 _ rfl
  have XB_1 := XB.c 1 _ rfl
  have XB_2 := XB.c 2 _ rfl
  have XB_3 := XB.c 3 _ rfl
  have XB_l := XB.lt
  obtain ⟨T5_0, T5_1, T5_f0, T5_f1, T5_l⟩ := id T5
  obtain ⟨T6_0, T6_1, T6_f0, T6_f1, T6_l⟩ := id T6
  obtain ⟨T8_0, T8_1, T8_f0, T8_f1, T8_l⟩ := id T8
  go_wp2_with fail
  replace B7 := (B7.setCell (p := ⟨w4.heap.size, 0, none⟩) (by dsimp only; omega) (.int .i64 0))
  replace XA := (XA.far (a := ⟨w4.heap.size, 0, none⟩) (by dsimp only; omega) (.int .i64 0))
  replace XB := (XB.far (a := ⟨w4.heap.size, 0, none⟩) (by dsimp only; omega) (.int .i64 0))
  replace T5 := (T5.far (a := ⟨w4.heap.size, 0, none⟩) (by dsimp only; omega) (.int .i64 0))
  replace T8 := (T8.far (a := ⟨w4.heap.size, 0, none⟩) (by dsimp only; omega) (.int .i64 0))
  replace B7 := (B7.setCell (p := ⟨w4.heap.size, 1, none⟩) (by dsimp only; omega) (.int .i64 0))
  replace XA := (XA.far (a := ⟨w4.heap.size, 1, none⟩) (by dsimp only; omega) (.int .i64 0))
  replace XB := (XB.far (a := ⟨w4.heap.size, 1, none⟩) (by dsimp only; omega) (.int .i64 0))
  replace T5 := (T5.far (a := ⟨w4.heap.size, 1, none⟩) (by dsimp only; omega) (.int .i64 0))
  replace T8 := (T8.far (a := ⟨w4.heap.size, 1, none⟩) (by dsimp only; omega) (.int .i64 0))
  replace T6 := (T6.set (.int .i64 0) (.int .i64 0))
  refine (CN.out _ (HA.out.below B7 (Nat.le_refl _))).mono ?_
  rintro e w8 ⟨pn, cn, rfl, vn, hb⟩
  have VN := Lib.hid vn
  clear vn
  have hk : Below (((w7).setCell ⟨w4.heap.size, 0, none⟩ (.int .i64 0)).setCell ⟨w4.heap.size, 1, none⟩ (.int .i64 0)).heap.size (((w7).setCell ⟨w4.heap.size, 0, none⟩ (.int .i64 0)).setCell ⟨w4.heap.size, 1, none⟩ (.int .i64 0)) w8 := hb
  have s8 : w.heap.size ≤ w8.heap.size := Nat.le_trans B7.size hk.size
  have q8 : w7.heap.size + 0 ≤ w8.heap.size := by have z := hk.size; (try simp only [World.size_setCell] at z); omega
  have B8 : Below w.heap.size w w8 := bcall B7 hk B7.size
  replace XA := XA.below hk XA.lt
  replace XB := XB.below hk XB.lt
  replace T5 := T5.below hk T5.lt
  replace T6 := T6.below hk T6.lt
  replace T8 := T8.below hk T8.lt
  clear B7 hk hb
  clear XA_0 XA_1 XA_2 XA_3 XA_l XB_0 XB_1 XB_2 XB_3 XB_l T5_0 T5_1 T5_f0 T5_f1 T5_l T6_0 T6_1 T6_f0 T6_f1 T6_l T8_0 T8_1 T8_f0 T8_f1 T8_l
  have XA_0 := XA.c 0 _ rfl
  have XA_1 := XA.c 1 _ rfl
  have XA_2 := XA.c 2 _ rfl
  have XA_3 := XA.c 3 _ rfl
  have XA_l := XA.lt
  have XB_0 := XB.c 0 _ rfl
  have XB_1 := XB.c 1 _ rfl
  have XB_2 := XB.c 2 _ rfl
  have XB_3 := XB.c 3 _ rfl
  have XB_l := XB.lt
  obtain ⟨T5_0, T5_1, T5_f0, T5_f1, T5_l⟩ := id T5
  obtain ⟨T6_0, T6_1, T6_f0, T6_f1, T6_l⟩ := id T6
  obtain ⟨T8_0, T8_1, T8_f0, T8_f1, T8_l⟩ := id T8
  go_wp2_with fail
  refine (CH.out _ _ _ VN.out).mono ?_
  rintro e w9 ⟨rfl, hb⟩
  clear VN
  have hk : Below (w8).heap.size (w8) w9 := hb
  have s9 : w.heap.size ≤ w9.heap.size := Nat.le_trans B8.size hk.size
  have q9 : w8.heap.size + 0 ≤ w9.heap.size := by have z := hk.size; (try simp only [World.size_alloc, World.size_setCell] at z); omega
  have B9 : Below w.heap.size w w9 := bcall B8 hk B8.size
  replace XA := XA.below hk XA.lt
  replace XB := XB.below hk XB.lt
  replace T5 := T5.below hk T5.lt
  replace T6 := T6.below hk T6.lt
  replace T8 := T8.below hk T8.lt
  clear B8 hk hb
  clear XA_0 XA_1 XA_2 XA_3 XA_l XB_0 XB_1 XB_2 XB_3 XB_l T5_0 T5_1 T5_f0 T5_f1 T5_l T6_0 T6_1 T6_f0 T6_f1 T6_l T8_0 T8_1 T8_f0 T8_f1 T8_l
  have XA_0 := XA.c 0 _ rfl
  have XA_1 := XA.c 1 _ rfl
  have XA_2 := XA.c 2 _ rfl
  have XA_3 := XA.c 3 _ rfl
  have XA_l := XA.lt
  have XB_0 := XB.c 0 _ rfl
  have XB_1 := XB.c 1 _ rfl
  have XB_2 := XB.c 2 _ rfl
  have XB_3 := XB.c 3 _ rfl
  have XB_l := XB.lt
  obtain ⟨T5_0, T5_1, T5_f0, T5_f1, T5_l⟩ := id T5
  obtain ⟨T6_0, T6_1, T6_f0, T6_f1, T6_l⟩ := id T6
  obtain ⟨T8_0, T8_1, T8_f0, T8_f1, T8_l⟩ := id T8
  go_wp2_with (go_at_call 12; refine (lfault_at _ _ _).mono ?_; rintro e w' ⟨rfl, rfl⟩)
  replace B9 := (B9.setCell (p := ⟨w4.heap.size, 0, none⟩) (by dsimp only; omega) (.int .i64 10))
  replace XA := (XA.far (a := ⟨w4.heap.size, 0, none⟩) (by dsimp only; omega) (.int .i64 10))
  replace XB := (XB.far (a := ⟨w4.heap.size, 0, none⟩) (by dsimp only; omega) (.int .i64 10))
  replace T5 := (T5.far (a := ⟨w4.heap.size, 0, none⟩) (by dsimp only; omega) (.int .i64 10))
  replace T8 := (T8.far (a := ⟨w4.heap.size, 0, none⟩) (by dsimp only; omega) (.int .i64 10))
  replace B9 := (B9.setCell (p := ⟨w4.heap.size, 1, none⟩) (by dsimp only; omega) (.int .i64 (-1)))
  replace XA := (XA.far (a := ⟨w4.heap.size, 1, none⟩) (by dsimp only; omega) (.int .i64 (-1)))
  replace XB := (XB.far (a := ⟨w4.heap.size, 1, none⟩) (by dsimp only; omega) (.int .i64 (-1)))
  replace T5 := (T5.far (a := ⟨w4.heap.size, 1, none⟩) (by dsimp only; omega) (.int .i64 (-1)))
  replace T8 := (T8.far (a := ⟨w4.heap.size, 1, none⟩) (by dsimp only; omega) (.int .i64 (-1)))
  replace T6 := (T6.set (.int .i64 10) (.int .i64 (-1)))
  replace B9 := (B9.alloc B9.size (.cells #[.int .i64 10, .int .i64 (-1)] 27))
  replace XA := (XA.alloc (.cells #[.int .i64 10, .int .i64 (-1)] 27))
  replace XB := (XB.alloc (.cells #[.int .i64 10, .int .i64 (-1)] 27))
  replace T5 := (T5.alloc (.cells #[.int .i64 10, .int .i64 (-1)] 27))
  replace T6 := (T6.alloc (.cells #[.int .i64 10, .int .i64 (-1)] 27))
  replace T8 := (T8.alloc (.cells #[.int .i64 10, .int .i64 (-1)] 27))
  refine (CX.out _ (HA.out.below B9 (Nat.le_refl _))).mono ?_
  rintro e w10 ⟨px, cx, rfl, vx, hb⟩
  have VX := Lib.hid vx
  clear vx
  have hk : Below ((((w9).setCell ⟨w4.heap.size, 0, none⟩ (.int .i64 10)).setCell ⟨w4.heap.size, 1, none⟩ (.int .i64 (-1))).alloc (.cells #[.int .i64 10, .int .i64 (-1)] 27)).heap.size ((((w9).setCell ⟨w4.heap.size, 0, none⟩ (.int .i64 10)).setCell ⟨w4.heap.size, 1, none⟩ (.int .i64 (-1))).alloc (.cells #[.int .i64 10, .int .i64 (-1)] 27)) w10 := hb
  have s10 : w.heap.size ≤ w10.heap.size := Nat.le_trans B9.size hk.size
  have q10 : w9.heap.size + 1 ≤ w10.heap.size := by have z := hk.size; (try simp only [World.size_alloc, World.size_setCell] at z); omega
  have B10 : Below w.heap.size w w10 := bcall B9 hk B9.size
  replace XA := XA.below hk XA.lt
  replace XB := XB.below hk XB.lt
  replace T5 := T5.below hk T5.lt
  replace T6 := T6.below hk T6.lt
  replace T8 := T8.below hk T8.lt
  clear B9 hk hb
  clear XA_0 XA_1 XA_2 XA_3 XA_l XB_0 XB_1 XB_2 XB_3 XB_l T5_0 T5_1 T5_f0 T5_f1 T5_l T6_0 T6_1 T6_f0 T6_f1 T6_l T8_0 T8_1 T8_f0 T8_f1 T8_l
  have XA_0 := XA.c 0 _ rfl
  have XA_1 := XA.c 1 _ rfl
  have XA_2 := XA.c 2 _ rfl
  have XA_3 := XA.c 3 _ rfl
  have XA_l := XA.lt
  have XB_0 := XB.c 0 _ rfl
  have XB_1 := XB.c 1 _ rfl
  have XB_2 := XB.c 2 _ rfl
  have XB_3 := XB.c 3 _ rfl
  have XB_l := XB.lt
  obtain ⟨T5_0, T5_1, T5_f0, T5_f1, T5_l⟩ := id T5
  obtain ⟨T6_0, T6_1, T6_f0, T6_f1, T6_l⟩ := id T6
  obtain ⟨T8_0, T8_1, T8_f0, T8_f1, T8_l⟩ := id T8
  go_wp2_with fail
  refine wp_region_ord [0, 1, 2, 3, 4, 5, 6, 7, 8, 9, 10, 11, 12, 13, 14, 15, 16, 17, 18, 19, 20, 21, 22, 23, 24] (by kernel_rfl) (by kernel_rfl) ?_
  replace VX := Lib.hid (VIn.setF VX.out T8 (.int .i64 10) (.int .i64 (-1)))
  replace B10 := (B10.setCell (p := ⟨w6.heap.size, 0, none⟩) (by dsimp only; omega) (.int .i64 10))
  replace XA := (XA.far (a := ⟨w6.heap.size, 0, none⟩) (by dsimp only; omega) (.int .i64 10))
  replace XB := (XB.far (a := ⟨w6.heap.size, 0, none⟩) (by dsimp only; omega) (.int .i64 10))
  replace T5 := (T5.far (a := ⟨w6.heap.size, 0, none⟩) (by dsimp only; omega) (.int .i64 10))
  replace T6 := (T6.far (a := ⟨w6.heap.size, 0, none⟩) (by dsimp only; omega) (.int .i64 10))
  replace B10 := (B10.setCell (p := ⟨w6.heap.size, 1, none⟩) (by dsimp only; omega) (.int .i64 (-1)))
  replace XA := (XA.far (a := ⟨w6.heap.size, 1, none⟩) (by dsimp only; omega) (.int .i64 (-1)))
  replace XB := (XB.far (a := ⟨w6.heap.size, 1, none⟩) (by dsimp only; omega) (.int .i64 (-1)))
  replace T5 := (T5.far (a := ⟨w6.heap.size, 1, none⟩) (by dsimp only; omega) (.int .i64 (-1)))
  replace T6 := (T6.far (a := ⟨w6.heap.size, 1, none⟩) (by dsimp only; omega) (.int .i64 (-1)))
  replace T8 := (T8.set (.int .i64 10) (.int .i64 (-1)))
  replace B10 := (B10.alloc B10.size (.cells #[.int .i64 Pl.Ver.zero.maj, .int .i64 Pl.Ver.zero.min, .int .i64 Pl.Ver.zero.pat, .slice px Pl.Ver.zero.pre.length cx] 24))
  replace XA := (XA.alloc (.cells #[.int .i64 Pl.Ver.zero.maj, .int .i64 Pl.Ver.zero.min, .int .i64 Pl.Ver.zero.pat, .slice px Pl.Ver.zero.pre.length cx] 24))
  replace XB := (XB.alloc (.cells #[.int .i64 Pl.Ver.zero.maj, .int .i64 Pl.Ver.zero.min, .int .i64 Pl.Ver.zero.pat, .slice px Pl.Ver.zero.pre.length cx] 24))
  replace T5 := (T5.alloc (.cells #[.int .i64 Pl.Ver.zero.maj, .int .i64 Pl.Ver.zero.min, .int .i64 Pl.Ver.zero.pat, .slice px Pl.Ver.zero.pre.length cx] 24))
  replace T6 := (T6.alloc (.cells #[.int .i64 Pl.Ver.zero.maj, .int .i64 Pl.Ver.zero.min, .int .i64 Pl.Ver.zero.pat, .slice px Pl.Ver.zero.pre.length cx] 24))
  replace T8 := (T8.alloc (.cells #[.int .i64 Pl.Ver.zero.maj, .int .i64 Pl.Ver.zero.min, .int .i64 Pl.Ver.zero.pat, .slice px Pl.Ver.zero.pre.length cx] 24))
  replace VX := Lib.hid (VX.out.below (B := (((w10).setCell ⟨w6.heap.size, 0, none⟩ (.int .i64 10)).setCell ⟨w6.heap.size, 1, none⟩ (.int .i64 (-1))).heap.size) (w' := (((w10).setCell ⟨w6.heap.size, 0, none⟩ (.int .i64 10)).setCell ⟨w6.heap.size, 1, none⟩ (.int .i64 (-1))).alloc (.cells #[.int .i64 Pl.Ver.zero.maj, .int .i64 Pl.Ver.zero.min, .int .i64 Pl.Ver.zero.pat, .slice px Pl.Ver.zero.pre.length cx] 24)) ((Below.refl _ _).alloc (Nat.le_refl _) _) (Nat.le_refl _))
  have T9 : Blk ((((w10).setCell ⟨w6.heap.size, 0, none⟩ (.int .i64 10)).setCell ⟨w6.heap.size, 1, none⟩ (.int .i64 (-1))).alloc (.cells #[.int .i64 Pl.Ver.zero.maj, .int .i64 Pl.Ver.zero.min, .int .i64 Pl.Ver.zero.pat, .slice px Pl.Ver.zero.pre.length cx] 24)) (w10.heap.size) [.int .i64 Pl.Ver.zero.maj, .int .i64 Pl.Ver.zero.min, .int .i64 Pl.Ver.zero.pat, .slice px Pl.Ver.zero.pre.length cx] := Blk.new (((w10).setCell ⟨w6.heap.size, 0, none⟩ (.int .i64 10)).setCell ⟨w6.heap.size, 1, none⟩ (.int .i64 (-1))) [.int .i64 Pl.Ver.zero.maj, .int .i64 Pl.Ver.zero.min, .int .i64 Pl.Ver.zero.pat, .slice px Pl.Ver.zero.pre.length cx] 24 (g := w10.heap.size) (by simp)
  have q11 : w10.heap.size + 1 ≤ ((((w10).setCell ⟨w6.heap.size, 0, none⟩ (.int .i64 10)).setCell ⟨w6.heap.size, 1, none⟩ (.int .i64 (-1))).alloc (.cells #[.int .i64 Pl.Ver.zero.maj, .int .i64 Pl.Ver.zero.min, .int .i64 Pl.Ver.zero.pat, .slice px Pl.Ver.zero.pre.length cx] 24)).drew.heap.size := by simp only [World.size_alloc, World.size_setCell, World.size_drew]; omega
  replace B10 := B10.drew
  replace XA := XA.drew
  replace XB := XB.drew
  replace T5 := T5.drew
  replace T6 := T6.drew
  replace T8 := T8.drew
  replace VX := Lib.hid (VX.out.below (B := ((((w10).setCell ⟨w6.heap.size, 0, none⟩ (.int .i64 10)).setCell ⟨w6.heap.size, 1, none⟩ (.int .i64 (-1))).alloc (.cells #[.int .i64 Pl.Ver.zero.maj, .int .i64 Pl.Ver.zero.min, .int .i64 Pl.Ver.zero.pat, .slice px Pl.Ver.zero.pre.length cx] 24)).heap.size) (w' := ((((w10).setCell ⟨w6.heap.size, 0, none⟩ (.int .i64 10)).setCell ⟨w6.heap.size, 1, none⟩ (.int .i64 (-1))).alloc (.cells #[.int .i64 Pl.Ver.zero.maj, .int .i64 Pl.Ver.zero.min, .int .i64 Pl.Ver.zero.pat, .slice px Pl.Ver.zero.pre.length cx] 24)).drew) (Below.refl _ _).drew (Nat.le_refl _))
  replace T9 := T9.drew
  clear XA_0 XA_1 XA_2 XA_3 XA_l XB_0 XB_1 XB_2 XB_3 XB_l T5_0 T5_1 T5_f0 T5_f1 T5_l T6_0 T6_1 T6_f0 T6_f1 T6_l T8_0 T8_1 T8_f0 T8_f1 T8_l
  generalize ((((w10).setCell ⟨w6.heap.size, 0, none⟩ (.int .i64 10)).setCell ⟨w6.heap.size, 1, none⟩ (.int .i64 (-1))).alloc (.cells #[.int .i64 Pl.Ver.zero.maj, .int .i64 Pl.Ver.zero.min, .int .i64 Pl.Ver.zero.pat, .slice px Pl.Ver.zero.pre.length cx] 24)).drew = w11 at *
  have s11 : w.heap.size ≤ w11.heap.size := B10.size
  have XA_0 := XA.c 0 _ rfl
  have XA_1 := XA.c 1 _ rfl
  have XA_2 := XA.c 2 _ rfl
  have XA_3 := XA.c 3 _ rfl
  have XA_l := XA.lt
  have XB_0 := XB.c 0 _ rfl
  have XB_1 := XB.c 1 _ rfl
  have XB_2 := XB.c 2 _ rfl
  have XB_3 := XB.c 3 _ rfl
  have XB_l := XB.lt
  obtain ⟨T5_0, T5_1, T5_f0, T5_f1, T5_l⟩ := id T5
  obtain ⟨T6_0, T6_1, T6_f0, T6_f1, T6_l⟩ := id T6
  obtain ⟨T8_0, T8_1, T8_f0, T8_f1, T8_l⟩ := id T8
  have T9_0 := T9.c 0 _ rfl
  have T9_1 := T9.c 1 _ rfl
  have T9_2 := T9.c 2 _ rfl
  have T9_3 := T9.c 3 _ rfl
  have T9_l := T9.lt
  repeat (first | (refine wpI_rd rfl rfl ?_; go_big_quiet_step (fail); refine wpQuiet_nil ?_) | (refine wpI_skip rfl rfl ?_; try simp only [Act.put, List.setIfInBounds_toArray, List.set_cons_zero, List.set_cons_succ]))
  try simp only [Act.put, List.setIfInBounds_toArray, List.set_cons_zero, List.set_cons_succ]
  refine wpI_call (f := 17) rfl rfl rfl (by simp [go_sem]; rfl) ?_
  refine (CS.out _ _ _ _ _ VX.out (VIn.zero _)).mono ?_
  rintro e w12 ⟨rfl, hb⟩
  refine ⟨_, rfl, hb, ?_⟩
  skip
  have hk : Below (w11).heap.size (w11) w12 := hb
  have s12 : w.heap.size ≤ w12.heap.size := Nat.le_trans B10.size hk.size
  have q12 : w11.heap.size + 0 ≤ w12.heap.size := by have z := hk.size; (try simp only [World.size_alloc, World.size_setCell] at z); omega
  have B12 : Below w.heap.size w w12 := bcall B10 hk B10.size
  replace XA := XA.below hk XA.lt
  replace XB := XB.below hk XB.lt
  replace T5 := T5.below hk T5.lt
  replace T6 := T6.below hk T6.lt
  replace T8 := T8.below hk T8.lt
  replace VX := Lib.hid (VX.out.below hk (Nat.le_refl _))
  replace T9 := T9.below hk T9.lt
  clear B10 hk hb
  clear XA_0 XA_1 XA_2 XA_3 XA_l XB_0 XB_1 XB_2 XB_3 XB_l T5_0 T5_1 T5_f0 T5_f1 T5_l T6_0 T6_1 T6_f0 T6_f1 T6_l T8_0 T8_1 T8_f0 T8_f1 T8_l T9_0 T9_1 T9_2 T9_3 T9_l
  have XA_0 := XA.c 0 _ rfl
  have XA_1 := XA.c 1 _ rfl
  have XA_2 := XA.c 2 _ rfl
  have XA_3 := XA.c 3 _ rfl
  have XA_l := XA.lt
  have XB_0 := XB.c 0 _ rfl
  have XB_1 := XB.c 1 _ rfl
  have XB_2 := XB.c 2 _ rfl
  have XB_3 := XB.c 3 _ rfl
  have XB_l := XB.lt
  obtain ⟨T5_0, T5_1, T5_f0, T5_f1, T5_l⟩ := id T5
  obtain ⟨T6_0, T6_1, T6_f0, T6_f1, T6_l⟩ := id T6
  obtain ⟨T8_0, T8_1, T8_f0, T8_f1, T8_l⟩ := id T8
  have T9_0 := T9.c 0 _ rfl
  have T9_1 := T9.c 1 _ rfl
  have T9_2 := T9.c 2 _ rfl
  have T9_3 := T9.c 3 _ rfl
  have T9_l := T9.lt
  try simp only [Act.put, List.setIfInBounds_toArray, List.set_cons_zero, List.set_cons_succ]
  repeat (first | (refine wpI_rd rfl rfl ?_; go_big_quiet_step (fail); refine wpQuiet_nil ?_) | (refine wpI_skip rfl rfl ?_; try simp only [Act.put, List.setIfInBounds_toArray, List.set_cons_zero, List.set_cons_succ]))
  try simp only [Act.put, List.setIfInBounds_toArray, List.set_cons_zero, List.set_cons_succ]
  refine wpI_nil ?_
  try simp only [Act.put, List.setIfInBounds_toArray, List.set_cons_zero, List.set_cons_succ]
  go_wp2_with fail
  go_ret
  exact ⟨rfl, B12⟩
theorem vms_any (a b : Pl.Ver) (pa pb : Option Addr) (ca cb : Nat) (w : World) (E : Env w) (ha : VIn w a pa ca) (hb : VIn w b pb cb) :
    Calls Tryd.prog 3 #[verV a pa ca, verV b pb cb] w fun e w' => e = .returned (.bool true) ∧ Below w.heap.size w w' := by
  rcases Pl.vrF_cases a with ⟨-, oka⟩ | fa
  · rcases Pl.vrF_cases b with ⟨-, okb⟩ | fb
    · rcases Pl.vrF_cases (Pl.verNext a) with ⟨eh, -⟩ | fh
      · exact vms_Ct a b pa pb ca cb w E ha hb oka okb eh
      · exact vms_Cf a b pa pb ca cb w E ha hb oka okb _ _ fh rfl
    · rcases Pl.vrF_cases (Pl.verNext a) with ⟨eh, -⟩ | fh
      · exact vms_Bt a b pa pb ca cb w E ha hb oka _ _ fb rfl eh
      · exact vms_Bf a b pa pb ca cb w E ha hb oka _ _ fb rfl _ _ fh rfl
  · exact vms_A a b pa pb ca cb w E ha hb _ _ fa rfl
end Go.Proofs.YthnhajihkdgifaaDoor
