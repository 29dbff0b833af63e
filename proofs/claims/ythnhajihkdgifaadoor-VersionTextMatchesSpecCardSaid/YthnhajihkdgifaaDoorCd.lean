/- Law: the texts of versions are as specified (walk). -/
import Derived.Test.YthnhajihkdgifaaDoorCb
namespace Go.Proofs.YthnhajihkdgifaaDoor
open Go.RowKit
set_option maxRecDepth 100000 in
set_option maxHeartbeats 4000000 in
theorem vtm_GL (v : Pl.Ver) (s : ByteArray) (pa : Option Addr) (ca : Nat) (w : World) (E : Env w) (ha : VIn w v pa ca) (hs : s.size ≤ 9223372036854775807) (okv : v.Ok) (hl : 80 < s.size) :
    Calls Tryd.prog 4 #[verV v pa ca, .string s] w fun e w' => e = .returned (.bool true) ∧ Below w.heap.size w w' := by
  have HE := Lib.hid E
  have HA := Lib.hid ha
  have ea := Pl.vrF_ok okv
  have CA := Lib.hid (fun (W : World) (h : VIn W v pa ca) => VersionFault_any v pa ca W h)
  rw [ea] at CA
  have CF := Lib.hid (fun (W : World) (h : VIn W v pa ca) (e : Env W) => Format_any v pa ca W h e)
  rw [ea] at CF
  have et : Pl.fmtV v = Pl.mkS (Pl.verT v) := by unfold Pl.fmtV; rw [ea, if_neg (by decide)]
  obtain ⟨T, hT⟩ : ∃ T, Pl.mkS (Pl.verT v) = T := ⟨_, rfl⟩
  rw [et, hT] at CF
  have CT := Lib.hid (fun (W : World) (h : VIn W v pa ca) => VersionText_any v pa ca W h okv)
  rw [hT] at CT
  clear hT et
  have ep : Pl.parV s = Pl.Ver.zero := by unfold Pl.parV; rw [if_pos hl]
  have eq : Pl.parF s = (2, -1) := by unfold Pl.parF; rw [if_pos hl]
  have CP := Lib.hid (fun (W : World) (e : Env W) => Parse_any s W hs e)
  rw [ep, eq] at CP
  delta RVerF at CP
  have CS := Lib.hid (fun (W : World) (p q : Option Addr) (c d : Nat) (h : VIn W Pl.Ver.zero p c) (h2 : VIn W Pl.Ver.zero q d) => SameVersion_any Pl.Ver.zero Pl.Ver.zero p q c d W h h2)
  rw [Pl.sameB_iff.2 rfl] at CS
  simp only [fltV] at CA CF CP
  have l1 : (s.size : Int) ≤ 9223372036854775807 := by omega
  have l2 : decide ((80 : Int) < (s.size : Int)) = true := by simp; omega
  have l3 : decide (80 < s.size) = true := by simp; omega
  clear E ha ea ep eq
  go_enter Tryd.func4, Tryd.ntmps4
  have B0 : Below w.heap.size w w := Below.refl _ _
  go_wp2_with fail
  replace B0 := (B0.alloc B0.size (.cells #[.int .i64 v.maj, .int .i64 v.min, .int .i64 v.pat, .slice pa v.pre.length ca] 24))
  have XA : Blk ((w).alloc (.cells #[.int .i64 v.maj, .int .i64 v.min, .int .i64 v.pat, .slice pa v.pre.length ca] 24)) (w.heap.size) [.int .i64 v.maj, .int .i64 v.min, .int .i64 v.pat, .slice pa v.pre.length ca] := Blk.new (w) [.int .i64 v.maj, .int .i64 v.min, .int .i64 v.pat, .slice pa v.pre.length ca] 24 (g := w.heap.size) (by simp)
  refine (orders_any _ (HE.out.below B0 (Nat.le_refl _))).mono ?_
  rintro e w1 ⟨rfl, hb⟩
  have hk : Below ((w).alloc (.cells #[.int .i64 v.maj, .int .i64 v.min, .int .i64 v.pat, .slice pa v.pre.length ca] 24)).heap.size ((w).alloc (.cells #[.int .i64 v.maj, .int .i64 v.min, .int .i64 v.pat, .slice pa v.pre.length ca] 24)) w1 := hb
  have s1 : w.heap.size ≤ w1.heap.size := Nat.le_trans B0.size hk.size
  have q1 : w.heap.size + 1 ≤ w1.heap.size := by have z := hk.size; (try simp only [World.size_alloc] at z); omega
  have B1 : Below w.heap.size w w1 := bcall B0 hk B0.size
  replace XA := XA.below hk XA.lt
  clear B0 hk hb
  have XA_0 := XA.c 0 _ rfl
  have XA_1 := XA.c 1 _ rfl
  have XA_2 := XA.c 2 _ rfl
  have XA_3 := XA.c 3 _ rfl
  have XA_l := XA.lt
  go_wp2_with fail
  refine (CA.out _ (HA.out.below B1 (Nat.le_refl _))).mono ?_
  rintro e w2 ⟨rfl, hb⟩
  have hk : Below (w1).heap.size (w1) w2 := hb
  have s2 : w.heap.size ≤ w2.heap.size := Nat.le_trans B1.size hk.size
  have q2 : w1.heap.size + 0 ≤ w2.heap.size := by have z := hk.size; (try simp only [World.size_alloc, World.size_setCell] at z); omega
  have B2 : Below w.heap.size w w2 := bcall B1 hk B1.size
  replace XA := XA.below hk XA.lt
  clear B1 hk hb
  clear XA_0 XA_1 XA_2 XA_3 XA_l
  have XA_0 := XA.c 0 _ rfl
  have XA_1 := XA.c 1 _ rfl
  have XA_2 := XA.c 2 _ rfl
  have XA_3 := XA.c 3 _ rfl
  have XA_l := XA.lt
  go_wp2_with fail
  replace B2 := (B2.alloc B2.size (.cells #[.int .i64 0, .int .i64 0] 27))
  replace XA := (XA.alloc (.cells #[.int .i64 0, .int .i64 0] 27))
  have T5 : Box2 ((w2).alloc (.cells #[.int .i64 0, .int .i64 0] 27)) (w2.heap.size) (.int .i64 0) (.int .i64 0) := Box2.newAt (w := w2) (r := w2.heap.size) (x := .int .i64 0) (y := .int .i64 0) (t := 27) (by simp)
  refine (CF.out _ (HA.out.below B2 (Nat.le_refl _)) (HE.out.below B2 (Nat.le_refl _))).mono ?_
  rintro e w3 ⟨rfl, hb⟩
  have hk : Below ((w2).alloc (.cells #[.int .i64 0, .int .i64 0] 27)).heap.size ((w2).alloc (.cells #[.int .i64 0, .int .i64 0] 27)) w3 := hb
  have s3 : w.heap.size ≤ w3.heap.size := Nat.le_trans B2.size hk.size
  have q3 : w2.heap.size + 1 ≤ w3.heap.size := by have z := hk.size; (try simp only [World.size_alloc] at z); omega
  have B3 : Below w.heap.size w w3 := bcall B2 hk B2.size
  replace XA := XA.below hk XA.lt
  replace T5 := T5.below hk T5.lt
  clear B2 hk hb
  clear XA_0 XA_1 XA_2 XA_3 XA_l
  have XA_0 := XA.c 0 _ rfl
  have XA_1 := XA.c 1 _ rfl
  have XA_2 := XA.c 2 _ rfl
  have XA_3 := XA.c 3 _ rfl
  have XA_l := XA.lt
  obtain ⟨T5_0, T5_1, T5_f0, T5_f1, T5_l⟩ := id T5
  go_wp2_with fail
  replace B3 := (B3.alloc B3.size (.cells #[.int .i64 0, .int .i64 0] 27))
  replace XA := (XA.alloc (.cells #[.int .i64 0, .int .i64 0] 27))
  replace T5 := (T5.alloc (.cells #[.int .i64 0, .int .i64 0] 27))
  have T7 : Box2 ((w3).alloc (.cells #[.int .i64 0, .int .i64 0] 27)) (w3.heap.size) (.int .i64 0) (.int .i64 0) := Box2.newAt (w := w3) (r := w3.heap.size) (x := .int .i64 0) (y := .int .i64 0) (t := 27) (by simp)
  refine (CT.out _ (HA.out.below B3 (Nat.le_refl _))).mono ?_
  rintro e w4 ⟨rfl, hb⟩
  have hk : Below ((w3).alloc (.cells #[.int .i64 0, .int .i64 0] 27)).heap.size ((w3).alloc (.cells #[.int .i64 0, .int .i64 0] 27)) w4 := hb
  have s4 : w.heap.size ≤ w4.heap.size := Nat.le_trans B3.size hk.size
  have q4 : w3.heap.size + 1 ≤ w4.heap.size := by have z := hk.size; (try simp only [World.size_alloc] at z); omega
  have B4 : Below w.heap.size w w4 := bcall B3 hk B3.size
  replace XA := XA.below hk XA.lt
  replace T5 := T5.below hk T5.lt
  replace T7 := T7.below hk T7.lt
  clear B3 hk hb
  clear XA_0 XA_1 XA_2 XA_3 XA_l T5_0 T5_1 T5_f0 T5_f1 T5_l
  have XA_0 := XA.c 0 _ rfl
  have XA_1 := XA.c 1 _ rfl
  have XA_2 := XA.c 2 _ rfl
  have XA_3 := XA.c 3 _ rfl
  have XA_l := XA.lt
  obtain ⟨T5_0, T5_1, T5_f0, T5_f1, T5_l⟩ := id T5
  obtain ⟨T7_0, T7_1, T7_f0, T7_f1, T7_l⟩ := id T7
  go_wp2_with fail
  refine (CP.out _ (HE.out.below B4 (Nat.le_refl _))).mono ?_
  rintro e w5 ⟨px, cx, rfl, vx, hb⟩
  have VX := Lib.hid vx
  clear vx
  have hk : Below (w4).heap.size (w4) w5 := hb
  have s5 : w.heap.size ≤ w5.heap.size := Nat.le_trans B4.size hk.size
  have q5 : w4.heap.size + 0 ≤ w5.heap.size := by have z := hk.size; (try simp only [World.size_alloc, World.size_setCell] at z); omega
  have B5 : Below w.heap.size w w5 := bcall B4 hk B4.size
  replace XA := XA.below hk XA.lt
  replace T5 := T5.below hk T5.lt
  replace T7 := T7.below hk T7.lt
  clear B4 hk hb
  clear XA_0 XA_1 XA_2 XA_3 XA_l T5_0 T5_1 T5_f0 T5_f1 T5_l T7_0 T7_1 T7_f0 T7_f1 T7_l
  have XA_0 := XA.c 0 _ rfl
  have XA_1 := XA.c 1 _ rfl
  have XA_2 := XA.c 2 _ rfl
  have XA_3 := XA.c 3 _ rfl
  have XA_l := XA.lt
  obtain ⟨T5_0, T5_1, T5_f0, T5_f1, T5_l⟩ := id T5
  obtain ⟨T7_0, T7_1, T7_f0, T7_f1, T7_l⟩ := id T7
  go_wp2_with fail
  refine wp_region_ord [0, 1, 2, 3, 4, 5, 6, 7, 8] (by kernel_rfl) (by kernel_rfl) ?_
  replace B5 := (B5.alloc B5.size (.cells #[.int .i64 Pl.Ver.zero.maj, .int .i64 Pl.Ver.zero.min, .int .i64 Pl.Ver.zero.pat, .slice px Pl.Ver.zero.pre.length cx] 24))
  replace XA := (XA.alloc (.cells #[.int .i64 Pl.Ver.zero.maj, .int .i64 Pl.Ver.zero.min, .int .i64 Pl.Ver.zero.pat, .slice px Pl.Ver.zero.pre.length cx] 24))
  replace T5 := (T5.alloc (.cells #[.int .i64 Pl.Ver.zero.maj, .int .i64 Pl.Ver.zero.min, .int .i64 Pl.Ver.zero.pat, .slice px Pl.Ver.zero.pre.length cx] 24))
  replace T7 := (T7.alloc (.cells #[.int .i64 Pl.Ver.zero.maj, .int .i64 Pl.Ver.zero.min, .int .i64 Pl.Ver.zero.pat, .slice px Pl.Ver.zero.pre.length cx] 24))
  replace VX := Lib.hid (VX.out.below (B := (w5).heap.size) (w' := (w5).alloc (.cells #[.int .i64 Pl.Ver.zero.maj, .int .i64 Pl.Ver.zero.min, .int .i64 Pl.Ver.zero.pat, .slice px Pl.Ver.zero.pre.length cx] 24)) ((Below.refl _ _).alloc (Nat.le_refl _) _) (Nat.le_refl _))
  have T8 : Blk ((w5).alloc (.cells #[.int .i64 Pl.Ver.zero.maj, .int .i64 Pl.Ver.zero.min, .int .i64 Pl.Ver.zero.pat, .slice px Pl.Ver.zero.pre.length cx] 24)) (w5.heap.size) [.int .i64 Pl.Ver.zero.maj, .int .i64 Pl.Ver.zero.min, .int .i64 Pl.Ver.zero.pat, .slice px Pl.Ver.zero.pre.length cx] := Blk.new (w5) [.int .i64 Pl.Ver.zero.maj, .int .i64 Pl.Ver.zero.min, .int .i64 Pl.Ver.zero.pat, .slice px Pl.Ver.zero.pre.length cx] 24 (g := w5.heap.size) (by simp)
  replace B5 := (B5.alloc B5.size (.cells #[.int .i64 2, .int .i64 (-1)] 27))
  replace XA := (XA.alloc (.cells #[.int .i64 2, .int .i64 (-1)] 27))
  replace T5 := (T5.alloc (.cells #[.int .i64 2, .int .i64 (-1)] 27))
  replace T7 := (T7.alloc (.cells #[.int .i64 2, .int .i64 (-1)] 27))
  replace VX := Lib.hid (VX.out.below (B := ((w5).alloc (.cells #[.int .i64 Pl.Ver.zero.maj, .int .i64 Pl.Ver.zero.min, .int .i64 Pl.Ver.zero.pat, .slice px Pl.Ver.zero.pre.length cx] 24)).heap.size) (w' := ((w5).alloc (.cells #[.int .i64 Pl.Ver.zero.maj, .int .i64 Pl.Ver.zero.min, .int .i64 Pl.Ver.zero.pat, .slice px Pl.Ver.zero.pre.length cx] 24)).alloc (.cells #[.int .i64 2, .int .i64 (-1)] 27)) ((Below.refl _ _).alloc (Nat.le_refl _) _) (Nat.le_refl _))
  replace T8 := (T8.alloc (.cells #[.int .i64 2, .int .i64 (-1)] 27))
  have T9 : Box2 (((w5).alloc (.cells #[.int .i64 Pl.Ver.zero.maj, .int .i64 Pl.Ver.zero.min, .int .i64 Pl.Ver.zero.pat, .slice px Pl.Ver.zero.pre.length cx] 24)).alloc (.cells #[.int .i64 2, .int .i64 (-1)] 27)) (w5.heap.size + 1) (.int .i64 2) (.int .i64 (-1)) := Box2.newAt (w := (w5).alloc (.cells #[.int .i64 Pl.Ver.zero.maj, .int .i64 Pl.Ver.zero.min, .int .i64 Pl.Ver.zero.pat, .slice px Pl.Ver.zero.pre.length cx] 24)) (r := w5.heap.size + 1) (x := .int .i64 2) (y := .int .i64 (-1)) (t := 27) (by simp)
  have q6 : w5.heap.size + 2 ≤ (((w5).alloc (.cells #[.int .i64 Pl.Ver.zero.maj, .int .i64 Pl.Ver.zero.min, .int .i64 Pl.Ver.zero.pat, .slice px Pl.Ver.zero.pre.length cx] 24)).alloc (.cells #[.int .i64 2, .int .i64 (-1)] 27)).drew.heap.size := by simp only [World.size_alloc, World.size_drew]; omega
  replace B5 := B5.drew
  replace XA := XA.drew
  replace T5 := T5.drew
  replace T7 := T7.drew
  replace VX := Lib.hid (VX.out.below (B := (((w5).alloc (.cells #[.int .i64 Pl.Ver.zero.maj, .int .i64 Pl.Ver.zero.min, .int .i64 Pl.Ver.zero.pat, .slice px Pl.Ver.zero.pre.length cx] 24)).alloc (.cells #[.int .i64 2, .int .i64 (-1)] 27)).heap.size) (w' := (((w5).alloc (.cells #[.int .i64 Pl.Ver.zero.maj, .int .i64 Pl.Ver.zero.min, .int .i64 Pl.Ver.zero.pat, .slice px Pl.Ver.zero.pre.length cx] 24)).alloc (.cells #[.int .i64 2, .int .i64 (-1)] 27)).drew) (Below.refl _ _).drew (Nat.le_refl _))
  replace T8 := T8.drew
  replace T9 := T9.drew
  clear XA_0 XA_1 XA_2 XA_3 XA_l T5_0 T5_1 T5_f0 T5_f1 T5_l T7_0 T7_1 T7_f0 T7_f1 T7_l
  generalize (((w5).alloc (.cells #[.int .i64 Pl.Ver.zero.maj, .int .i64 Pl.Ver.zero.min, .int .i64 Pl.Ver.zero.pat, .slice px Pl.Ver.zero.pre.length cx] 24)).alloc (.cells #[.int .i64 2, .int .i64 (-1)] 27)).drew = w6 at *
  have s6 : w.heap.size ≤ w6.heap.size := B5.size
  have XA_0 := XA.c 0 _ rfl
  have XA_1 := XA.c 1 _ rfl
  have XA_2 := XA.c 2 _ rfl
  have XA_3 := XA.c 3 _ rfl
  have XA_l := XA.lt
  obtain ⟨T5_0, T5_1, T5_f0, T5_f1, T5_l⟩ := id T5
  obtain ⟨T7_0, T7_1, T7_f0, T7_f1, T7_l⟩ := id T7
  have T8_0 := T8.c 0 _ rfl
  have T8_1 := T8.c 1 _ rfl
  have T8_2 := T8.c 2 _ rfl
  have T8_3 := T8.c 3 _ rfl
  have T8_l := T8.lt
  obtain ⟨T9_0, T9_1, T9_f0, T9_f1, T9_l⟩ := id T9
  repeat (first | (refine wpI_rd rfl rfl ?_; go_big_quiet_step (fail); refine wpQuiet_nil ?_) | (refine wpI_skip rfl rfl ?_; try simp only [Act.put, List.setIfInBounds_toArray, List.set_cons_zero, List.set_cons_succ]))
  try simp only [Act.put, List.setIfInBounds_toArray, List.set_cons_zero, List.set_cons_succ]
  refine wpI_call (f := 12) (args := #[.int .i64 2, .int .i64 (-1)]) rfl rfl rfl (by simp [go_sem]) ?_
  refine (lfault_at _ _ _).mono ?_
  rintro e w0 ⟨rfl, rfl⟩
  refine ⟨_, rfl, by go_grown, ?_⟩
  try simp only [Act.put, List.setIfInBounds_toArray, List.set_cons_zero, List.set_cons_succ]
  repeat (first | (refine wpI_rd rfl rfl ?_; go_big_quiet_step (fail); refine wpQuiet_nil ?_) | (refine wpI_skip rfl rfl ?_; try simp only [Act.put, List.setIfInBounds_toArray, List.set_cons_zero, List.set_cons_succ]))
  try simp only [Act.put, List.setIfInBounds_toArray, List.set_cons_zero, List.set_cons_succ]
  replace B5 := (B5.alloc B5.size (.cells #[.int .i64 2, .int .i64 (-1)] 27))
  replace XA := (XA.alloc (.cells #[.int .i64 2, .int .i64 (-1)] 27))
  replace T5 := (T5.alloc (.cells #[.int .i64 2, .int .i64 (-1)] 27))
  replace T7 := (T7.alloc (.cells #[.int .i64 2, .int .i64 (-1)] 27))
  replace VX := Lib.hid (VX.out.below (B := (w6).heap.size) (w' := (w6).alloc (.cells #[.int .i64 2, .int .i64 (-1)] 27)) ((Below.refl _ _).alloc (Nat.le_refl _) _) (Nat.le_refl _))
  replace T8 := (T8.alloc (.cells #[.int .i64 2, .int .i64 (-1)] 27))
  replace T9 := (T9.alloc (.cells #[.int .i64 2, .int .i64 (-1)] 27))
  refine wpI_call (f := 17) rfl rfl rfl (by simp [go_sem]; rfl) ?_
  refine (CS.out _ _ _ _ _ VX.out (VIn.zero _)).mono ?_
  rintro e w7 ⟨rfl, hb⟩
  refine ⟨_, rfl, hb, ?_⟩
  skip
  have hk : Below ((w6).alloc (.cells #[.int .i64 2, .int .i64 (-1)] 27)).heap.size ((w6).alloc (.cells #[.int .i64 2, .int .i64 (-1)] 27)) w7 := hb
  have s7 : w.heap.size ≤ w7.heap.size := Nat.le_trans B5.size hk.size
  have q7 : w6.heap.size + 1 ≤ w7.heap.size := by have z := hk.size; (try simp only [World.size_alloc] at z); omega
  have B7 : Below w.heap.size w w7 := bcall B5 hk B5.size
  replace XA := XA.below hk XA.lt
  replace T5 := T5.below hk T5.lt
  replace T7 := T7.below hk T7.lt
  replace VX := Lib.hid (VX.out.below hk (Nat.le_refl _))
  replace T8 := T8.below hk T8.lt
  replace T9 := T9.below hk T9.lt
  clear B5 hk hb
  clear XA_0 XA_1 XA_2 XA_3 XA_l T5_0 T5_1 T5_f0 T5_f1 T5_l T7_0 T7_1 T7_f0 T7_f1 T7_l T8_0 T8_1 T8_2 T8_3 T8_l T9_0 T9_1 T9_f0 T9_f1 T9_l
  have XA_0 := XA.c 0 _ rfl
  have XA_1 := XA.c 1 _ rfl
  have XA_2 := XA.c 2 _ rfl
  have XA_3 := XA.c 3 _ rfl
  have XA_l := XA.lt
  obtain ⟨T5_0, T5_1, T5_f0, T5_f1, T5_l⟩ := id T5
  obtain ⟨T7_0, T7_1, T7_f0, T7_f1, T7_l⟩ := id T7
  have T8_0 := T8.c 0 _ rfl
  have T8_1 := T8.c 1 _ rfl
  have T8_2 := T8.c 2 _ rfl
  have T8_3 := T8.c 3 _ rfl
  have T8_l := T8.lt
  obtain ⟨T9_0, T9_1, T9_f0, T9_f1, T9_l⟩ := id T9
  try simp only [Act.put, List.setIfInBounds_toArray, List.set_cons_zero, List.set_cons_succ]
  repeat (first | (refine wpI_rd rfl rfl ?_; go_big_quiet_step (fail); refine wpQuiet_nil ?_) | (refine wpI_skip rfl rfl ?_; try simp only [Act.put, List.setIfInBounds_toArray, List.set_cons_zero, List.set_cons_succ]))
  try simp only [Act.put, List.setIfInBounds_toArray, List.set_cons_zero, List.set_cons_succ]
  refine wpI_nil ?_
  try simp only [Act.put, List.setIfInBounds_toArray, List.set_cons_zero, List.set_cons_succ]
  go_wp2_with fail
  go_ret
  exact ⟨rfl, B7⟩
set_option maxRecDepth 100000 in
set_option maxHeartbeats 4000000 in
theorem vtm_GN (v : Pl.Ver) (s : ByteArray) (pa : Option Addr) (ca : Nat) (w : World) (E : Env w) (ha : VIn w v pa ca) (hs : s.size ≤ 9223372036854775807) (okv : v.Ok) (hl : s.size ≤ 80) (hp : Pl.refParse (Pl.bsl s) = none) :
    Calls Tryd.prog 4 #[verV v pa ca, .string s] w fun e w' => e = .returned (.bool true) ∧ Below w.heap.size w w' := by
  have HE := Lib.hid E
  have HA := Lib.hid ha
  have ea := Pl.vrF_ok okv
  have CA := Lib.hid (fun (W : World) (h : VIn W v pa ca) => VersionFault_any v pa ca W h)
  rw [ea] at CA
  have CF := Lib.hid (fun (W : World) (h : VIn W v pa ca) (e : Env W) => Format_any v pa ca W h e)
  rw [ea] at CF
  have et : Pl.fmtV v = Pl.mkS (Pl.verT v) := by unfold Pl.fmtV; rw [ea, if_neg (by decide)]
  obtain ⟨T, hT⟩ : ∃ T, Pl.mkS (Pl.verT v) = T := ⟨_, rfl⟩
  rw [et, hT] at CF
  have CT := Lib.hid (fun (W : World) (h : VIn W v pa ca) => VersionText_any v pa ca W h okv)
  rw [hT] at CT
  clear hT et
  obtain ⟨ep, eq⟩ := Pl.par_none hl (by rw [Pl.parse_same]; exact hp)
  have CP := Lib.hid (fun (W : World) (e : Env W) => Parse_any s W hs e)
  rw [ep, eq] at CP
  delta RVerF at CP
  have CO := Lib.hid (fun (W : World) => VersionOf_any s W hl)
  rw [show Pl.refV (Pl.bsl s) = Pl.Ver.zero by unfold Pl.refV; rw [hp]; rfl, show Pl.refOk (Pl.bsl s) = false by unfold Pl.refOk; rw [hp]; rfl] at CO
  delta RVerB at CO
  have CS := Lib.hid (fun (W : World) (p q : Option Addr) (c d : Nat) (h : VIn W Pl.Ver.zero p c) (h2 : VIn W Pl.Ver.zero q d) => SameVersion_any Pl.Ver.zero Pl.Ver.zero p q c d W h h2)
  rw [Pl.sameB_iff.2 rfl] at CS
  simp only [fltV] at CA CF CP
  have l1 : (s.size : Int) ≤ 9223372036854775807 := by omega
  have l2 : decide ((80 : Int) < (s.size : Int)) = false := by simp; omega
  have l3 : decide (80 < s.size) = false := by simp; omega
  clear E ha ea ep eq hp
  go_enter Tryd.func4, Tryd.ntmps4
  have B0 : Below w.heap.size w w := Below.refl _ _
  go_wp2_with fail
  replace B0 := (B0.alloc B0.size (.cells #[.int .i64 v.maj, .int .i64 v.min, .int .i64 v.pat, .slice pa v.pre.length ca] 24))
  have XA : Blk ((w).alloc (.cells #[.int .i64 v.maj, .int .i64 v.min, .int .i64 v.pat, .slice pa v.pre.length ca] 24)) (w.heap.size) [.int .i64 v.maj, .int .i64 v.min, .int .i64 v.pat, .slice pa v.pre.length ca] := Blk.new (w) [.int .i64 v.maj, .int .i64 v.min, .int .i64 v.pat, .slice pa v.pre.length ca] 24 (g := w.heap.size) (by simp)
  refine (orders_any _ (HE.out.below B0 (Nat.le_refl _))).mono ?_
  rintro e w1 ⟨rfl, hb⟩
  have hk : Below ((w).alloc (.cells #[.int .i64 v.maj, .int .i64 v.min, .int .i64 v.pat, .slice pa v.pre.length ca] 24)).heap.size ((w).alloc (.cells #[.int .i64 v.maj, .int .i64 v.min, .int .i64 v.pat, .slice pa v.pre.length ca] 24)) w1 := hb
  have s1 : w.heap.size ≤ w1.heap.size := Nat.le_trans B0.size hk.size
  have q1 : w.heap.size + 1 ≤ w1.heap.size := by have z := hk.size; (try simp only [World.size_alloc] at z); omega
  have B1 : Below w.heap.size w w1 := bcall B0 hk B0.size
  replace XA := XA.below hk XA.lt
  clear B0 hk hb
  have XA_0 := XA.c 0 _ rfl
  have XA_1 := XA.c 1 _ rfl
  have XA_2 := XA.c 2 _ rfl
  have XA_3 := XA.c 3 _ rfl
  have XA_l := XA.lt
  go_wp2_with fail
  refine (CA.out _ (HA.out.below B1 (Nat.le_refl _))).mono ?_
  rintro e w2 ⟨rfl, hb⟩
  have hk : Below (w1).heap.size (w1) w2 := hb
  have s2 : w.heap.size ≤ w2.heap.size := Nat.le_trans B1.size hk.size
  have q2 : w1.heap.size + 0 ≤ w2.heap.size := by have z := hk.size; (try simp only [World.size_alloc, World.size_setCell] at z); omega
  have B2 : Below w.heap.size w w2 := bcall B1 hk B1.size
  replace XA := XA.below hk XA.lt
  clear B1 hk hb
  clear XA_0 XA_1 XA_2 XA_3 XA_l
  have XA_0 := XA.c 0 _ rfl
  have XA_1 := XA.c 1 _ rfl
  have XA_2 := XA.c 2 _ rfl
  have XA_3 := XA.c 3 _ rfl
  have XA_l := XA.lt
  go_wp2_with fail
  replace B2 := (B2.alloc B2.size (.cells #[.int .i64 0, .int .i64 0] 27))
  replace XA := (XA.alloc (.cells #[.int .i64 0, .int .i64 0] 27))
  have T5 : Box2 ((w2).alloc (.cells #[.int .i64 0, .int .i64 0] 27)) (w2.heap.size) (.int .i64 0) (.int .i64 0) := Box2.newAt (w := w2) (r := w2.heap.size) (x := .int .i64 0) (y := .int .i64 0) (t := 27) (by simp)
  refine (CF.out _ (HA.out.below B2 (Nat.le_refl _)) (HE.out.below B2 (Nat.le_refl _))).mono ?_
  rintro e w3 ⟨rfl, hb⟩
  have hk : Below ((w2).alloc (.cells #[.int .i64 0, .int .i64 0] 27)).heap.size ((w2).alloc (.cells #[.int .i64 0, .int .i64 0] 27)) w3 := hb
  have s3 : w.heap.size ≤ w3.heap.size := Nat.le_trans B2.size hk.size
  have q3 : w2.heap.size + 1 ≤ w3.heap.size := by have z := hk.size; (try simp only [World.size_alloc] at z); omega
  have B3 : Below w.heap.size w w3 := bcall B2 hk B2.size
  replace XA := XA.below hk XA.lt
  replace T5 := T5.below hk T5.lt
  clear B2 hk hb
  clear XA_0 XA_1 XA_2 XA_3 XA_l
  have XA_0 := XA.c 0 _ rfl
  have XA_1 := XA.c 1 _ rfl
  have XA_2 := XA.c 2 _ rfl
  have XA_3 := XA.c 3 _ rfl
  have XA_l := XA.lt
  obtain ⟨T5_0, T5_1, T5_f0, T5_f1, T5_l⟩ := id T5
  go_wp2_with fail
  replace B3 := (B3.alloc B3.size (.cells #[.int .i64 0, .int .i64 0] 27))
  replace XA := (XA.alloc (.cells #[.int .i64 0, .int .i64 0] 27))
  replace T5 := (T5.alloc (.cells #[.int .i64 0, .int .i64 0] 27))
  have T7 : Box2 ((w3).alloc (.cells #[.int .i64 0, .int .i64 0] 27)) (w3.heap.size) (.int .i64 0) (.int .i64 0) := Box2.newAt (w := w3) (r := w3.heap.size) (x := .int .i64 0) (y := .int .i64 0) (t := 27) (by simp)
  refine (CT.out _ (HA.out.below B3 (Nat.le_refl _))).mono ?_
  rintro e w4 ⟨rfl, hb⟩
  have hk : Below ((w3).alloc (.cells #[.int .i64 0, .int .i64 0] 27)).heap.size ((w3).alloc (.cells #[.int .i64 0, .int .i64 0] 27)) w4 := hb
  have s4 : w.heap.size ≤ w4.heap.size := Nat.le_trans B3.size hk.size
  have q4 : w3.heap.size + 1 ≤ w4.heap.size := by have z := hk.size; (try simp only [World.size_alloc] at z); omega
  have B4 : Below w.heap.size w w4 := bcall B3 hk B3.size
  replace XA := XA.below hk XA.lt
  replace T5 := T5.below hk T5.lt
  replace T7 := T7.below hk T7.lt
  clear B3 hk hb
  clear XA_0 XA_1 XA_2 XA_3 XA_l T5_0 T5_1 T5_f0 T5_f1 T5_l
  have XA_0 := XA.c 0 _ rfl
  have XA_1 := XA.c 1 _ rfl
  have XA_2 := XA.c 2 _ rfl
  have XA_3 := XA.c 3 _ rfl
  have XA_l := XA.lt
  obtain ⟨T5_0, T5_1, T5_f0, T5_f1, T5_l⟩ := id T5
  obtain ⟨T7_0, T7_1, T7_f0, T7_f1, T7_l⟩ := id T7
  go_wp2_with fail
  refine (CP.out _ (HE.out.below B4 (Nat.le_refl _))).mono ?_
  rintro e w5 ⟨px, cx, rfl, vx, hb⟩
  have VX := Lib.hid vx
  clear vx
  have hk : Below (w4).heap.size (w4) w5 := hb
  have s5 : w.heap.size ≤ w5.heap.size := Nat.le_trans B4.size hk.size
  have q5 : w4.heap.size + 0 ≤ w5.heap.size := by have z := hk.size; (try simp only [World.size_alloc, World.size_setCell] at z); omega
  have B5 : Below w.heap.size w w5 := bcall B4 hk B4.size
  replace XA := XA.below hk XA.lt
  replace T5 := T5.below hk T5.lt
  replace T7 := T7.below hk T7.lt
  clear B4 hk hb
  clear XA_0 XA_1 XA_2 XA_3 XA_l T5_0 T5_1 T5_f0 T5_f1 T5_l T7_0 T7_1 T7_f0 T7_f1 T7_l
  have XA_0 := XA.c 0 _ rfl
  have XA_1 := XA.c 1 _ rfl
  have XA_2 := XA.c 2 _ rfl
  have XA_3 := XA.c 3 _ rfl
  have XA_l := XA.lt
  obtain ⟨T5_0, T5_1, T5_f0, T5_f1, T5_l⟩ := id T5
  obtain ⟨T7_0, T7_1, T7_f0, T7_f1, T7_l⟩ := id T7
  go_wp2_with fail
  replace B5 := (B5.alloc B5.size (.cells #[.int .i64 Pl.Ver.zero.maj, .int .i64 Pl.Ver.zero.min, .int .i64 Pl.Ver.zero.pat, .slice px Pl.Ver.zero.pre.length cx] 24))
  replace XA := (XA.alloc (.cells #[.int .i64 Pl.Ver.zero.maj, .int .i64 Pl.Ver.zero.min, .int .i64 Pl.Ver.zero.pat, .slice px Pl.Ver.zero.pre.length cx] 24))
  replace T5 := (T5.alloc (.cells #[.int .i64 Pl.Ver.zero.maj, .int .i64 Pl.Ver.zero.min, .int .i64 Pl.Ver.zero.pat, .slice px Pl.Ver.zero.pre.length cx] 24))
  replace T7 := (T7.alloc (.cells #[.int .i64 Pl.Ver.zero.maj, .int .i64 Pl.Ver.zero.min, .int .i64 Pl.Ver.zero.pat, .slice px Pl.Ver.zero.pre.length cx] 24))
  replace VX := Lib.hid (VX.out.below (B := (w5).heap.size) (w' := (w5).alloc (.cells #[.int .i64 Pl.Ver.zero.maj, .int .i64 Pl.Ver.zero.min, .int .i64 Pl.Ver.zero.pat, .slice px Pl.Ver.zero.pre.length cx] 24)) ((Below.refl _ _).alloc (Nat.le_refl _) _) (Nat.le_refl _))
  have T8 : Blk ((w5).alloc (.cells #[.int .i64 Pl.Ver.zero.maj, .int .i64 Pl.Ver.zero.min, .int .i64 Pl.Ver.zero.pat, .slice px Pl.Ver.zero.pre.length cx] 24)) (w5.heap.size) [.int .i64 Pl.Ver.zero.maj, .int .i64 Pl.Ver.zero.min, .int .i64 Pl.Ver.zero.pat, .slice px Pl.Ver.zero.pre.length cx] := Blk.new (w5) [.int .i64 Pl.Ver.zero.maj, .int .i64 Pl.Ver.zero.min, .int .i64 Pl.Ver.zero.pat, .slice px Pl.Ver.zero.pre.length cx] 24 (g := w5.heap.size) (by simp)
  replace B5 := (B5.alloc B5.size (.cells #[.int .i64 1, .int .i64 (-1)] 27))
  replace XA := (XA.alloc (.cells #[.int .i64 1, .int .i64 (-1)] 27))
  replace T5 := (T5.alloc (.cells #[.int .i64 1, .int .i64 (-1)] 27))
  replace T7 := (T7.alloc (.cells #[.int .i64 1, .int .i64 (-1)] 27))
  replace VX := Lib.hid (VX.out.below (B := ((w5).alloc (.cells #[.int .i64 Pl.Ver.zero.maj, .int .i64 Pl.Ver.zero.min, .int .i64 Pl.Ver.zero.pat, .slice px Pl.Ver.zero.pre.length cx] 24)).heap.size) (w' := ((w5).alloc (.cells #[.int .i64 Pl.Ver.zero.maj, .int .i64 Pl.Ver.zero.min, .int .i64 Pl.Ver.zero.pat, .slice px Pl.Ver.zero.pre.length cx] 24)).alloc (.cells #[.int .i64 1, .int .i64 (-1)] 27)) ((Below.refl _ _).alloc (Nat.le_refl _) _) (Nat.le_refl _))
  replace T8 := (T8.alloc (.cells #[.int .i64 1, .int .i64 (-1)] 27))
  have T9 : Box2 (((w5).alloc (.cells #[.int .i64 Pl.Ver.zero.maj, .int .i64 Pl.Ver.zero.min, .int .i64 Pl.Ver.zero.pat, .slice px Pl.Ver.zero.pre.length cx] 24)).alloc (.cells #[.int .i64 1, .int .i64 (-1)] 27)) (w5.heap.size + 1) (.int .i64 1) (.int .i64 (-1)) := Box2.newAt (w := (w5).alloc (.cells #[.int .i64 Pl.Ver.zero.maj, .int .i64 Pl.Ver.zero.min, .int .i64 Pl.Ver.zero.pat, .slice px Pl.Ver.zero.pre.length cx] 24)) (r := w5.heap.size + 1) (x := .int .i64 1) (y := .int .i64 (-1)) (t := 27) (by simp)
  refine (CO.out _).mono ?_
  rintro e w6 ⟨py, cy, rfl, vy, hb⟩
  have VY := Lib.hid vy
  clear vy
  have hk : Below (((w5).alloc (.cells #[.int .i64 Pl.Ver.zero.maj, .int .i64 Pl.Ver.zero.min, .int .i64 Pl.Ver.zero.pat, .slice px Pl.Ver.zero.pre.length cx] 24)).alloc (.cells #[.int .i64 1, .int .i64 (-1)] 27)).heap.size (((w5).alloc (.cells #[.int .i64 Pl.Ver.zero.maj, .int .i64 Pl.Ver.zero.min, .int .i64 Pl.Ver.zero.pat, .slice px Pl.Ver.zero.pre.length cx] 24)).alloc (.cells #[.int .i64 1, .int .i64 (-1)] 27)) w6 := hb
  have s6 : w.heap.size ≤ w6.heap.size := Nat.le_trans B5.size hk.size
  have q6 : w5.heap.size + 2 ≤ w6.heap.size := by have z := hk.size; (try simp only [World.size_alloc] at z); omega
  have B6 : Below w.heap.size w w6 := bcall B5 hk B5.size
  replace XA := XA.below hk XA.lt
  replace T5 := T5.below hk T5.lt
  replace T7 := T7.below hk T7.lt
  replace VX := Lib.hid (VX.out.below hk (Nat.le_refl _))
  replace T8 := T8.below hk T8.lt
  replace T9 := T9.below hk T9.lt
  clear B5 hk hb
  clear XA_0 XA_1 XA_2 XA_3 XA_l T5_0 T5_1 T5_f0 T5_f1 T5_l T7_0 T7_1 T7_f0 T7_f1 T7_l
  have XA_0 := XA.c 0 _ rfl
  have XA_1 := XA.c 1 _ rfl
  have XA_2 := XA.c 2 _ rfl
  have XA_3 := XA.c 3 _ rfl
  have XA_l := XA.lt
  obtain ⟨T5_0, T5_1, T5_f0, T5_f1, T5_l⟩ := id T5
  obtain ⟨T7_0, T7_1, T7_f0, T7_f1, T7_l⟩ := id T7
  have T8_0 := T8.c 0 _ rfl
  have T8_1 := T8.c 1 _ rfl
  have T8_2 := T8.c 2 _ rfl
  have T8_3 := T8.c 3 _ rfl
  have T8_l := T8.lt
  obtain ⟨T9_0, T9_1, T9_f0, T9_f1, T9_l⟩ := id T9
  go_wp2_with fail
  refine wp_region_ord [0, 1, 2, 3, 4, 5, 6, 7, 8] (by kernel_rfl) (by kernel_rfl) ?_
  replace B6 := (B6.alloc B6.size (.cells #[.int .i64 Pl.Ver.zero.maj, .int .i64 Pl.Ver.zero.min, .int .i64 Pl.Ver.zero.pat, .slice py Pl.Ver.zero.pre.length cy] 24))
  replace XA := (XA.alloc (.cells #[.int .i64 Pl.Ver.zero.maj, .int .i64 Pl.Ver.zero.min, .int .i64 Pl.Ver.zero.pat, .slice py Pl.Ver.zero.pre.length cy] 24))
  replace T5 := (T5.alloc (.cells #[.int .i64 Pl.Ver.zero.maj, .int .i64 Pl.Ver.zero.min, .int .i64 Pl.Ver.zero.pat, .slice py Pl.Ver.zero.pre.length cy] 24))
  replace T7 := (T7.alloc (.cells #[.int .i64 Pl.Ver.zero.maj, .int .i64 Pl.Ver.zero.min, .int .i64 Pl.Ver.zero.pat, .slice py Pl.Ver.zero.pre.length cy] 24))
  replace VX := Lib.hid (VX.out.below (B := (w6).heap.size) (w' := (w6).alloc (.cells #[.int .i64 Pl.Ver.zero.maj, .int .i64 Pl.Ver.zero.min, .int .i64 Pl.Ver.zero.pat, .slice py Pl.Ver.zero.pre.length cy] 24)) ((Below.refl _ _).alloc (Nat.le_refl _) _) (Nat.le_refl _))
  replace T8 := (T8.alloc (.cells #[.int .i64 Pl.Ver.zero.maj, .int .i64 Pl.Ver.zero.min, .int .i64 Pl.Ver.zero.pat, .slice py Pl.Ver.zero.pre.length cy] 24))
  replace T9 := (T9.alloc (.cells #[.int .i64 Pl.Ver.zero.maj, .int .i64 Pl.Ver.zero.min, .int .i64 Pl.Ver.zero.pat, .slice py Pl.Ver.zero.pre.length cy] 24))
  replace VY := Lib.hid (VY.out.below (B := (w6).heap.size) (w' := (w6).alloc (.cells #[.int .i64 Pl.Ver.zero.maj, .int .i64 Pl.Ver.zero.min, .int .i64 Pl.Ver.zero.pat, .slice py Pl.Ver.zero.pre.length cy] 24)) ((Below.refl _ _).alloc (Nat.le_refl _) _) (Nat.le_refl _))
  have T10 : Blk ((w6).alloc (.cells #[.int .i64 Pl.Ver.zero.maj, .int .i64 Pl.Ver.zero.min, .int .i64 Pl.Ver.zero.pat, .slice py Pl.Ver.zero.pre.length cy] 24)) (w6.heap.size) [.int .i64 Pl.Ver.zero.maj, .int .i64 Pl.Ver.zero.min, .int .i64 Pl.Ver.zero.pat, .slice py Pl.Ver.zero.pre.length cy] := Blk.new (w6) [.int .i64 Pl.Ver.zero.maj, .int .i64 Pl.Ver.zero.min, .int .i64 Pl.Ver.zero.pat, .slice py Pl.Ver.zero.pre.length cy] 24 (g := w6.heap.size) (by simp)
  have q7 : w6.heap.size + 1 ≤ ((w6).alloc (.cells #[.int .i64 Pl.Ver.zero.maj, .int .i64 Pl.Ver.zero.min, .int .i64 Pl.Ver.zero.pat, .slice py Pl.Ver.zero.pre.length cy] 24)).drew.heap.size := by simp only [World.size_alloc, World.size_drew]; omega
  replace B6 := B6.drew
  replace XA := XA.drew
  replace T5 := T5.drew
  replace T7 := T7.drew
  replace VX := Lib.hid (VX.out.below (B := ((w6).alloc (.cells #[.int .i64 Pl.Ver.zero.maj, .int .i64 Pl.Ver.zero.min, .int .i64 Pl.Ver.zero.pat, .slice py Pl.Ver.zero.pre.length cy] 24)).heap.size) (w' := ((w6).alloc (.cells #[.int .i64 Pl.Ver.zero.maj, .int .i64 Pl.Ver.zero.min, .int .i64 Pl.Ver.zero.pat, .slice py Pl.Ver.zero.pre.length cy] 24)).drew) (Below.refl _ _).drew (Nat.le_refl _))
  replace T8 := T8.drew
  replace T9 := T9.drew
  replace VY := Lib.hid (VY.out.below (B := ((w6).alloc (.cells #[.int .i64 Pl.Ver.zero.maj, .int .i64 Pl.Ver.zero.min, .int .i64 Pl.Ver.zero.pat, .slice py Pl.Ver.zero.pre.length cy] 24)).heap.size) (w' := ((w6).alloc (.cells #[.int .i64 Pl.Ver.zero.maj, .int .i64 Pl.Ver.zero.min, .int .i64 Pl.Ver.zero.pat, .slice py Pl.Ver.zero.pre.length cy] 24)).drew) (Below.refl _ _).drew (Nat.le_refl _))
  replace T10 := T10.drew
  clear XA_0 XA_1 XA_2 XA_3 XA_l T5_0 T5_1 T5_f0 T5_f1 T5_l T7_0 T7_1 T7_f0 T7_f1 T7_l T8_0 T8_1 T8_2 T8_3 T8_l T9_0 T9_1 T9_f0 T9_f1 T9_l
  generalize ((w6).alloc (.cells #[.int .i64 Pl.Ver.zero.maj, .int .i64 Pl.Ver.zero.min, .int .i64 Pl.Ver.zero.pat, .slice py Pl.Ver.zero.pre.length cy] 24)).drew = w7 at *
  have s7 : w.heap.size ≤ w7.heap.size := B6.size
  have XA_0 := XA.c 0 _ rfl
  have XA_1 := XA.c 1 _ rfl
  have XA_2 := XA.c 2 _ rfl
  have XA_3 := XA.c 3 _ rfl
  have XA_l := XA.lt
  obtain ⟨T5_0, T5_1, T5_f0, T5_f1, T5_l⟩ := id T5
  obtain ⟨T7_0, T7_1, T7_f0, T7_f1, T7_l⟩ := id T7
  have T8_0 := T8.c 0 _ rfl
  have T8_1 := T8.c 1 _ rfl
  have T8_2 := T8.c 2 _ rfl
  have T8_3 := T8.c 3 _ rfl
  have T8_l := T8.lt
  obtain ⟨T9_0, T9_1, T9_f0, T9_f1, T9_l⟩ := id T9
  have T10_0 := T10.c 0 _ rfl
  have T10_1 := T10.c 1 _ rfl
  have T10_2 := T10.c 2 _ rfl
  have T10_3 := T10.c 3 _ rfl
  have T10_l := T10.lt
  repeat (first | (refine wpI_rd rfl rfl ?_; go_big_quiet_step (fail); refine wpQuiet_nil ?_) | (refine wpI_skip rfl rfl ?_; try simp only [Act.put, List.setIfInBounds_toArray, List.set_cons_zero, List.set_cons_succ]))
  try simp only [Act.put, List.setIfInBounds_toArray, List.set_cons_zero, List.set_cons_succ]
  refine wpI_call (f := 12) (args := #[.int .i64 1, .int .i64 (-1)]) rfl rfl rfl (by simp [go_sem]) ?_
  refine (lfault_at _ _ _).mono ?_
  rintro e w0 ⟨rfl, rfl⟩
  refine ⟨_, rfl, by go_grown, ?_⟩
  try simp only [Act.put, List.setIfInBounds_toArray, List.set_cons_zero, List.set_cons_succ]
  repeat (first | (refine wpI_rd rfl rfl ?_; go_big_quiet_step (fail); refine wpQuiet_nil ?_) | (refine wpI_skip rfl rfl ?_; try simp only [Act.put, List.setIfInBounds_toArray, List.set_cons_zero, List.set_cons_succ]))
  try simp only [Act.put, List.setIfInBounds_toArray, List.set_cons_zero, List.set_cons_succ]
  replace B6 := (B6.alloc B6.size (.cells #[.int .i64 1, .int .i64 (-1)] 27))
  replace XA := (XA.alloc (.cells #[.int .i64 1, .int .i64 (-1)] 27))
  replace T5 := (T5.alloc (.cells #[.int .i64 1, .int .i64 (-1)] 27))
  replace T7 := (T7.alloc (.cells #[.int .i64 1, .int .i64 (-1)] 27))
  replace VX := Lib.hid (VX.out.below (B := (w7).heap.size) (w' := (w7).alloc (.cells #[.int .i64 1, .int .i64 (-1)] 27)) ((Below.refl _ _).alloc (Nat.le_refl _) _) (Nat.le_refl _))
  replace T8 := (T8.alloc (.cells #[.int .i64 1, .int .i64 (-1)] 27))
  replace T9 := (T9.alloc (.cells #[.int .i64 1, .int .i64 (-1)] 27))
  replace VY := Lib.hid (VY.out.below (B := (w7).heap.size) (w' := (w7).alloc (.cells #[.int .i64 1, .int .i64 (-1)] 27)) ((Below.refl _ _).alloc (Nat.le_refl _) _) (Nat.le_refl _))
  replace T10 := (T10.alloc (.cells #[.int .i64 1, .int .i64 (-1)] 27))
  refine wpI_call (f := 17) rfl rfl rfl (by simp [go_sem]; rfl) ?_
  refine (CS.out _ _ _ _ _ VX.out (VIn.zero _)).mono ?_
  rintro e w8 ⟨rfl, hb⟩
  refine ⟨_, rfl, hb, ?_⟩
  skip
  have hk : Below ((w7).alloc (.cells #[.int .i64 1, .int .i64 (-1)] 27)).heap.size ((w7).alloc (.cells #[.int .i64 1, .int .i64 (-1)] 27)) w8 := hb
  have s8 : w.heap.size ≤ w8.heap.size := Nat.le_trans B6.size hk.size
  have q8 : w7.heap.size + 1 ≤ w8.heap.size := by have z := hk.size; (try simp only [World.size_alloc] at z); omega
  have B8 : Below w.heap.size w w8 := bcall B6 hk B6.size
  replace XA := XA.below hk XA.lt
  replace T5 := T5.below hk T5.lt
  replace T7 := T7.below hk T7.lt
  replace VX := Lib.hid (VX.out.below hk (Nat.le_refl _))
  replace T8 := T8.below hk T8.lt
  replace T9 := T9.below hk T9.lt
  replace VY := Lib.hid (VY.out.below hk (Nat.le_refl _))
  replace T10 := T10.below hk T10.lt
  clear B6 hk hb
  clear XA_0 XA_1 XA_2 XA_3 XA_l T5_0 T5_1 T5_f0 T5_f1 T5_l T7_0 T7_1 T7_f0 T7_f1 T7_l T8_0 T8_1 T8_2 T8_3 T8_l T9_0 T9_1 T9_f0 T9_f1 T9_l T10_0 T10_1 T10_2 T10_3 T10_l
  have XA_0 := XA.c 0 _ rfl
  have XA_1 := XA.c 1 _ rfl
  have XA_2 := XA.c 2 _ rfl
  have XA_3 := XA.c 3 _ rfl
  have XA_l := XA.lt
  obtain ⟨T5_0, T5_1, T5_f0, T5_f1, T5_l⟩ := id T5
  obtain ⟨T7_0, T7_1, T7_f0, T7_f1, T7_l⟩ := id T7
  have T8_0 := T8.c 0 _ rfl
  have T8_1 := T8.c 1 _ rfl
  have T8_2 := T8.c 2 _ rfl
  have T8_3 := T8.c 3 _ rfl
  have T8_l := T8.lt
  obtain ⟨T9_0, T9_1, T9_f0, T9_f1, T9_l⟩ := id T9
  have T10_0 := T10.c 0 _ rfl
  have T10_1 := T10.c 1 _ rfl
  have T10_2 := T10.c 2 _ rfl
  have T10_3 := T10.c 3 _ rfl
  have T10_l := T10.lt
  try simp only [Act.put, List.setIfInBounds_toArray, List.set_cons_zero, List.set_cons_succ]
  repeat (first | (refine wpI_rd rfl rfl ?_; go_big_quiet_step (fail); refine wpQuiet_nil ?_) | (refine wpI_skip rfl rfl ?_; try simp only [Act.put, List.setIfInBounds_toArray, List.set_cons_zero, List.set_cons_succ]))
  try simp only [Act.put, List.setIfInBounds_toArray, List.set_cons_zero, List.set_cons_succ]
  refine wpI_nil ?_
  try simp only [Act.put, List.setIfInBounds_toArray, List.set_cons_zero, List.set_cons_succ]
  go_wp2_with fail
  go_ret
  exact ⟨rfl, B8⟩
set_option maxRecDepth 100000 in
set_option maxHeartbeats 4000000 in
theorem vtm_GS (v : Pl.Ver) (s : ByteArray) (pa : Option Addr) (ca : Nat) (w : World) (E : Env w) (ha : VIn w v pa ca) (hs : s.size ≤ 9223372036854775807) (okv : v.Ok) (hl : s.size ≤ 80) (y : Pl.Ver) (hp : Pl.refParse (Pl.bsl s) = some y) :
    Calls Tryd.prog 4 #[verV v pa ca, .string s] w fun e w' => e = .returned (.bool true) ∧ Below w.heap.size w w' := by
  have HE := Lib.hid E
  have HA := Lib.hid ha
  have ea := Pl.vrF_ok okv
  have CA := Lib.hid (fun (W : World) (h : VIn W v pa ca) => VersionFault_any v pa ca W h)
  rw [ea] at CA
  have CF := Lib.hid (fun (W : World) (h : VIn W v pa ca) (e : Env W) => Format_any v pa ca W h e)
  rw [ea] at CF
  have et : Pl.fmtV v = Pl.mkS (Pl.verT v) := by unfold Pl.fmtV; rw [ea, if_neg (by decide)]
  obtain ⟨T, hT⟩ : ∃ T, Pl.mkS (Pl.verT v) = T := ⟨_, rfl⟩
  rw [et, hT] at CF
  have CT := Lib.hid (fun (W : World) (h : VIn W v pa ca) => VersionText_any v pa ca W h okv)
  rw [hT] at CT
  clear hT et
  obtain ⟨ep, eq⟩ := Pl.par_some hl (by rw [Pl.parse_same]; exact hp)
  have CP := Lib.hid (fun (W : World) (e : Env W) => Parse_any s W hs e)
  rw [ep, eq] at CP
  delta RVerF at CP
  have CO := Lib.hid (fun (W : World) => VersionOf_any s W hl)
  rw [show Pl.refV (Pl.bsl s) = y by unfold Pl.refV; rw [hp]; rfl, show Pl.refOk (Pl.bsl s) = true by unfold Pl.refOk; rw [hp]; rfl] at CO
  delta RVerB at CO
  have CS := Lib.hid (fun (W : World) (p q : Option Addr) (c d : Nat) (h : VIn W y p c) (h2 : VIn W y q d) => SameVersion_any y y p q c d W h h2)
  rw [Pl.sameB_iff.2 rfl] at CS
  simp only [fltV] at CA CF CP
  have l1 : (s.size : Int) ≤ 9223372036854775807 := by omega
  have l2 : decide ((80 : Int) < (s.size : Int)) = false := by simp; omega
  have l3 : decide (80 < s.size) = false := by simp; omega
  clear E ha ea ep eq hp
  go_enter Tryd.func4, Tryd.ntmps4
  have B0 : Below w.heap.size w w := Below.refl _ _
  go_wp2_with fail
  replace B0 := (B0.alloc B0.size (.cells #[.int .i64 v.maj, .int .i64 v.min, .int .i64 v.pat, .slice pa v.pre.length ca] 24))
  have XA : Blk ((w).alloc (.cells #[.int .i64 v.maj, .int .i64 v.min, .int .i64 v.pat, .slice pa v.pre.length ca] 24)) (w.heap.size) [.int .i64 v.maj, .int .i64 v.min, .int .i64 v.pat, .slice pa v.pre.length ca] := Blk.new (w) [.int .i64 v.maj, .int .i64 v.min, .int .i64 v.pat, .slice pa v.pre.length ca] 24 (g := w.heap.size) (by simp)
  refine (orders_any _ (HE.out.below B0 (Nat.le_refl _))).mono ?_
  rintro e w1 ⟨rfl, hb⟩
  have hk : Below ((w).alloc (.cells #[.int .i64 v.maj, .int .i64 v.min, .int .i64 v.pat, .slice pa v.pre.length ca] 24)).heap.size ((w).alloc (.cells #[.int .i64 v.maj, .int .i64 v.min, .int .i64 v.pat, .slice pa v.pre.length ca] 24)) w1 := hb
  have s1 : w.heap.size ≤ w1.heap.size := Nat.le_trans B0.size hk.size
  have q1 : w.heap.size + 1 ≤ w1.heap.size := by have z := hk.size; (try simp only [World.size_alloc] at z); omega
  have B1 : Below w.heap.size w w1 := bcall B0 hk B0.size
  replace XA := XA.below hk XA.lt
  clear B0 hk hb
  have XA_0 := XA.c 0 _ rfl
  have XA_1 := XA.c 1 _ rfl
  have XA_2 := XA.c 2 _ rfl
  have XA_3 := XA.c 3 _ rfl
  have XA_l := XA.lt
  go_wp2_with fail
  refine (CA.out _ (HA.out.below B1 (Nat.le_refl _))).mono ?_
  rintro e w2 ⟨rfl, hb⟩
  have hk : Below (w1).heap.size (w1) w2 := hb
  have s2 : w.heap.size ≤ w2.heap.size := Nat.le_trans B1.size hk.size
  have q2 : w1.heap.size + 0 ≤ w2.heap.size := by have z := hk.size; (try simp only [World.size_alloc, World.size_setCell] at z); omega
  have B2 : Below w.heap.size w w2 := bcall B1 hk B1.size
  replace XA := XA.below hk XA.lt
  clear B1 hk hb
  clear XA_0 XA_1 XA_2 XA_3 XA_l
  have XA_0 := XA.c 0 _ rfl
  have XA_1 := XA.c 1 _ rfl
  have XA_2 := XA.c 2 _ rfl
  have XA_3 := XA.c 3 _ rfl
  have XA_l := XA.lt
  go_wp2_with fail
  replace B2 := (B2.alloc B2.size (.cells #[.int .i64 0, .int .i64 0] 27))
  replace XA := (XA.alloc (.cells #[.int .i64 0, .int .i64 0] 27))
  have T5 : Box2 ((w2).alloc (.cells #[.int .i64 0, .int .i64 0] 27)) (w2.heap.size) (.int .i64 0) (.int .i64 0) := Box2.newAt (w := w2) (r := w2.heap.size) (x := .int .i64 0) (y := .int .i64 0) (t := 27) (by simp)
  refine (CF.out _ (HA.out.below B2 (Nat.le_refl _)) (HE.out.below B2 (Nat.le_refl _))).mono ?_
  rintro e w3 ⟨rfl, hb⟩
  have hk : Below ((w2).alloc (.cells #[.int .i64 0, .int .i64 0] 27)).heap.size ((w2).alloc (.cells #[.int .i64 0, .int .i64 0] 27)) w3 := hb
  have s3 : w.heap.size ≤ w3.heap.size := Nat.le_trans B2.size hk.size
  have q3 : w2.heap.size + 1 ≤ w3.heap.size := by have z := hk.size; (try simp only [World.size_alloc] at z); omega
  have B3 : Below w.heap.size w w3 := bcall B2 hk B2.size
  replace XA := XA.below hk XA.lt
  replace T5 := T5.below hk T5.lt
  clear B2 hk hb
  clear XA_0 XA_1 XA_2 XA_3 XA_l
  have XA_0 := XA.c 0 _ rfl
  have XA_1 := XA.c 1 _ rfl
  have XA_2 := XA.c 2 _ rfl
  have XA_3 := XA.c 3 _ rfl
  have XA_l := XA.lt
  obtain ⟨T5_0, T5_1, T5_f0, T5_f1, T5_l⟩ := id T5
  go_wp2_with fail
  replace B3 := (B3.alloc B3.size (.cells #[.int .i64 0, .int .i64 0] 27))
  replace XA := (XA.alloc (.cells #[.int .i64 0, .int .i64 0] 27))
  replace T5 := (T5.alloc (.cells #[.int .i64 0, .int .i64 0] 27))
  have T7 : Box2 ((w3).alloc (.cells #[.int .i64 0, .int .i64 0] 27)) (w3.heap.size) (.int .i64 0) (.int .i64 0) := Box2.newAt (w := w3) (r := w3.heap.size) (x := .int .i64 0) (y := .int .i64 0) (t := 27) (by simp)
  refine (CT.out _ (HA.out.below B3 (Nat.le_refl _))).mono ?_
  rintro e w4 ⟨rfl, hb⟩
  have hk : Below ((w3).alloc (.cells #[.int .i64 0, .int .i64 0] 27)).heap.size ((w3).alloc (.cells #[.int .i64 0, .int .i64 0] 27)) w4 := hb
  have s4 : w.heap.size ≤ w4.heap.size := Nat.le_trans B3.size hk.size
  have q4 : w3.heap.size + 1 ≤ w4.heap.size := by have z := hk.size; (try simp only [World.size_alloc] at z); omega
  have B4 : Below w.heap.size w w4 := bcall B3 hk B3.size
  replace XA := XA.below hk XA.lt
  replace T5 := T5.below hk T5.lt
  replace T7 := T7.below hk T7.lt
  clear B3 hk hb
  clear XA_0 XA_1 XA_2 XA_3 XA_l T5_0 T5_1 T5_f0 T5_f1 T5_l
  have XA_0 := XA.c 0 _ rfl
  have XA_1 := XA.c 1 _ rfl
  have XA_2 := XA.c 2 _ rfl
  have XA_3 := XA.c 3 _ rfl
  have XA_l := XA.lt
  obtain ⟨T5_0, T5_1, T5_f0, T5_f1, T5_l⟩ := id T5
  obtain ⟨T7_0, T7_1, T7_f0, T7_f1, T7_l⟩ := id T7
  go_wp2_with fail
  refine (CP.out _ (HE.out.below B4 (Nat.le_refl _))).mono ?_
  rintro e w5 ⟨px, cx, rfl, vx, hb⟩
  have VX := Lib.hid vx
  clear vx
  have hk : Below (w4).heap.size (w4) w5 := hb
  have s5 : w.heap.size ≤ w5.heap.size := Nat.le_trans B4.size hk.size
  have q5 : w4.heap.size + 0 ≤ w5.heap.size := by have z := hk.size; (try simp only [World.size_alloc, World.size_setCell] at z); omega
  have B5 : Below w.heap.size w w5 := bcall B4 hk B4.size
  replace XA := XA.below hk XA.lt
  replace T5 := T5.below hk T5.lt
  replace T7 := T7.below hk T7.lt
  clear B4 hk hb
  clear XA_0 XA_1 XA_2 XA_3 XA_l T5_0 T5_1 T5_f0 T5_f1 T5_l T7_0 T7_1 T7_f0 T7_f1 T7_l
  have XA_0 := XA.c 0 _ rfl
  have XA_1 := XA.c 1 _ rfl
  have XA_2 := XA.c 2 _ rfl
  have XA_3 := XA.c 3 _ rfl
  have XA_l := XA.lt
  obtain ⟨T5_0, T5_1, T5_f0, T5_f1, T5_l⟩ := id T5
  obtain ⟨T7_0, T7_1, T7_f0, T7_f1, T7_l⟩ := id T7
  go_wp2_with fail
  replace B5 := (B5.alloc B5.size (.cells #[.int .i64 y.maj, .int .i64 y.min, .int .i64 y.pat, .slice px y.pre.length cx] 24))
  replace XA := (XA.alloc (.cells #[.int .i64 y.maj, .int .i64 y.min, .int .i64 y.pat, .slice px y.pre.length cx] 24))
  replace T5 := (T5.alloc (.cells #[.int .i64 y.maj, .int .i64 y.min, .int .i64 y.pat, .slice px y.pre.length cx] 24))
  replace T7 := (T7.alloc (.cells #[.int .i64 y.maj, .int .i64 y.min, .int .i64 y.pat, .slice px y.pre.length cx] 24))
  replace VX := Lib.hid (VX.out.below (B := (w5).heap.size) (w' := (w5).alloc (.cells #[.int .i64 y.maj, .int .i64 y.min, .int .i64 y.pat, .slice px y.pre.length cx] 24)) ((Below.refl _ _).alloc (Nat.le_refl _) _) (Nat.le_refl _))
  have T8 : Blk ((w5).alloc (.cells #[.int .i64 y.maj, .int .i64 y.min, .int .i64 y.pat, .slice px y.pre.length cx] 24)) (w5.heap.size) [.int .i64 y.maj, .int .i64 y.min, .int .i64 y.pat, .slice px y.pre.length cx] := Blk.new (w5) [.int .i64 y.maj, .int .i64 y.min, .int .i64 y.pat, .slice px y.pre.length cx] 24 (g := w5.heap.size) (by simp)
  replace B5 := (B5.alloc B5.size (.cells #[.int .i64 0, .int .i64 0] 27))
  replace XA := (XA.alloc (.cells #[.int .i64 0, .int .i64 0] 27))
  replace T5 := (T5.alloc (.cells #[.int .i64 0, .int .i64 0] 27))
  replace T7 := (T7.alloc (.cells #[.int .i64 0, .int .i64 0] 27))
  replace VX := Lib.hid (VX.out.below (B := ((w5).alloc (.cells #[.int .i64 y.maj, .int .i64 y.min, .int .i64 y.pat, .slice px y.pre.length cx] 24)).heap.size) (w' := ((w5).alloc (.cells #[.int .i64 y.maj, .int .i64 y.min, .int .i64 y.pat, .slice px y.pre.length cx] 24)).alloc (.cells #[.int .i64 0, .int .i64 0] 27)) ((Below.refl _ _).alloc (Nat.le_refl _) _) (Nat.le_refl _))
  replace T8 := (T8.alloc (.cells #[.int .i64 0, .int .i64 0] 27))
  have T9 : Box2 (((w5).alloc (.cells #[.int .i64 y.maj, .int .i64 y.min, .int .i64 y.pat, .slice px y.pre.length cx] 24)).alloc (.cells #[.int .i64 0, .int .i64 0] 27)) (w5.heap.size + 1) (.int .i64 0) (.int .i64 0) := Box2.newAt (w := (w5).alloc (.cells #[.int .i64 y.maj, .int .i64 y.min, .int .i64 y.pat, .slice px y.pre.length cx] 24)) (r := w5.heap.size + 1) (x := .int .i64 0) (y := .int .i64 0) (t := 27) (by simp)
  refine (CO.out _).mono ?_
  rintro e w6 ⟨py, cy, rfl, vy, hb⟩
  have VY := Lib.hid vy
  clear vy
  have hk : Below (((w5).alloc (.cells #[.int .i64 y.maj, .int .i64 y.min, .int .i64 y.pat, .slice px y.pre.length cx] 24)).alloc (.cells #[.int .i64 0, .int .i64 0] 27)).heap.size (((w5).alloc (.cells #[.int .i64 y.maj, .int .i64 y.min, .int .i64 y.pat, .slice px y.pre.length cx] 24)).alloc (.cells #[.int .i64 0, .int .i64 0] 27)) w6 := hb
  have s6 : w.heap.size ≤ w6.heap.size := Nat.le_trans B5.size hk.size
  have q6 : w5.heap.size + 2 ≤ w6.heap.size := by have z := hk.size; (try simp only [World.size_alloc] at z); omega
  have B6 : Below w.heap.size w w6 := bcall B5 hk B5.size
  replace XA := XA.below hk XA.lt
  replace T5 := T5.below hk T5.lt
  replace T7 := T7.below hk T7.lt
  replace VX := Lib.hid (VX.out.below hk (Nat.le_refl _))
  replace T8 := T8.below hk T8.lt
  replace T9 := T9.below hk T9.lt
  clear B5 hk hb
  clear XA_0 XA_1 XA_2 XA_3 XA_l T5_0 T5_1 T5_f0 T5_f1 T5_l T7_0 T7_1 T7_f0 T7_f1 T7_l
  have XA_0 := XA.c 0 _ rfl
  have XA_1 := XA.c 1 _ rfl
  have XA_2 := XA.c 2 _ rfl
  have XA_3 := XA.c 3 _ rfl
  have XA_l := XA.lt
  obtain ⟨T5_0, T5_1, T5_f0, T5_f1, T5_l⟩ := id T5
  obtain ⟨T7_0, T7_1, T7_f0, T7_f1, T7_l⟩ := id T7
  have T8_0 := T8.c 0 _ rfl
  have T8_1 := T8.c 1 _ rfl
  have T8_2 := T8.c 2 _ rfl
  have T8_3 := T8.c 3 _ rfl
  have T8_l := T8.lt
  obtain ⟨T9_0, T9_1, T9_f0, T9_f1, T9_l⟩ := id T9
  go_wp2_with fail
  replace B6 := (B6.alloc B6.size (.cells #[.int .i64 y.maj, .int .i64 y.min, .int .i64 y.pat, .slice py y.pre.length cy] 24))
  replace XA := (XA.alloc (.cells #[.int .i64 y.maj, .int .i64 y.min, .int .i64 y.pat, .slice py y.pre.length cy] 24))
  replace T5 := (T5.alloc (.cells #[.int .i64 y.maj, .int .i64 y.min, .int .i64 y.pat, .slice py y.pre.length cy] 24))
  replace T7 := (T7.alloc (.cells #[.int .i64 y.maj, .int .i64 y.min, .int .i64 y.pat, .slice py y.pre.length cy] 24))
  replace VX := Lib.hid (VX.out.below (B := (w6).heap.size) (w' := (w6).alloc (.cells #[.int .i64 y.maj, .int .i64 y.min, .int .i64 y.pat, .slice py y.pre.length cy] 24)) ((Below.refl _ _).alloc (Nat.le_refl _) _) (Nat.le_refl _))
  replace T8 := (T8.alloc (.cells #[.int .i64 y.maj, .int .i64 y.min, .int .i64 y.pat, .slice py y.pre.length cy] 24))
  replace T9 := (T9.alloc (.cells #[.int .i64 y.maj, .int .i64 y.min, .int .i64 y.pat, .slice py y.pre.length cy] 24))
  replace VY := Lib.hid (VY.out.below (B := (w6).heap.size) (w' := (w6).alloc (.cells #[.int .i64 y.maj, .int .i64 y.min, .int .i64 y.pat, .slice py y.pre.length cy] 24)) ((Below.refl _ _).alloc (Nat.le_refl _) _) (Nat.le_refl _))
  have T10 : Blk ((w6).alloc (.cells #[.int .i64 y.maj, .int .i64 y.min, .int .i64 y.pat, .slice py y.pre.length cy] 24)) (w6.heap.size) [.int .i64 y.maj, .int .i64 y.min, .int .i64 y.pat, .slice py y.pre.length cy] := Blk.new (w6) [.int .i64 y.maj, .int .i64 y.min, .int .i64 y.pat, .slice py y.pre.length cy] 24 (g := w6.heap.size) (by simp)
  refine (CS.out _ _ _ _ _ VX.out VY.out).mono ?_
  rintro e w7 ⟨rfl, hb⟩
  have hk : Below ((w6).alloc (.cells #[.int .i64 y.maj, .int .i64 y.min, .int .i64 y.pat, .slice py y.pre.length cy] 24)).heap.size ((w6).alloc (.cells #[.int .i64 y.maj, .int .i64 y.min, .int .i64 y.pat, .slice py y.pre.length cy] 24)) w7 := hb
  have s7 : w.heap.size ≤ w7.heap.size := Nat.le_trans B6.size hk.size
  have q7 : w6.heap.size + 1 ≤ w7.heap.size := by have z := hk.size; (try simp only [World.size_alloc] at z); omega
  have B7 : Below w.heap.size w w7 := bcall B6 hk B6.size
  replace XA := XA.below hk XA.lt
  replace T5 := T5.below hk T5.lt
  replace T7 := T7.below hk T7.lt
  replace VX := Lib.hid (VX.out.below hk (Nat.le_refl _))
  replace T8 := T8.below hk T8.lt
  replace T9 := T9.below hk T9.lt
  replace VY := Lib.hid (VY.out.below hk (Nat.le_refl _))
  replace T10 := T10.below hk T10.lt
  clear B6 hk hb
  clear XA_0 XA_1 XA_2 XA_3 XA_l T5_0 T5_1 T5_f0 T5_f1 T5_l T7_0 T7_1 T7_f0 T7_f1 T7_l T8_0 T8_1 T8_2 T8_3 T8_l T9_0 T9_1 T9_f0 T9_f1 T9_l
  have XA_0 := XA.c 0 _ rfl
  have XA_1 := XA.c 1 _ rfl
  have XA_2 := XA.c 2 _ rfl
  have XA_3 := XA.c 3 _ rfl
  have XA_l := XA.lt
  obtain ⟨T5_0, T5_1, T5_f0, T5_f1, T5_l⟩ := id T5
  obtain ⟨T7_0, T7_1, T7_f0, T7_f1, T7_l⟩ := id T7
  have T8_0 := T8.c 0 _ rfl
  have T8_1 := T8.c 1 _ rfl
  have T8_2 := T8.c 2 _ rfl
  have T8_3 := T8.c 3 _ rfl
  have T8_l := T8.lt
  obtain ⟨T9_0, T9_1, T9_f0, T9_f1, T9_l⟩ := id T9
  have T10_0 := T10.c 0 _ rfl
  have T10_1 := T10.c 1 _ rfl
  have T10_2 := T10.c 2 _ rfl
  have T10_3 := T10.c 3 _ rfl
  have T10_l := T10.lt
  go_wp2_with fail
  go_ret
  exact ⟨rfl, B7⟩
set_option maxRecDepth 100000 in
set_option maxHeartbeats 4000000 in
theorem vtm_BL (v : Pl.Ver) (s : ByteArray) (pa : Option Addr) (ca : Nat) (w : World) (E : Env w) (ha : VIn w v pa ca) (hs : s.size ≤ 9223372036854775807) (f1 f2 : Int) (hf : f1 ≠ 0) (ea : Pl.vrF v = (f1, f2)) (hl : 80 < s.size) :
    Calls Tryd.prog 4 #[verV v pa ca, .string s] w fun e w' => e = .returned (.bool true) ∧ Below w.heap.size w w' := by
  have HE := Lib.hid E
  have HA := Lib.hid ha
  have u1 := bneT hf
  have u2 := beqF hf
  have CA := Lib.hid (fun (W : World) (h : VIn W v pa ca) => VersionFault_any v pa ca W h)
  rw [ea] at CA
  have CF := Lib.hid (fun (W : World) (h : VIn W v pa ca) (e : Env W) => Format_any v pa ca W h e)
  rw [ea] at CF
  have et : Pl.fmtV v = ⟨#[]⟩ := by unfold Pl.fmtV; rw [ea, if_pos hf]; first | rfl | decide
  rw [et] at CF
  clear et
  have ep : Pl.parV s = Pl.Ver.zero := by unfold Pl.parV; rw [if_pos hl]
  have eq : Pl.parF s = (2, -1) := by unfold Pl.parF; rw [if_pos hl]
  have CP := Lib.hid (fun (W : World) (e : Env W) => Parse_any s W hs e)
  rw [ep, eq] at CP
  delta RVerF at CP
  have CS := Lib.hid (fun (W : World) (p q : Option Addr) (c d : Nat) (h : VIn W Pl.Ver.zero p c) (h2 : VIn W Pl.Ver.zero q d) => SameVersion_any Pl.Ver.zero Pl.Ver.zero p q c d W h h2)
  rw [Pl.sameB_iff.2 rfl] at CS
  simp only [fltV] at CA CF CP
  have l1 : (s.size : Int) ≤ 9223372036854775807 := by omega
  have l2 : decide ((80 : Int) < (s.size : Int)) = true := by simp; omega
  have l3 : decide (80 < s.size) = true := by simp; omega
  clear E ha ea ep eq hf
  go_enter Tryd.func4, Tryd.ntmps4
  have B0 : Below w.heap.size w w := Below.refl _ _
  go_wp2_with fail
  replace B0 := (B0.alloc B0.size (.cells #[.int .i64 v.maj, .int .i64 v.min, .int .i64 v.pat, .slice pa v.pre.length ca] 24))
  have XA : Blk ((w).alloc (.cells #[.int .i64 v.maj, .int .i64 v.min, .int .i64 v.pat, .slice pa v.pre.length ca] 24)) (w.heap.size) [.int .i64 v.maj, .int .i64 v.min, .int .i64 v.pat, .slice pa v.pre.length ca] := Blk.new (w) [.int .i64 v.maj, .int .i64 v.min, .int .i64 v.pat, .slice pa v.pre.length ca] 24 (g := w.heap.size) (by simp)
  refine (orders_any _ (HE.out.below B0 (Nat.le_refl _))).mono ?_
  rintro e w1 ⟨rfl, hb⟩
  have hk : Below ((w).alloc (.cells #[.int .i64 v.maj, .int .i64 v.min, .int .i64 v.pat, .slice pa v.pre.length ca] 24)).heap.size ((w).alloc (.cells #[.int .i64 v.maj, .int .i64 v.min, .int .i64 v.pat, .slice pa v.pre.length ca] 24)) w1 := hb
  have s1 : w.heap.size ≤ w1.heap.size := Nat.le_trans B0.size hk.size
  have q1 : w.heap.size + 1 ≤ w1.heap.size := by have z := hk.size; (try simp only [World.size_alloc] at z); omega
  have B1 : Below w.heap.size w w1 := bcall B0 hk B0.size
  replace XA := XA.below hk XA.lt
  clear B0 hk hb
  have XA_0 := XA.c 0 _ rfl
  have XA_1 := XA.c 1 _ rfl
  have XA_2 := XA.c 2 _ rfl
  have XA_3 := XA.c 3 _ rfl
  have XA_l := XA.lt
  go_wp2_with fail
  refine (CA.out _ (HA.out.below B1 (Nat.le_refl _))).mono ?_
  rintro e w2 ⟨rfl, hb⟩
  have hk : Below (w1).heap.size (w1) w2 := hb
  have s2 : w.heap.size ≤ w2.heap.size := Nat.le_trans B1.size hk.size
  have q2 : w1.heap.size + 0 ≤ w2.heap.size := by have z := hk.size; (try simp only [World.size_alloc, World.size_setCell] at z); omega
  have B2 : Below w.heap.size w w2 := bcall B1 hk B1.size
  replace XA := XA.below hk XA.lt
  clear B1 hk hb
  clear XA_0 XA_1 XA_2 XA_3 XA_l
  have XA_0 := XA.c 0 _ rfl
  have XA_1 := XA.c 1 _ rfl
  have XA_2 := XA.c 2 _ rfl
  have XA_3 := XA.c 3 _ rfl
  have XA_l := XA.lt
  go_wp2_with fail
  replace B2 := (B2.alloc B2.size (.cells #[.int .i64 f1, .int .i64 f2] 27))
  replace XA := (XA.alloc (.cells #[.int .i64 f1, .int .i64 f2] 27))
  have T5 : Box2 ((w2).alloc (.cells #[.int .i64 f1, .int .i64 f2] 27)) (w2.heap.size) (.int .i64 f1) (.int .i64 f2) := Box2.newAt (w := w2) (r := w2.heap.size) (x := .int .i64 f1) (y := .int .i64 f2) (t := 27) (by simp)
  refine (CF.out _ (HA.out.below B2 (Nat.le_refl _)) (HE.out.below B2 (Nat.le_refl _))).mono ?_
  rintro e w3 ⟨rfl, hb⟩
  have hk : Below ((w2).alloc (.cells #[.int .i64 f1, .int .i64 f2] 27)).heap.size ((w2).alloc (.cells #[.int .i64 f1, .int .i64 f2] 27)) w3 := hb
  have s3 : w.heap.size ≤ w3.heap.size := Nat.le_trans B2.size hk.size
  have q3 : w2.heap.size + 1 ≤ w3.heap.size := by have z := hk.size; (try simp only [World.size_alloc] at z); omega
  have B3 : Below w.heap.size w w3 := bcall B2 hk B2.size
  replace XA := XA.below hk XA.lt
  replace T5 := T5.below hk T5.lt
  clear B2 hk hb
  clear XA_0 XA_1 XA_2 XA_3 XA_l
  have XA_0 := XA.c 0 _ rfl
  have XA_1 := XA.c 1 _ rfl
  have XA_2 := XA.c 2 _ rfl
  have XA_3 := XA.c 3 _ rfl
  have XA_l := XA.lt
  obtain ⟨T5_0, T5_1, T5_f0, T5_f1, T5_l⟩ := id T5
  go_wp2_with fail
  replace B3 := (B3.alloc B3.size (.cells #[.int .i64 f1, .int .i64 f2] 27))
  replace XA := (XA.alloc (.cells #[.int .i64 f1, .int .i64 f2] 27))
  replace T5 := (T5.alloc (.cells #[.int .i64 f1, .int .i64 f2] 27))
  have T7 : Box2 ((w3).alloc (.cells #[.int .i64 f1, .int .i64 f2] 27)) (w3.heap.size) (.int .i64 f1) (.int .i64 f2) := Box2.newAt (w := w3) (r := w3.heap.size) (x := .int .i64 f1) (y := .int .i64 f2) (t := 27) (by simp)
  refine (CP.out _ (HE.out.below B3 (Nat.le_refl _))).mono ?_
  rintro e w4 ⟨px, cx, rfl, vx, hb⟩
  have VX := Lib.hid vx
  clear vx
  have hk : Below ((w3).alloc (.cells #[.int .i64 f1, .int .i64 f2] 27)).heap.size ((w3).alloc (.cells #[.int .i64 f1, .int .i64 f2] 27)) w4 := hb
  have s4 : w.heap.size ≤ w4.heap.size := Nat.le_trans B3.size hk.size
  have q4 : w3.heap.size + 1 ≤ w4.heap.size := by have z := hk.size; (try simp only [World.size_alloc] at z); omega
  have B4 : Below w.heap.size w w4 := bcall B3 hk B3.size
  replace XA := XA.below hk XA.lt
  replace T5 := T5.below hk T5.lt
  replace T7 := T7.below hk T7.lt
  clear B3 hk hb
  clear XA_0 XA_1 XA_2 XA_3 XA_l T5_0 T5_1 T5_f0 T5_f1 T5_l
  have XA_0 := XA.c 0 _ rfl
  have XA_1 := XA.c 1 _ rfl
  have XA_2 := XA.c 2 _ rfl
  have XA_3 := XA.c 3 _ rfl
  have XA_l := XA.lt
  obtain ⟨T5_0, T5_1, T5_f0, T5_f1, T5_l⟩ := id T5
  obtain ⟨T7_0, T7_1, T7_f0, T7_f1, T7_l⟩ := id T7
  go_wp2_with fail
  refine wp_region_ord [0, 1, 2, 3, 4, 5, 6, 7, 8] (by kernel_rfl) (by kernel_rfl) ?_
  replace B4 := (B4.alloc B4.size (.cells #[.int .i64 Pl.Ver.zero.maj, .int .i64 Pl.Ver.zero.min, .int .i64 Pl.Ver.zero.pat, .slice px Pl.Ver.zero.pre.length cx] 24))
  replace XA := (XA.alloc (.cells #[.int .i64 Pl.Ver.zero.maj, .int .i64 Pl.Ver.zero.min, .int .i64 Pl.Ver.zero.pat, .slice px Pl.Ver.zero.pre.length cx] 24))
  replace T5 := (T5.alloc (.cells #[.int .i64 Pl.Ver.zero.maj, .int .i64 Pl.Ver.zero.min, .int .i64 Pl.Ver.zero.pat, .slice px Pl.Ver.zero.pre.length cx] 24))
  replace T7 := (T7.alloc (.cells #[.int .i64 Pl.Ver.zero.maj, .int .i64 Pl.Ver.zero.min, .int .i64 Pl.Ver.zero.pat, .slice px Pl.Ver.zero.pre.length cx] 24))
  replace VX := Lib.hid (VX.out.below (B := (w4).heap.size) (w' := (w4).alloc (.cells #[.int .i64 Pl.Ver.zero.maj, .int .i64 Pl.Ver.zero.min, .int .i64 Pl.Ver.zero.pat, .slice px Pl.Ver.zero.pre.length cx] 24)) ((Below.refl _ _).alloc (Nat.le_refl _) _) (Nat.le_refl _))
  have T8 : Blk ((w4).alloc (.cells #[.int .i64 Pl.Ver.zero.maj, .int .i64 Pl.Ver.zero.min, .int .i64 Pl.Ver.zero.pat, .slice px Pl.Ver.zero.pre.length cx] 24)) (w4.heap.size) [.int .i64 Pl.Ver.zero.maj, .int .i64 Pl.Ver.zero.min, .int .i64 Pl.Ver.zero.pat, .slice px Pl.Ver.zero.pre.length cx] := Blk.new (w4) [.int .i64 Pl.Ver.zero.maj, .int .i64 Pl.Ver.zero.min, .int .i64 Pl.Ver.zero.pat, .slice px Pl.Ver.zero.pre.length cx] 24 (g := w4.heap.size) (by simp)
  replace B4 := (B4.alloc B4.size (.cells #[.int .i64 2, .int .i64 (-1)] 27))
  replace XA := (XA.alloc (.cells #[.int .i64 2, .int .i64 (-1)] 27))
  replace T5 := (T5.alloc (.cells #[.int .i64 2, .int .i64 (-1)] 27))
  replace T7 := (T7.alloc (.cells #[.int .i64 2, .int .i64 (-1)] 27))
  replace VX := Lib.hid (VX.out.below (B := ((w4).alloc (.cells #[.int .i64 Pl.Ver.zero.maj, .int .i64 Pl.Ver.zero.min, .int .i64 Pl.Ver.zero.pat, .slice px Pl.Ver.zero.pre.length cx] 24)).heap.size) (w' := ((w4).alloc (.cells #[.int .i64 Pl.Ver.zero.maj, .int .i64 Pl.Ver.zero.min, .int .i64 Pl.Ver.zero.pat, .slice px Pl.Ver.zero.pre.length cx] 24)).alloc (.cells #[.int .i64 2, .int .i64 (-1)] 27)) ((Below.refl _ _).alloc (Nat.le_refl _) _) (Nat.le_refl _))
  replace T8 := (T8.alloc (.cells #[.int .i64 2, .int .i64 (-1)] 27))
  have T9 : Box2 (((w4).alloc (.cells #[.int .i64 Pl.Ver.zero.maj, .int .i64 Pl.Ver.zero.min, .int .i64 Pl.Ver.zero.pat, .slice px Pl.Ver.zero.pre.length cx] 24)).alloc (.cells #[.int .i64 2, .int .i64 (-1)] 27)) (w4.heap.size + 1) (.int .i64 2) (.int .i64 (-1)) := Box2.newAt (w := (w4).alloc (.cells #[.int .i64 Pl.Ver.zero.maj, .int .i64 Pl.Ver.zero.min, .int .i64 Pl.Ver.zero.pat, .slice px Pl.Ver.zero.pre.length cx] 24)) (r := w4.heap.size + 1) (x := .int .i64 2) (y := .int .i64 (-1)) (t := 27) (by simp)
  have q5 : w4.heap.size + 2 ≤ (((w4).alloc (.cells #[.int .i64 Pl.Ver.zero.maj, .int .i64 Pl.Ver.zero.min, .int .i64 Pl.Ver.zero.pat, .slice px Pl.Ver.zero.pre.length cx] 24)).alloc (.cells #[.int .i64 2, .int .i64 (-1)] 27)).drew.heap.size := by simp only [World.size_alloc, World.size_drew]; omega
  replace B4 := B4.drew
  replace XA := XA.drew
  replace T5 := T5.drew
  replace T7 := T7.drew
  replace VX := Lib.hid (VX.out.below (B := (((w4).alloc (.cells #[.int .i64 Pl.Ver.zero.maj, .int .i64 Pl.Ver.zero.min, .int .i64 Pl.Ver.zero.pat, .slice px Pl.Ver.zero.pre.length cx] 24)).alloc (.cells #[.int .i64 2, .int .i64 (-1)] 27)).heap.size) (w' := (((w4).alloc (.cells #[.int .i64 Pl.Ver.zero.maj, .int .i64 Pl.Ver.zero.min, .int .i64 Pl.Ver.zero.pat, .slice px Pl.Ver.zero.pre.length cx] 24)).alloc (.cells #[.int .i64 2, .int .i64 (-1)] 27)).drew) (Below.refl _ _).drew (Nat.le_refl _))
  replace T8 := T8.drew
  replace T9 := T9.drew
  clear XA_0 XA_1 XA_2 XA_3 XA_l T5_0 T5_1 T5_f0 T5_f1 T5_l T7_0 T7_1 T7_f0 T7_f1 T7_l
  generalize (((w4).alloc (.cells #[.int .i64 Pl.Ver.zero.maj, .int .i64 Pl.Ver.zero.min, .int .i64 Pl.Ver.zero.pat, .slice px Pl.Ver.zero.pre.length cx] 24)).alloc (.cells #[.int .i64 2, .int .i64 (-1)] 27)).drew = w5 at *
  have s5 : w.heap.size ≤ w5.heap.size := B4.size
  have XA_0 := XA.c 0 _ rfl
  have XA_1 := XA.c 1 _ rfl
  have XA_2 := XA.c 2 _ rfl
  have XA_3 := XA.c 3 _ rfl
  have XA_l := XA.lt
  obtain ⟨T5_0, T5_1, T5_f0, T5_f1, T5_l⟩ := id T5
  obtain ⟨T7_0, T7_1, T7_f0, T7_f1, T7_l⟩ := id T7
  have T8_0 := T8.c 0 _ rfl
  have T8_1 := T8.c 1 _ rfl
  have T8_2 := T8.c 2 _ rfl
  have T8_3 := T8.c 3 _ rfl
  have T8_l := T8.lt
  obtain ⟨T9_0, T9_1, T9_f0, T9_f1, T9_l⟩ := id T9
  repeat (first | (refine wpI_rd rfl rfl ?_; go_big_quiet_step (fail); refine wpQuiet_nil ?_) | (refine wpI_skip rfl rfl ?_; try simp only [Act.put, List.setIfInBounds_toArray, List.set_cons_zero, List.set_cons_succ]))
  try simp only [Act.put, List.setIfInBounds_toArray, List.set_cons_zero, List.set_cons_succ]
  refine wpI_call (f := 12) (args := #[.int .i64 2, .int .i64 (-1)]) rfl rfl rfl (by simp [go_sem]) ?_
  refine (lfault_at _ _ _).mono ?_
  rintro e w0 ⟨rfl, rfl⟩
  refine ⟨_, rfl, by go_grown, ?_⟩
  try simp only [Act.put, List.setIfInBounds_toArray, List.set_cons_zero, List.set_cons_succ]
  repeat (first | (refine wpI_rd rfl rfl ?_; go_big_quiet_step (fail); refine wpQuiet_nil ?_) | (refine wpI_skip rfl rfl ?_; try simp only [Act.put, List.setIfInBounds_toArray, List.set_cons_zero, List.set_cons_succ]))
  try simp only [Act.put, List.setIfInBounds_toArray, List.set_cons_zero, List.set_cons_succ]
  replace B4 := (B4.alloc B4.size (.cells #[.int .i64 2, .int .i64 (-1)] 27))
  replace XA := (XA.alloc (.cells #[.int .i64 2, .int .i64 (-1)] 27))
  replace T5 := (T5.alloc (.cells #[.int .i64 2, .int .i64 (-1)] 27))
  replace T7 := (T7.alloc (.cells #[.int .i64 2, .int .i64 (-1)] 27))
  replace VX := Lib.hid (VX.out.below (B := (w5).heap.size) (w' := (w5).alloc (.cells #[.int .i64 2, .int .i64 (-1)] 27)) ((Below.refl _ _).alloc (Nat.le_refl _) _) (Nat.le_refl _))
  replace T8 := (T8.alloc (.cells #[.int .i64 2, .int .i64 (-1)] 27))
  replace T9 := (T9.alloc (.cells #[.int .i64 2, .int .i64 (-1)] 27))
  refine wpI_call (f := 17) rfl rfl rfl (by simp [go_sem]; rfl) ?_
  refine (CS.out _ _ _ _ _ VX.out (VIn.zero _)).mono ?_
  rintro e w6 ⟨rfl, hb⟩
  refine ⟨_, rfl, hb, ?_⟩
  skip
  have hk : Below ((w5).alloc (.cells #[.int .i64 2, .int .i64 (-1)] 27)).heap.size ((w5).alloc (.cells #[.int .i64 2, .int .i64 (-1)] 27)) w6 := hb
  have s6 : w.heap.size ≤ w6.heap.size := Nat.le_trans B4.size hk.size
  have q6 : w5.heap.size + 1 ≤ w6.heap.size := by have z := hk.size; (try simp only [World.size_alloc] at z); omega
  have B6 : Below w.heap.size w w6 := bcall B4 hk B4.size
  replace XA := XA.below hk XA.lt
  replace T5 := T5.below hk T5.lt
  replace T7 := T7.below hk T7.lt
  replace VX := Lib.hid (VX.out.below hk (Nat.le_refl _))
  replace T8 := T8.below hk T8.lt
  replace T9 := T9.below hk T9.lt
  clear B4 hk hb
  clear XA_0 XA_1 XA_2 XA_3 XA_l T5_0 T5_1 T5_f0 T5_f1 T5_l T7_0 T7_1 T7_f0 T7_f1 T7_l T8_0 T8_1 T8_2 T8_3 T8_l T9_0 T9_1 T9_f0 T9_f1 T9_l
  have XA_0 := XA.c 0 _ rfl
  have XA_1 := XA.c 1 _ rfl
  have XA_2 := XA.c 2 _ rfl
  have XA_3 := XA.c 3 _ rfl
  have XA_l := XA.lt
  obtain ⟨T5_0, T5_1, T5_f0, T5_f1, T5_l⟩ := id T5
  obtain ⟨T7_0, T7_1, T7_f0, T7_f1, T7_l⟩ := id T7
  have T8_0 := T8.c 0 _ rfl
  have T8_1 := T8.c 1 _ rfl
  have T8_2 := T8.c 2 _ rfl
  have T8_3 := T8.c 3 _ rfl
  have T8_l := T8.lt
  obtain ⟨T9_0, T9_1, T9_f0, T9_f1, T9_l⟩ := id T9
  try simp only [Act.put, List.setIfInBounds_toArray, List.set_cons_zero, List.set_cons_succ]
  repeat (first | (refine wpI_rd rfl rfl ?_; go_big_quiet_step (fail); refine wpQuiet_nil ?_) | (refine wpI_skip rfl rfl ?_; try simp only [Act.put, List.setIfInBounds_toArray, List.set_cons_zero, List.set_cons_succ]))
  try simp only [Act.put, List.setIfInBounds_toArray, List.set_cons_zero, List.set_cons_succ]
  refine wpI_nil ?_
  try simp only [Act.put, List.setIfInBounds_toArray, List.set_cons_zero, List.set_cons_succ]
  go_wp2_with fail
  go_ret
  exact ⟨rfl, B6⟩
set_option maxRecDepth 100000 in
set_option maxHeartbeats 4000000 in
theorem vtm_BN (v : Pl.Ver) (s : ByteArray) (pa : Option Addr) (ca : Nat) (w : World) (E : Env w) (ha : VIn w v pa ca) (hs : s.size ≤ 9223372036854775807) (f1 f2 : Int) (hf : f1 ≠ 0) (ea : Pl.vrF v = (f1, f2)) (hl : s.size ≤ 80) (hp : Pl.refParse (Pl.bsl s) = none) :
    Calls Tryd.prog 4 #[verV v pa ca, .string s] w fun e w' => e = .returned (.bool true) ∧ Below w.heap.size w w' := by
  have HE := Lib.hid E
  have HA := Lib.hid ha
  have u1 := bneT hf
  have u2 := beqF hf
  have CA := Lib.hid (fun (W : World) (h : VIn W v pa ca) => VersionFault_any v pa ca W h)
  rw [ea] at CA
  have CF := Lib.hid (fun (W : World) (h : VIn W v pa ca) (e : Env W) => Format_any v pa ca W h e)
  rw [ea] at CF
  have et : Pl.fmtV v = ⟨#[]⟩ := by unfold Pl.fmtV; rw [ea, if_pos hf]; first | rfl | decide
  rw [et] at CF
  clear et
  obtain ⟨ep, eq⟩ := Pl.par_none hl (by rw [Pl.parse_same]; exact hp)
  have CP := Lib.hid (fun (W : World) (e : Env W) => Parse_any s W hs e)
  rw [ep, eq] at CP
  delta RVerF at CP
  have CO := Lib.hid (fun (W : World) => VersionOf_any s W hl)
  rw [show Pl.refV (Pl.bsl s) = Pl.Ver.zero by unfold Pl.refV; rw [hp]; rfl, show Pl.refOk (Pl.bsl s) = false by unfold Pl.refOk; rw [hp]; rfl] at CO
  delta RVerB at CO
  have CS := Lib.hid (fun (W : World) (p q : Option Addr) (c d : Nat) (h : VIn W Pl.Ver.zero p c) (h2 : VIn W Pl.Ver.zero q d) => SameVersion_any Pl.Ver.zero Pl.Ver.zero p q c d W h h2)
  rw [Pl.sameB_iff.2 rfl] at CS
  simp only [fltV] at CA CF CP
  have l1 : (s.size : Int) ≤ 9223372036854775807 := by omega
  have l2 : decide ((80 : Int) < (s.size : Int)) = false := by simp; omega
  have l3 : decide (80 < s.size) = false := by simp; omega
  clear E ha ea ep eq hf hp
  go_enter Tryd.func4, Tryd.ntmps4
  have B0 : Below w.heap.size w w := Below.refl _ _
  go_wp2_with fail
  replace B0 := (B0.alloc B0.size (.cells #[.int .i64 v.maj, .int .i64 v.min, .int .i64 v.pat, .slice pa v.pre.length ca] 24))
  have XA : Blk ((w).alloc (.cells #[.int .i64 v.maj, .int .i64 v.min, .int .i64 v.pat, .slice pa v.pre.length ca] 24)) (w.heap.size) [.int .i64 v.maj, .int .i64 v.min, .int .i64 v.pat, .slice pa v.pre.length ca] := Blk.new (w) [.int .i64 v.maj, .int .i64 v.min, .int .i64 v.pat, .slice pa v.pre.length ca] 24 (g := w.heap.size) (by simp)
  refine (orders_any _ (HE.out.below B0 (Nat.le_refl _))).mono ?_
  rintro e w1 ⟨rfl, hb⟩
  have hk : Below ((w).alloc (.cells #[.int .i64 v.maj, .int .i64 v.min, .int .i64 v.pat, .slice pa v.pre.length ca] 24)).heap.size ((w).alloc (.cells #[.int .i64 v.maj, .int .i64 v.min, .int .i64 v.pat, .slice pa v.pre.length ca] 24)) w1 := hb
  have s1 : w.heap.size ≤ w1.heap.size := Nat.le_trans B0.size hk.size
  have q1 : w.heap.size + 1 ≤ w1.heap.size := by have z := hk.size; (try simp only [World.size_alloc] at z); omega
  have B1 : Below w.heap.size w w1 := bcall B0 hk B0.size
  replace XA := XA.below hk XA.lt
  clear B0 hk hb
  have XA_0 := XA.c 0 _ rfl
  have XA_1 := XA.c 1 _ rfl
  have XA_2 := XA.c 2 _ rfl
  have XA_3 := XA.c 3 _ rfl
  have XA_l := XA.lt
  go_wp2_with fail
  refine (CA.out _ (HA.out.below B1 (Nat.le_refl _))).mono ?_
  rintro e w2 ⟨rfl, hb⟩
  have hk : Below (w1).heap.size (w1) w2 := hb
  have s2 : w.heap.size ≤ w2.heap.size := Nat.le_trans B1.size hk.size
  have q2 : w1.heap.size + 0 ≤ w2.heap.size := by have z := hk.size; (try simp only [World.size_alloc, World.size_setCell] at z); omega
  have B2 : Below w.heap.size w w2 := bcall B1 hk B1.size
  replace XA := XA.below hk XA.lt
  clear B1 hk hb
  clear XA_0 XA_1 XA_2 XA_3 XA_l
  have XA_0 := XA.c 0 _ rfl
  have XA_1 := XA.c 1 _ rfl
  have XA_2 := XA.c 2 _ rfl
  have XA_3 := XA.c 3 _ rfl
  have XA_l := XA.lt
  go_wp2_with fail
  replace B2 := (B2.alloc B2.size (.cells #[.int .i64 f1, .int .i64 f2] 27))
  replace XA := (XA.alloc (.cells #[.int .i64 f1, .int .i64 f2] 27))
  have T5 : Box2 ((w2).alloc (.cells #[.int .i64 f1, .int .i64 f2] 27)) (w2.heap.size) (.int .i64 f1) (.int .i64 f2) := Box2.newAt (w := w2) (r := w2.heap.size) (x := .int .i64 f1) (y := .int .i64 f2) (t := 27) (by simp)
  refine (CF.out _ (HA.out.below B2 (Nat.le_refl _)) (HE.out.below B2 (Nat.le_refl _))).mono ?_
  rintro e w3 ⟨rfl, hb⟩
  have hk : Below ((w2).alloc (.cells #[.int .i64 f1, .int .i64 f2] 27)).heap.size ((w2).alloc (.cells #[.int .i64 f1, .int .i64 f2] 27)) w3 := hb
  have s3 : w.heap.size ≤ w3.heap.size := Nat.le_trans B2.size hk.size
  have q3 : w2.heap.size + 1 ≤ w3.heap.size := by have z := hk.size; (try simp only [World.size_alloc] at z); omega
  have B3 : Below w.heap.size w w3 := bcall B2 hk B2.size
  replace XA := XA.below hk XA.lt
  replace T5 := T5.below hk T5.lt
  clear B2 hk hb
  clear XA_0 XA_1 XA_2 XA_3 XA_l
  have XA_0 := XA.c 0 _ rfl
  have XA_1 := XA.c 1 _ rfl
  have XA_2 := XA.c 2 _ rfl
  have XA_3 := XA.c 3 _ rfl
  have XA_l := XA.lt
  obtain ⟨T5_0, T5_1, T5_f0, T5_f1, T5_l⟩ := id T5
  go_wp2_with fail
  replace B3 := (B3.alloc B3.size (.cells #[.int .i64 f1, .int .i64 f2] 27))
  replace XA := (XA.alloc (.cells #[.int .i64 f1, .int .i64 f2] 27))
  replace T5 := (T5.alloc (.cells #[.int .i64 f1, .int .i64 f2] 27))
  have T7 : Box2 ((w3).alloc (.cells #[.int .i64 f1, .int .i64 f2] 27)) (w3.heap.size) (.int .i64 f1) (.int .i64 f2) := Box2.newAt (w := w3) (r := w3.heap.size) (x := .int .i64 f1) (y := .int .i64 f2) (t := 27) (by simp)
  refine (CP.out _ (HE.out.below B3 (Nat.le_refl _))).mono ?_
  rintro e w4 ⟨px, cx, rfl, vx, hb⟩
  have VX := Lib.hid vx
  clear vx
  have hk : Below ((w3).alloc (.cells #[.int .i64 f1, .int .i64 f2] 27)).heap.size ((w3).alloc (.cells #[.int .i64 f1, .int .i64 f2] 27)) w4 := hb
  have s4 : w.heap.size ≤ w4.heap.size := Nat.le_trans B3.size hk.size
  have q4 : w3.heap.size + 1 ≤ w4.heap.size := by have z := hk.size; (try simp only [World.size_alloc] at z); omega
  have B4 : Below w.heap.size w w4 := bcall B3 hk B3.size
  replace XA := XA.below hk XA.lt
  replace T5 := T5.below hk T5.lt
  replace T7 := T7.below hk T7.lt
  clear B3 hk hb
  clear XA_0 XA_1 XA_2 XA_3 XA_l T5_0 T5_1 T5_f0 T5_f1 T5_l
  have XA_0 := XA.c 0 _ rfl
  have XA_1 := XA.c 1 _ rfl
  have XA_2 := XA.c 2 _ rfl
  have XA_3 := XA.c 3 _ rfl
  have XA_l := XA.lt
  obtain ⟨T5_0, T5_1, T5_f0, T5_f1, T5_l⟩ := id T5
  obtain ⟨T7_0, T7_1, T7_f0, T7_f1, T7_l⟩ := id T7
  go_wp2_with fail
  replace B4 := (B4.alloc B4.size (.cells #[.int .i64 Pl.Ver.zero.maj, .int .i64 Pl.Ver.zero.min, .int .i64 Pl.Ver.zero.pat, .slice px Pl.Ver.zero.pre.length cx] 24))
  replace XA := (XA.alloc (.cells #[.int .i64 Pl.Ver.zero.maj, .int .i64 Pl.Ver.zero.min, .int .i64 Pl.Ver.zero.pat, .slice px Pl.Ver.zero.pre.length cx] 24))
  replace T5 := (T5.alloc (.cells #[.int .i64 Pl.Ver.zero.maj, .int .i64 Pl.Ver.zero.min, .int .i64 Pl.Ver.zero.pat, .slice px Pl.Ver.zero.pre.length cx] 24))
  replace T7 := (T7.alloc (.cells #[.int .i64 Pl.Ver.zero.maj, .int .i64 Pl.Ver.zero.min, .int .i64 Pl.Ver.zero.pat, .slice px Pl.Ver.zero.pre.length cx] 24))
  replace VX := Lib.hid (VX.out.below (B := (w4).heap.size) (w' := (w4).alloc (.cells #[.int .i64 Pl.Ver.zero.maj, .int .i64 Pl.Ver.zero.min, .int .i64 Pl.Ver.zero.pat, .slice px Pl.Ver.zero.pre.length cx] 24)) ((Below.refl _ _).alloc (Nat.le_refl _) _) (Nat.le_refl _))
  have T8 : Blk ((w4).alloc (.cells #[.int .i64 Pl.Ver.zero.maj, .int .i64 Pl.Ver.zero.min, .int .i64 Pl.Ver.zero.pat, .slice px Pl.Ver.zero.pre.length cx] 24)) (w4.heap.size) [.int .i64 Pl.Ver.zero.maj, .int .i64 Pl.Ver.zero.min, .int .i64 Pl.Ver.zero.pat, .slice px Pl.Ver.zero.pre.length cx] := Blk.new (w4) [.int .i64 Pl.Ver.zero.maj, .int .i64 Pl.Ver.zero.min, .int .i64 Pl.Ver.zero.pat, .slice px Pl.Ver.zero.pre.length cx] 24 (g := w4.heap.size) (by simp)
  replace B4 := (B4.alloc B4.size (.cells #[.int .i64 1, .int .i64 (-1)] 27))
  replace XA := (XA.alloc (.cells #[.int .i64 1, .int .i64 (-1)] 27))
  replace T5 := (T5.alloc (.cells #[.int .i64 1, .int .i64 (-1)] 27))
  replace T7 := (T7.alloc (.cells #[.int .i64 1, .int .i64 (-1)] 27))
  replace VX := Lib.hid (VX.out.below (B := ((w4).alloc (.cells #[.int .i64 Pl.Ver.zero.maj, .int .i64 Pl.Ver.zero.min, .int .i64 Pl.Ver.zero.pat, .slice px Pl.Ver.zero.pre.length cx] 24)).heap.size) (w' := ((w4).alloc (.cells #[.int .i64 Pl.Ver.zero.maj, .int .i64 Pl.Ver.zero.min, .int .i64 Pl.Ver.zero.pat, .slice px Pl.Ver.zero.pre.length cx] 24)).alloc (.cells #[.int .i64 1, .int .i64 (-1)] 27)) ((Below.refl _ _).alloc (Nat.le_refl _) _) (Nat.le_refl _))
  replace T8 := (T8.alloc (.cells #[.int .i64 1, .int .i64 (-1)] 27))
  have T9 : Box2 (((w4).alloc (.cells #[.int .i64 Pl.Ver.zero.maj, .int .i64 Pl.Ver.zero.min, .int .i64 Pl.Ver.zero.pat, .slice px Pl.Ver.zero.pre.length cx] 24)).alloc (.cells #[.int .i64 1, .int .i64 (-1)] 27)) (w4.heap.size + 1) (.int .i64 1) (.int .i64 (-1)) := Box2.newAt (w := (w4).alloc (.cells #[.int .i64 Pl.Ver.zero.maj, .int .i64 Pl.Ver.zero.min, .int .i64 Pl.Ver.zero.pat, .slice px Pl.Ver.zero.pre.length cx] 24)) (r := w4.heap.size + 1) (x := .int .i64 1) (y := .int .i64 (-1)) (t := 27) (by simp)
  refine (CO.out _).mono ?_
  rintro e w5 ⟨py, cy, rfl, vy, hb⟩
  have VY := Lib.hid vy
  clear vy
  have hk : Below (((w4).alloc (.cells #[.int .i64 Pl.Ver.zero.maj, .int .i64 Pl.Ver.zero.min, .int .i64 Pl.Ver.zero.pat, .slice px Pl.Ver.zero.pre.length cx] 24)).alloc (.cells #[.int .i64 1, .int .i64 (-1)] 27)).heap.size (((w4).alloc (.cells #[.int .i64 Pl.Ver.zero.maj, .int .i64 Pl.Ver.zero.min, .int .i64 Pl.Ver.zero.pat, .slice px Pl.Ver.zero.pre.length cx] 24)).alloc (.cells #[.int .i64 1, .int .i64 (-1)] 27)) w5 := hb
  have s5 : w.heap.size ≤ w5.heap.size := Nat.le_trans B4.size hk.size
  have q5 : w4.heap.size + 2 ≤ w5.heap.size := by have z := hk.size; (try simp only [World.size_alloc] at z); omega
  have B5 : Below w.heap.size w w5 := bcall B4 hk B4.size
  replace XA := XA.below hk XA.lt
  replace T5 := T5.below hk T5.lt
  replace T7 := T7.below hk T7.lt
  replace VX := Lib.hid (VX.out.below hk (Nat.le_refl _))
  replace T8 := T8.below hk T8.lt
  replace T9 := T9.below hk T9.lt
  clear B4 hk hb
  clear XA_0 XA_1 XA_2 XA_3 XA_l T5_0 T5_1 T5_f0 T5_f1 T5_l T7_0 T7_1 T7_f0 T7_f1 T7_l
  have XA_0 := XA.c 0 _ rfl
  have XA_1 := XA.c 1 _ rfl
  have XA_2 := XA.c 2 _ rfl
  have XA_3 := XA.c 3 _ rfl
  have XA_l := XA.lt
  obtain ⟨T5_0, T5_1, T5_f0, T5_f1, T5_l⟩ := id T5
  obtain ⟨T7_0, T7_1, T7_f0, T7_f1, T7_l⟩ := id T7
  have T8_0 := T8.c 0 _ rfl
  have T8_1 := T8.c 1 _ rfl
  have T8_2 := T8.c 2 _ rfl
  have T8_3 := T8.c 3 _ rfl
  have T8_l := T8.lt
  obtain ⟨T9_0, T9_1, T9_f0, T9_f1, T9_l⟩ := id T9
  go_wp2_with fail
  refine wp_region_ord [0, 1, 2, 3, 4, 5, 6, 7, 8] (by kernel_rfl) (by kernel_rfl) ?_
  replace B5 := (B5.alloc B5.size (.cells #[.int .i64 Pl.Ver.zero.maj, .int .i64 Pl.Ver.zero.min, .int .i64 Pl.Ver.zero.pat, .slice py Pl.Ver.zero.pre.length cy] 24))
  replace XA := (XA.alloc (.cells #[.int .i64 Pl.Ver.zero.maj, .int .i64 Pl.Ver.zero.min, .int .i64 Pl.Ver.zero.pat, .slice py Pl.Ver.zero.pre.length cy] 24))
  replace T5 := (T5.alloc (.cells #[.int .i64 Pl.Ver.zero.maj, .int .i64 Pl.Ver.zero.min, .int .i64 Pl.Ver.zero.pat, .slice py Pl.Ver.zero.pre.length cy] 24))
  replace T7 := (T7.alloc (.cells #[.int .i64 Pl.Ver.zero.maj, .int .i64 Pl.Ver.zero.min, .int .i64 Pl.Ver.zero.pat, .slice py Pl.Ver.zero.pre.length cy] 24))
  replace VX := Lib.hid (VX.out.below (B := (w5).heap.size) (w' := (w5).alloc (.cells #[.int .i64 Pl.Ver.zero.maj, .int .i64 Pl.Ver.zero.min, .int .i64 Pl.Ver.zero.pat, .slice py Pl.Ver.zero.pre.length cy] 24)) ((Below.refl _ _).alloc (Nat.le_refl _) _) (Nat.le_refl _))
  replace T8 := (T8.alloc (.cells #[.int .i64 Pl.Ver.zero.maj, .int .i64 Pl.Ver.zero.min, .int .i64 Pl.Ver.zero.pat, .slice py Pl.Ver.zero.pre.length cy] 24))
  replace T9 := (T9.alloc (.cells #[.int .i64 Pl.Ver.zero.maj, .int .i64 Pl.Ver.zero.min, .int .i64 Pl.Ver.zero.pat, .slice py Pl.Ver.zero.pre.length cy] 24))
  replace VY := Lib.hid (VY.out.below (B := (w5).heap.size) (w' := (w5).alloc (.cells #[.int .i64 Pl.Ver.zero.maj, .int .i64 Pl.Ver.zero.min, .int .i64 Pl.Ver.zero.pat, .slice py Pl.Ver.zero.pre.length cy] 24)) ((Below.refl _ _).alloc (Nat.le_refl _) _) (Nat.le_refl _))
  have T10 : Blk ((w5).alloc (.cells #[.int .i64 Pl.Ver.zero.maj, .int .i64 Pl.Ver.zero.min, .int .i64 Pl.Ver.zero.pat, .slice py Pl.Ver.zero.pre.length cy] 24)) (w5.heap.size) [.int .i64 Pl.Ver.zero.maj, .int .i64 Pl.Ver.zero.min, .int .i64 Pl.Ver.zero.pat, .slice py Pl.Ver.zero.pre.length cy] := Blk.new (w5) [.int .i64 Pl.Ver.zero.maj, .int .i64 Pl.Ver.zero.min, .int .i64 Pl.Ver.zero.pat, .slice py Pl.Ver.zero.pre.length cy] 24 (g := w5.heap.size) (by simp)
  have q6 : w5.heap.size + 1 ≤ ((w5).alloc (.cells #[.int .i64 Pl.Ver.zero.maj, .int .i64 Pl.Ver.zero.min, .int .i64 Pl.Ver.zero.pat, .slice py Pl.Ver.zero.pre.length cy] 24)).drew.heap.size := by simp only [World.size_alloc, World.size_drew]; omega
  replace B5 := B5.drew
  replace XA := XA.drew
  replace T5 := T5.drew
  replace T7 := T7.drew
  replace VX := Lib.hid (VX.out.below (B := ((w5).alloc (.cells #[.int .i64 Pl.Ver.zero.maj, .int .i64 Pl.Ver.zero.min, .int .i64 Pl.Ver.zero.pat, .slice py Pl.Ver.zero.pre.length cy] 24)).heap.size) (w' := ((w5).alloc (.cells #[.int .i64 Pl.Ver.zero.maj, .int .i64 Pl.Ver.zero.min, .int .i64 Pl.Ver.zero.pat, .slice py Pl.Ver.zero.pre.length cy] 24)).drew) (Below.refl _ _).drew (Nat.le_refl _))
  replace T8 := T8.drew
  replace T9 := T9.drew
  replace VY := Lib.hid (VY.out.below (B := ((w5).alloc (.cells #[.int .i64 Pl.Ver.zero.maj, .int .i64 Pl.Ver.zero.min, .int .i64 Pl.Ver.zero.pat, .slice py Pl.Ver.zero.pre.length cy] 24)).heap.size) (w' := ((w5).alloc (.cells #[.int .i64 Pl.Ver.zero.maj, .int .i64 Pl.Ver.zero.min, .int .i64 Pl.Ver.zero.pat, .slice py Pl.Ver.zero.pre.length cy] 24)).drew) (Below.refl _ _).drew (Nat.le_refl _))
  replace T10 := T10.drew
  clear XA_0 XA_1 XA_2 XA_3 XA_l T5_0 T5_1 T5_f0 T5_f1 T5_l T7_0 T7_1 T7_f0 T7_f1 T7_l T8_0 T8_1 T8_2 T8_3 T8_l T9_0 T9_1 T9_f0 T9_f1 T9_l
  generalize ((w5).alloc (.cells #[.int .i64 Pl.Ver.zero.maj, .int .i64 Pl.Ver.zero.min, .int .i64 Pl.Ver.zero.pat, .slice py Pl.Ver.zero.pre.length cy] 24)).drew = w6 at *
  have s6 : w.heap.size ≤ w6.heap.size := B5.size
  have XA_0 := XA.c 0 _ rfl
  have XA_1 := XA.c 1 _ rfl
  have XA_2 := XA.c 2 _ rfl
  have XA_3 := XA.c 3 _ rfl
  have XA_l := XA.lt
  obtain ⟨T5_0, T5_1, T5_f0, T5_f1, T5_l⟩ := id T5
  obtain ⟨T7_0, T7_1, T7_f0, T7_f1, T7_l⟩ := id T7
  have T8_0 := T8.c 0 _ rfl
  have T8_1 := T8.c 1 _ rfl
  have T8_2 := T8.c 2 _ rfl
  have T8_3 := T8.c 3 _ rfl
  have T8_l := T8.lt
  obtain ⟨T9_0, T9_1, T9_f0, T9_f1, T9_l⟩ := id T9
  have T10_0 := T10.c 0 _ rfl
  have T10_1 := T10.c 1 _ rfl
  have T10_2 := T10.c 2 _ rfl
  have T10_3 := T10.c 3 _ rfl
  have T10_l := T10.lt
  repeat (first | (refine wpI_rd rfl rfl ?_; go_big_quiet_step (fail); refine wpQuiet_nil ?_) | (refine wpI_skip rfl rfl ?_; try simp only [Act.put, List.setIfInBounds_toArray, List.set_cons_zero, List.set_cons_succ]))
  try simp only [Act.put, List.setIfInBounds_toArray, List.set_cons_zero, List.set_cons_succ]
  refine wpI_call (f := 12) (args := #[.int .i64 1, .int .i64 (-1)]) rfl rfl rfl (by simp [go_sem]) ?_
  refine (lfault_at _ _ _).mono ?_
  rintro e w0 ⟨rfl, rfl⟩
  refine ⟨_, rfl, by go_grown, ?_⟩
  try simp only [Act.put, List.setIfInBounds_toArray, List.set_cons_zero, List.set_cons_succ]
  repeat (first | (refine wpI_rd rfl rfl ?_; go_big_quiet_step (fail); refine wpQuiet_nil ?_) | (refine wpI_skip rfl rfl ?_; try simp only [Act.put, List.setIfInBounds_toArray, List.set_cons_zero, List.set_cons_succ]))
  try simp only [Act.put, List.setIfInBounds_toArray, List.set_cons_zero, List.set_cons_succ]
  replace B5 := (B5.alloc B5.size (.cells #[.int .i64 1, .int .i64 (-1)] 27))
  replace XA := (XA.alloc (.cells #[.int .i64 1, .int .i64 (-1)] 27))
  replace T5 := (T5.alloc (.cells #[.int .i64 1, .int .i64 (-1)] 27))
  replace T7 := (T7.alloc (.cells #[.int .i64 1, .int .i64 (-1)] 27))
  replace VX := Lib.hid (VX.out.below (B := (w6).heap.size) (w' := (w6).alloc (.cells #[.int .i64 1, .int .i64 (-1)] 27)) ((Below.refl _ _).alloc (Nat.le_refl _) _) (Nat.le_refl _))
  replace T8 := (T8.alloc (.cells #[.int .i64 1, .int .i64 (-1)] 27))
  replace T9 := (T9.alloc (.cells #[.int .i64 1, .int .i64 (-1)] 27))
  replace VY := Lib.hid (VY.out.below (B := (w6).heap.size) (w' := (w6).alloc (.cells #[.int .i64 1, .int .i64 (-1)] 27)) ((Below.refl _ _).alloc (Nat.le_refl _) _) (Nat.le_refl _))
  replace T10 := (T10.alloc (.cells #[.int .i64 1, .int .i64 (-1)] 27))
  refine wpI_call (f := 17) rfl rfl rfl (by simp [go_sem]; rfl) ?_
  refine (CS.out _ _ _ _ _ VX.out (VIn.zero _)).mono ?_
  rintro e w7 ⟨rfl, hb⟩
  refine ⟨_, rfl, hb, ?_⟩
  skip
  have hk : Below ((w6).alloc (.cells #[.int .i64 1, .int .i64 (-1)] 27)).heap.size ((w6).alloc (.cells #[.int .i64 1, .int .i64 (-1)] 27)) w7 := hb
  have s7 : w.heap.size ≤ w7.heap.size := Nat.le_trans B5.size hk.size
  have q7 : w6.heap.size + 1 ≤ w7.heap.size := by have z := hk.size; (try simp only [World.size_alloc] at z); omega
  have B7 : Below w.heap.size w w7 := bcall B5 hk B5.size
  replace XA := XA.below hk XA.lt
  replace T5 := T5.below hk T5.lt
  replace T7 := T7.below hk T7.lt
  replace VX := Lib.hid (VX.out.below hk (Nat.le_refl _))
  replace T8 := T8.below hk T8.lt
  replace T9 := T9.below hk T9.lt
  replace VY := Lib.hid (VY.out.below hk (Nat.le_refl _))
  replace T10 := T10.below hk T10.lt
  clear B5 hk hb
  clear XA_0 XA_1 XA_2 XA_3 XA_l T5_0 T5_1 T5_f0 T5_f1 T5_l T7_0 T7_1 T7_f0 T7_f1 T7_l T8_0 T8_1 T8_2 T8_3 T8_l T9_0 T9_1 T9_f0 T9_f1 T9_l T10_0 T10_1 T10_2 T10_3 T10_l
  have XA_0 := XA.c 0 _ rfl
  have XA_1 := XA.c 1 _ rfl
  have XA_2 := XA.c 2 _ rfl
  have XA_3 := XA.c 3 _ rfl
  have XA_l := XA.lt
  obtain ⟨T5_0, T5_1, T5_f0, T5_f1, T5_l⟩ := id T5
  obtain ⟨T7_0, T7_1, T7_f0, T7_f1, T7_l⟩ := id T7
  have T8_0 := T8.c 0 _ rfl
  have T8_1 := T8.c 1 _ rfl
  have T8_2 := T8.c 2 _ rfl
  have T8_3 := T8.c 3 _ rfl
  have T8_l := T8.lt
  obtain ⟨T9_0, T9_1, T9_f0, T9_f1, T9_l⟩ := id T9
  have T10_0 := T10.c 0 _ rfl
  have T10_1 := T10.c 1 _ rfl
  have T10_2 := T10.c 2 _ rfl
  have T10_3 := T10.c 3 _ rfl
  have T10_l := T10.lt
  try simp only [Act.put, List.setIfInBounds_toArray, List.set_cons_zero, List.set_cons_succ]
  repeat (first | (refine wpI_rd rfl rfl ?_; go_big_quiet_step (fail); refine wpQuiet_nil ?_) | (refine wpI_skip rfl rfl ?_; try simp only [Act.put, List.setIfInBounds_toArray, List.set_cons_zero, List.set_cons_succ]))
  try simp only [Act.put, List.setIfInBounds_toArray, List.set_cons_zero, List.set_cons_succ]
  refine wpI_nil ?_
  try simp only [Act.put, List.setIfInBounds_toArray, List.set_cons_zero, List.set_cons_succ]
  go_wp2_with fail
  go_ret
  exact ⟨rfl, B7⟩
set_option maxRecDepth 100000 in
set_option maxHeartbeats 4000000 in
theorem vtm_BS (v : Pl.Ver) (s : ByteArray) (pa : Option Addr) (ca : Nat) (w : World) (E : Env w) (ha : VIn w v pa ca) (hs : s.size ≤ 9223372036854775807) (f1 f2 : Int) (hf : f1 ≠ 0) (ea : Pl.vrF v = (f1, f2)) (hl : s.size ≤ 80) (y : Pl.Ver) (hp : Pl.refParse (Pl.bsl s) = some y) :
    Calls Tryd.prog 4 #[verV v pa ca, .string s] w fun e w' => e = .returned (.bool true) ∧ Below w.heap.size w w' := by
  have HE := Lib.hid E
  have HA := Lib.hid ha
  have u1 := bneT hf
  have u2 := beqF hf
  have CA := Lib.hid (fun (W : World) (h : VIn W v pa ca) => VersionFault_any v pa ca W h)
  rw [ea] at CA
  have CF := Lib.hid (fun (W : World) (h : VIn W v pa ca) (e : Env W) => Format_any v pa ca W h e)
  rw [ea] at CF
  have et : Pl.fmtV v = ⟨#[]⟩ := by unfold Pl.fmtV; rw [ea, if_pos hf]; first | rfl | decide
  rw [et] at CF
  clear et
  obtain ⟨ep, eq⟩ := Pl.par_some hl (by rw [Pl.parse_same]; exact hp)
  have CP := Lib.hid (fun (W : World) (e : Env W) => Parse_any s W hs e)
  rw [ep, eq] at CP
  delta RVerF at CP
  have CO := Lib.hid (fun (W : World) => VersionOf_any s W hl)
  rw [show Pl.refV (Pl.bsl s) = y by unfold Pl.refV; rw [hp]; rfl, show Pl.refOk (Pl.bsl s) = true by unfold Pl.refOk; rw [hp]; rfl] at CO
  delta RVerB at CO
  have CS := Lib.hid (fun (W : World) (p q : Option Addr) (c d : Nat) (h : VIn W y p c) (h2 : VIn W y q d) => SameVersion_any y y p q c d W h h2)
  rw [Pl.sameB_iff.2 rfl] at CS
  simp only [fltV] at CA CF CP
  have l1 : (s.size : Int) ≤ 9223372036854775807 := by omega
  have l2 : decide ((80 : Int) < (s.size : Int)) = false := by simp; omega
  have l3 : decide (80 < s.size) = false := by simp; omega
  clear E ha ea ep eq hf hp
  go_enter Tryd.func4, Tryd.ntmps4
  have B0 : Below w.heap.size w w := Below.refl _ _
  go_wp2_with fail
  replace B0 := (B0.alloc B0.size (.cells #[.int .i64 v.maj, .int .i64 v.min, .int .i64 v.pat, .slice pa v.pre.length ca] 24))
  have XA : Blk ((w).alloc (.cells #[.int .i64 v.maj, .int .i64 v.min, .int .i64 v.pat, .slice pa v.pre.length ca] 24)) (w.heap.size) [.int .i64 v.maj, .int .i64 v.min, .int .i64 v.pat, .slice pa v.pre.length ca] := Blk.new (w) [.int .i64 v.maj, .int .i64 v.min, .int .i64 v.pat, .slice pa v.pre.length ca] 24 (g := w.heap.size) (by simp)
  refine (orders_any _ (HE.out.below B0 (Nat.le_refl _))).mono ?_
  rintro e w1 ⟨rfl, hb⟩
  have hk : Below ((w).alloc (.cells #[.int .i64 v.maj, .int .i64 v.min, .int .i64 v.pat, .slice pa v.pre.length ca] 24)).heap.size ((w).alloc (.cells #[.int .i64 v.maj, .int .i64 v.min, .int .i64 v.pat, .slice pa v.pre.length ca] 24)) w1 := hb
  have s1 : w.heap.size ≤ w1.heap.size := Nat.le_trans B0.size hk.size
  have q1 : w.heap.size + 1 ≤ w1.heap.size := by have z := hk.size; (try simp only [World.size_alloc] at z); omega
  have B1 : Below w.heap.size w w1 := bcall B0 hk B0.size
  replace XA := XA.below hk XA.lt
  clear B0 hk hb
  have XA_0 := XA.c 0 _ rfl
  have XA_1 := XA.c 1 _ rfl
  have XA_2 := XA.c 2 _ rfl
  have XA_3 := XA.c 3 _ rfl
  have XA_l := XA.lt
  go_wp2_with fail
  refine (CA.out _ (HA.out.below B1 (Nat.le_refl _))).mono ?_
  rintro e w2 ⟨rfl, hb⟩
  have hk : Below (w1).heap.size (w1) w2 := hb
  have s2 : w.heap.size ≤ w2.heap.size := Nat.le_trans B1.size hk.size
  have q2 : w1.heap.size + 0 ≤ w2.heap.size := by have z := hk.size; (try simp only [World.size_alloc, World.size_setCell] at z); omega
  have B2 : Below w.heap.size w w2 := bcall B1 hk B1.size
  replace XA := XA.below hk XA.lt
  clear B1 hk hb
  clear XA_0 XA_1 XA_2 XA_3 XA_l
  have XA_0 := XA.c 0 _ rfl
  have XA_1 := XA.c 1 _ rfl
  have XA_2 := XA.c 2 _ rfl
  have XA_3 := XA.c 3 _ rfl
  have XA_l := XA.lt
  go_wp2_with fail
  replace B2 := (B2.alloc B2.size (.cells #[.int .i64 f1, .int .i64 f2] 27))
  replace XA := (XA.alloc (.cells #[.int .i64 f1, .int .i64 f2] 27))
  have T5 : Box2 ((w2).alloc (.cells #[.int .i64 f1, .int .i64 f2] 27)) (w2.heap.size) (.int .i64 f1) (.int .i64 f2) := Box2.newAt (w := w2) (r := w2.heap.size) (x := .int .i64 f1) (y := .int .i64 f2) (t := 27) (by simp)
  refine (CF.out _ (HA.out.below B2 (Nat.le_refl _)) (HE.out.below B2 (Nat.le_refl _))).mono ?_
  rintro e w3 ⟨rfl, hb⟩
  have hk : Below ((w2).alloc (.cells #[.int .i64 f1, .int .i64 f2] 27)).heap.size ((w2).alloc (.cells #[.int .i64 f1, .int .i64 f2] 27)) w3 := hb
  have s3 : w.heap.size ≤ w3.heap.size := Nat.le_trans B2.size hk.size
  have q3 : w2.heap.size + 1 ≤ w3.heap.size := by have z := hk.size; (try simp only [World.size_alloc] at z); omega
  have B3 : Below w.heap.size w w3 := bcall B2 hk B2.size
  replace XA := XA.below hk XA.lt
  replace T5 := T5.below hk T5.lt
  clear B2 hk hb
  clear XA_0 XA_1 XA_2 XA_3 XA_l
  have XA_0 := XA.c 0 _ rfl
  have XA_1 := XA.c 1 _ rfl
  have XA_2 := XA.c 2 _ rfl
  have XA_3 := XA.c 3 _ rfl
  have XA_l := XA.lt
  obtain ⟨T5_0, T5_1, T5_f0, T5_f1, T5_l⟩ := id T5
  go_wp2_with fail
  replace B3 := (B3.alloc B3.size (.cells #[.int .i64 f1, .int .i64 f2] 27))
  replace XA := (XA.alloc (.cells #[.int .i64 f1, .int .i64 f2] 27))
  replace T5 := (T5.alloc (.cells #[.int .i64 f1, .int .i64 f2] 27))
  have T7 : Box2 ((w3).alloc (.cells #[.int .i64 f1, .int .i64 f2] 27)) (w3.heap.size) (.int .i64 f1) (.int .i64 f2) := Box2.newAt (w := w3) (r := w3.heap.size) (x := .int .i64 f1) (y := .int .i64 f2) (t := 27) (by simp)
  refine (CP.out _ (HE.out.below B3 (Nat.le_refl _))).mono ?_
  rintro e w4 ⟨px, cx, rfl, vx, hb⟩
  have VX := Lib.hid vx
  clear vx
  have hk : Below ((w3).alloc (.cells #[.int .i64 f1, .int .i64 f2] 27)).heap.size ((w3).alloc (.cells #[.int .i64 f1, .int .i64 f2] 27)) w4 := hb
  have s4 : w.heap.size ≤ w4.heap.size := Nat.le_trans B3.size hk.size
  have q4 : w3.heap.size + 1 ≤ w4.heap.size := by have z := hk.size; (try simp only [World.size_alloc] at z); omega
  have B4 : Below w.heap.size w w4 := bcall B3 hk B3.size
  replace XA := XA.below hk XA.lt
  replace T5 := T5.below hk T5.lt
  replace T7 := T7.below hk T7.lt
  clear B3 hk hb
  clear XA_0 XA_1 XA_2 XA_3 XA_l T5_0 T5_1 T5_f0 T5_f1 T5_l
  have XA_0 := XA.c 0 _ rfl
  have XA_1 := XA.c 1 _ rfl
  have XA_2 := XA.c 2 _ rfl
  have XA_3 := XA.c 3 _ rfl
  have XA_l := XA.lt
  obtain ⟨T5_0, T5_1, T5_f0, T5_f1, T5_l⟩ := id T5
  obtain ⟨T7_0, T7_1, T7_f0, T7_f1, T7_l⟩ := id T7
  go_wp2_with fail
  replace B4 := (B4.alloc B4.size (.cells #[.int .i64 y.maj, .int .i64 y.min, .int .i64 y.pat, .slice px y.pre.length cx] 24))
  replace XA := (XA.alloc (.cells #[.int .i64 y.maj, .int .i64 y.min, .int .i64 y.pat, .slice px y.pre.length cx] 24))
  replace T5 := (T5.alloc (.cells #[.int .i64 y.maj, .int .i64 y.min, .int .i64 y.pat, .slice px y.pre.length cx] 24))
  replace T7 := (T7.alloc (.cells #[.int .i64 y.maj, .int .i64 y.min, .int .i64 y.pat, .slice px y.pre.length cx] 24))
  replace VX := Lib.hid (VX.out.below (B := (w4).heap.size) (w' := (w4).alloc (.cells #[.int .i64 y.maj, .int .i64 y.min, .int .i64 y.pat, .slice px y.pre.length cx] 24)) ((Below.refl _ _).alloc (Nat.le_refl _) _) (Nat.le_refl _))
  have T8 : Blk ((w4).alloc (.cells #[.int .i64 y.maj, .int .i64 y.min, .int .i64 y.pat, .slice px y.pre.length cx] 24)) (w4.heap.size) [.int .i64 y.maj, .int .i64 y.min, .int .i64 y.pat, .slice px y.pre.length cx] := Blk.new (w4) [.int .i64 y.maj, .int .i64 y.min, .int .i64 y.pat, .slice px y.pre.length cx] 24 (g := w4.heap.size) (by simp)
  replace B4 := (B4.alloc B4.size (.cells #[.int .i64 0, .int .i64 0] 27))
  replace XA := (XA.alloc (.cells #[.int .i64 0, .int .i64 0] 27))
  replace T5 := (T5.alloc (.cells #[.int .i64 0, .int .i64 0] 27))
  replace T7 := (T7.alloc (.cells #[.int .i64 0, .int .i64 0] 27))
  replace VX := Lib.hid (VX.out.below (B := ((w4).alloc (.cells #[.int .i64 y.maj, .int .i64 y.min, .int .i64 y.pat, .slice px y.pre.length cx] 24)).heap.size) (w' := ((w4).alloc (.cells #[.int .i64 y.maj, .int .i64 y.min, .int .i64 y.pat, .slice px y.pre.length cx] 24)).alloc (.cells #[.int .i64 0, .int .i64 0] 27)) ((Below.refl _ _).alloc (Nat.le_refl _) _) (Nat.le_refl _))
  replace T8 := (T8.alloc (.cells #[.int .i64 0, .int .i64 0] 27))
  have T9 : Box2 (((w4).alloc (.cells #[.int .i64 y.maj, .int .i64 y.min, .int .i64 y.pat, .slice px y.pre.length cx] 24)).alloc (.cells #[.int .i64 0, .int .i64 0] 27)) (w4.heap.size + 1) (.int .i64 0) (.int .i64 0) := Box2.newAt (w := (w4).alloc (.cells #[.int .i64 y.maj, .int .i64 y.min, .int .i64 y.pat, .slice px y.pre.length cx] 24)) (r := w4.heap.size + 1) (x := .int .i64 0) (y := .int .i64 0) (t := 27) (by simp)
  refine (CO.out _).mono ?_
  rintro e w5 ⟨py, cy, rfl, vy, hb⟩
  have VY := Lib.hid vy
  clear vy
  have hk : Below (((w4).alloc (.cells #[.int .i64 y.maj, .int .i64 y.min, .int .i64 y.pat, .slice px y.pre.length cx] 24)).alloc (.cells #[.int .i64 0, .int .i64 0] 27)).heap.size (((w4).alloc (.cells #[.int .i64 y.maj, .int .i64 y.min, .int .i64 y.pat, .slice px y.pre.length cx] 24)).alloc (.cells #[.int .i64 0, .int .i64 0] 27)) w5 := hb
  have s5 : w.heap.size ≤ w5.heap.size := Nat.le_trans B4.size hk.size
  have q5 : w4.heap.size + 2 ≤ w5.heap.size := by have z := hk.size; (try simp only [World.size_alloc] at z); omega
  have B5 : Below w.heap.size w w5 := bcall B4 hk B4.size
  replace XA := XA.below hk XA.lt
  replace T5 := T5.below hk T5.lt
  replace T7 := T7.below hk T7.lt
  replace VX := Lib.hid (VX.out.below hk (Nat.le_refl _))
  replace T8 := T8.below hk T8.lt
  replace T9 := T9.below hk T9.lt
  clear B4 hk hb
  clear XA_0 XA_1 XA_2 XA_3 XA_l T5_0 T5_1 T5_f0 T5_f1 T5_l T7_0 T7_1 T7_f0 T7_f1 T7_l
  have XA_0 := XA.c 0 _ rfl
  have XA_1 := XA.c 1 _ rfl
  have XA_2 := XA.c 2 _ rfl
  have XA_3 := XA.c 3 _ rfl
  have XA_l := XA.lt
  obtain ⟨T5_0, T5_1, T5_f0, T5_f1, T5_l⟩ := id T5
  obtain ⟨T7_0, T7_1, T7_f0, T7_f1, T7_l⟩ := id T7
  have T8_0 := T8.c 0 _ rfl
  have T8_1 := T8.c 1 _ rfl
  have T8_2 := T8.c 2 _ rfl
  have T8_3 := T8.c 3 _ rfl
  have T8_l := T8.lt
  obtain ⟨T9_0, T9_1, T9_f0, T9_f1, T9_l⟩ := id T9
  go_wp2_with fail
  replace B5 := (B5.alloc B5.size (.cells #[.int .i64 y.maj, .int .i64 y.min, .int .i64 y.pat, .slice py y.pre.length cy] 24))
  replace XA := (XA.alloc (.cells #[.int .i64 y.maj, .int .i64 y.min, .int .i64 y.pat, .slice py y.pre.length cy] 24))
  replace T5 := (T5.alloc (.cells #[.int .i64 y.maj, .int .i64 y.min, .int .i64 y.pat, .slice py y.pre.length cy] 24))
  replace T7 := (T7.alloc (.cells #[.int .i64 y.maj, .int .i64 y.min, .int .i64 y.pat, .slice py y.pre.length cy] 24))
  replace VX := Lib.hid (VX.out.below (B := (w5).heap.size) (w' := (w5).alloc (.cells #[.int .i64 y.maj, .int .i64 y.min, .int .i64 y.pat, .slice py y.pre.length cy] 24)) ((Below.refl _ _).alloc (Nat.le_refl _) _) (Nat.le_refl _))
  replace T8 := (T8.alloc (.cells #[.int .i64 y.maj, .int .i64 y.min, .int .i64 y.pat, .slice py y.pre.length cy] 24))
  replace T9 := (T9.alloc (.cells #[.int .i64 y.maj, .int .i64 y.min, .int .i64 y.pat, .slice py y.pre.length cy] 24))
  replace VY := Lib.hid (VY.out.below (B := (w5).heap.size) (w' := (w5).alloc (.cells #[.int .i64 y.maj, .int .i64 y.min, .int .i64 y.pat, .slice py y.pre.length cy] 24)) ((Below.refl _ _).alloc (Nat.le_refl _) _) (Nat.le_refl _))
  have T10 : Blk ((w5).alloc (.cells #[.int .i64 y.maj, .int .i64 y.min, .int .i64 y.pat, .slice py y.pre.length cy] 24)) (w5.heap.size) [.int .i64 y.maj, .int .i64 y.min, .int .i64 y.pat, .slice py y.pre.length cy] := Blk.new (w5) [.int .i64 y.maj, .int .i64 y.min, .int .i64 y.pat, .slice py y.pre.length cy] 24 (g := w5.heap.size) (by simp)
  refine (CS.out _ _ _ _ _ VX.out VY.out).mono ?_
  rintro e w6 ⟨rfl, hb⟩
  have hk : Below ((w5).alloc (.cells #[.int .i64 y.maj, .int .i64 y.min, .int .i64 y.pat, .slice py y.pre.length cy] 24)).heap.size ((w5).alloc (.cells #[.int .i64 y.maj, .int .i64 y.min, .int .i64 y.pat, .slice py y.pre.length cy] 24)) w6 := hb
  have s6 : w.heap.size ≤ w6.heap.size := Nat.le_trans B5.size hk.size
  have q6 : w5.heap.size + 1 ≤ w6.heap.size := by have z := hk.size; (try simp only [World.size_alloc] at z); omega
  have B6 : Below w.heap.size w w6 := bcall B5 hk B5.size
  replace XA := XA.below hk XA.lt
  replace T5 := T5.below hk T5.lt
  replace T7 := T7.below hk T7.lt
  replace VX := Lib.hid (VX.out.below hk (Nat.le_refl _))
  replace T8 := T8.below hk T8.lt
  replace T9 := T9.below hk T9.lt
  replace VY := Lib.hid (VY.out.below hk (Nat.le_refl _))
  replace T10 := T10.below hk T10.lt
  clear B5 hk hb
  clear XA_0 XA_1 XA_2 XA_3 XA_l T5_0 T5_1 T5_f0 T5_f1 T5_l T7_0 T7_1 T7_f0 T7_f1 T7_l T8_0 T8_1 T8_2 T8_3 T8_l T9_0 T9_1 T9_f0 T9_f1 T9_l
  have XA_0 := XA.c 0 _ rfl
  have XA_1 := XA.c 1 _ rfl
  have XA_2 := XA.c 2 _ rfl
  have XA_3 := XA.c 3 _ rfl
  have XA_l := XA.lt
  obtain ⟨T5_0, T5_1, T5_f0, T5_f1, T5_l⟩ := id T5
  obtain ⟨T7_0, T7_1, T7_f0, T7_f1, T7_l⟩ := id T7
  have T8_0 := T8.c 0 _ rfl
  have T8_1 := T8.c 1 _ rfl
  have T8_2 := T8.c 2 _ rfl
  have T8_3 := T8.c 3 _ rfl
  have T8_l := T8.lt
  obtain ⟨T9_0, T9_1, T9_f0, T9_f1, T9_l⟩ := id T9
  have T10_0 := T10.c 0 _ rfl
  have T10_1 := T10.c 1 _ rfl
  have T10_2 := T10.c 2 _ rfl
  have T10_3 := T10.c 3 _ rfl
  have T10_l := T10.lt
  go_wp2_with fail
  go_ret
  exact ⟨rfl, B6⟩
theorem vtm_any (v : Pl.Ver) (s : ByteArray) (pa : Option Addr) (ca : Nat) (w : World) (E : Env w) (ha : VIn w v pa ca) (hs : s.size ≤ 9223372036854775807) :
    Calls Tryd.prog 4 #[verV v pa ca, .string s] w fun e w' => e = .returned (.bool true) ∧ Below w.heap.size w w' := by
  rcases Pl.vrF_cases v with ⟨-, ok⟩ | fv
  · by_cases hl : 80 < s.size
    · exact vtm_GL v s pa ca w E ha hs ok hl
    · cases hp : Pl.refParse (Pl.bsl s) with
      | none => exact vtm_GN v s pa ca w E ha hs ok (by omega) hp
      | some y => exact vtm_GS v s pa ca w E ha hs ok (by omega) y hp
  · by_cases hl : 80 < s.size
    · exact vtm_BL v s pa ca w E ha hs _ _ fv rfl hl
    · cases hp : Pl.refParse (Pl.bsl s) with
      | none => exact vtm_BN v s pa ca w E ha hs _ _ fv rfl (by omega) hp
      | some y => exact vtm_BS v s pa ca w E ha hs _ _ fv rfl (by omega) y hp
end Go.Proofs.YthnhajihkdgifaaDoor
