/- Law: the texts of versions are canonical (walk). -/
import Derived.Test.YthnhajihkdgifaaDoorCb
namespace Go.Proofs.YthnhajihkdgifaaDoor
open Go.RowKit
set_option maxRecDepth 100000 in
set_option maxHeartbeats 4000000 in
theorem vtc_GN (v : Pl.Ver) (s : ByteArray) (pa : Option Addr) (ca : Nat) (w : World) (E : Env w) (ha : VIn w v pa ca) (hs : s.size ≤ 9223372036854775807) (okv : v.Ok) (g1 g2 : Int) (hg : g1 ≠ 0) (eq : Pl.parF s = (g1, g2)) :
    Calls Tryd.prog 5 #[verV v pa ca, .string s] w fun e w' => e = .returned (.bool true) ∧ Below w.heap.size w w' := by
  have HE := Lib.hid E
  have HA := Lib.hid ha
  have ea := Pl.vrF_ok okv
  have u3 := bneT hg
  have u4 := beqF hg
  have CF := Lib.hid (fun (W : World) (h : VIn W v pa ca) (e : Env W) => Format_any v pa ca W h e)
  rw [ea] at CF
  have et : Pl.fmtV v = Pl.mkS (Pl.verT v) := by unfold Pl.fmtV; rw [ea, if_neg (by decide)]
  obtain ⟨T, hT⟩ : ∃ T, Pl.mkS (Pl.verT v) = T := ⟨_, rfl⟩
  rw [et, hT] at CF
  have tl : T.size ≤ 80 := by rw [← hT, Pl.mkS_size]; exact Pl.verT_len okv
  obtain ⟨ep, eq1⟩ := Pl.par_some (s := T) (v := v) tl (by rw [← hT, Pl.bsl_mkS]; exact Pl.prog_iff.2 ⟨okv, rfl⟩)
  have CP := Lib.hid (fun (W : World) (e : Env W) => Parse_any T W (by omega) e)
  rw [ep, eq1] at CP
  delta RVerF at CP
  have CS := Lib.hid (fun (W : World) (p q : Option Addr) (c d : Nat) (h : VIn W v p c) (h2 : VIn W v q d) => SameVersion_any v v p q c d W h h2)
  rw [Pl.sameB_iff.2 rfl] at CS
  clear tl ep eq1 hT et
  obtain ⟨y, ep⟩ : ∃ y, Pl.parV s = y := ⟨_, rfl⟩
  obtain ⟨⟨i1, i2⟩, eg⟩ : ∃ x, Pl.vrF y = x := ⟨_, rfl⟩
  obtain ⟨R, eh⟩ : ∃ R, Pl.fmtV y = R := ⟨_, rfl⟩
  have CQ := Lib.hid (fun (W : World) (e : Env W) => Parse_any s W hs e)
  rw [ep, eq] at CQ
  delta RVerF at CQ
  have CG := Lib.hid (fun (W : World) (p : Option Addr) (c : Nat) (h : VIn W y p c) (e : Env W) => Format_any y p c W h e)
  rw [eh, eg] at CG
  clear ep eg eh
  simp only [fltV] at CF CP CQ CG
  clear E ha ea eq hg
  go_enter Tryd.func5, Tryd.ntmps5
  have B0 : Below w.heap.size w w := Below.refl _ _
  go_wp2_with fail
  replace B0 := (B0.alloc B0.size (.cells #[.int .i64 v.maj, .int .i64 v.min, .int .i64 v.pat, .slice pa v.pre.length ca] 24))
  have XA : Blk ((w).alloc (.cells #[.int .i64 v.maj, .int .i64 v.min, .int .i64 v.pat, .slice pa v.pre.length ca] 24)) (w.heap.size) [.int .i64 v.maj, .int .i64 v.min, .int .i64 v.pat, .slice pa v.pre.length ca] := Blk.new (w) [.int .i64 v.maj, .int .i64 v.min, .int .i64 v.pat, .slice pa v.pre.length ca] 24 (g := w.heap.size) (by simp)
  refine (orders_any _ (HE.out.below B0 (Nat.le_refl _))).mono ?_
  rintro e w1 ⟨rfl, hb⟩
  have hk : Below ((w).alloc (.cells #[.int .i64 v.maj, .int .i64 v.min, .int .i64 v.pat, .slice pa v.pre.length ca] 24)).heap.size ((w).alloc (.cells #[.int .i64 v.maj, .int .i64 v.min, .int .i64 v.pat, .slice pa v.pre.length ca] 24)) w1 := hb
  have s1 : w.heap.size ≤ w1.heap.size := Nat.le_trans B0.size hk.size
  have q1 : w.heap.size + 1 ≤ w1.heap.size := by have z := hk.size; (try simp only [World.size_alloc] at z); omega
  have B1 : Below w.heap.size w w1 := bcall B0 hk B0.size
  replace XA := XA.below hk XA.lt
  clear B0 hk hb
  have XA_0 := XA.c 0 _ rfl
  have XA_1 := XA.c 1 _ rfl
  have XA_2 := XA.c 2 _ rfl
  have XA_3 := XA.c 3 _ rfl
  have XA_l := XA.lt
  go_wp2_with fail
  refine (CF.out _ (HA.out.below B1 (Nat.le_refl _)) (HE.out.below B1 (Nat.le_refl _))).mono ?_
  rintro e w2 ⟨rfl, hb⟩
  have hk : Below (w1).heap.size (w1) w2 := hb
  have s2 : w.heap.size ≤ w2.heap.size := Nat.le_trans B1.size hk.size
  have q2 : w1.heap.size + 0 ≤ w2.heap.size := by have z := hk.size; (try simp only [World.size_alloc, World.size_setCell] at z); omega
  have B2 : Below w.heap.size w w2 := bcall B1 hk B1.size
  replace XA := XA.below hk XA.lt
  clear B1 hk hb
  clear XA_0 XA_1 XA_2 XA_3 XA_l
  have XA_0 := XA.c 0 _ rfl
  have XA_1 := XA.c 1 _ rfl
  have XA_2 := XA.c 2 _ rfl
  have XA_3 := XA.c 3 _ rfl
  have XA_l := XA.lt
  go_wp2_with fail
  replace B2 := (B2.alloc B2.size (.cells #[.int .i64 0, .int .i64 0] 27))
  replace XA := (XA.alloc (.cells #[.int .i64 0, .int .i64 0] 27))
  have T6 : Box2 ((w2).alloc (.cells #[.int .i64 0, .int .i64 0] 27)) (w2.heap.size) (.int .i64 0) (.int .i64 0) := Box2.newAt (w := w2) (r := w2.heap.size) (x := .int .i64 0) (y := .int .i64 0) (t := 27) (by simp)
  refine (CP.out _ (HE.out.below B2 (Nat.le_refl _))).mono ?_
  rintro e w3 ⟨px, cx, rfl, vx, hb⟩
  have VX := Lib.hid vx
  clear vx
  have hk : Below ((w2).alloc (.cells #[.int .i64 0, .int .i64 0] 27)).heap.size ((w2).alloc (.cells #[.int .i64 0, .int .i64 0] 27)) w3 := hb
  have s3 : w.heap.size ≤ w3.heap.size := Nat.le_trans B2.size hk.size
  have q3 : w2.heap.size + 1 ≤ w3.heap.size := by have z := hk.size; (try simp only [World.size_alloc] at z); omega
  have B3 : Below w.heap.size w w3 := bcall B2 hk B2.size
  replace XA := XA.below hk XA.lt
  replace T6 := T6.below hk T6.lt
  clear B2 hk hb
  clear XA_0 XA_1 XA_2 XA_3 XA_l
  have XA_0 := XA.c 0 _ rfl
  have XA_1 := XA.c 1 _ rfl
  have XA_2 := XA.c 2 _ rfl
  have XA_3 := XA.c 3 _ rfl
  have XA_l := XA.lt
  obtain ⟨T6_0, T6_1, T6_f0, T6_f1, T6_l⟩ := id T6
  go_wp2_with fail
  replace B3 := (B3.alloc B3.size (.cells #[.int .i64 v.maj, .int .i64 v.min, .int .i64 v.pat, .slice px v.pre.length cx] 24))
  replace XA := (XA.alloc (.cells #[.int .i64 v.maj, .int .i64 v.min, .int .i64 v.pat, .slice px v.pre.length cx] 24))
  replace T6 := (T6.alloc (.cells #[.int .i64 v.maj, .int .i64 v.min, .int .i64 v.pat, .slice px v.pre.length cx] 24))
  replace VX := Lib.hid (VX.out.below (B := (w3).heap.size) (w' := (w3).alloc (.cells #[.int .i64 v.maj, .int .i64 v.min, .int .i64 v.pat, .slice px v.pre.length cx] 24)) ((Below.refl _ _).alloc (Nat.le_refl _) _) (Nat.le_refl _))
  have T7 : Blk ((w3).alloc (.cells #[.int .i64 v.maj, .int .i64 v.min, .int .i64 v.pat, .slice px v.pre.length cx] 24)) (w3.heap.size) [.int .i64 v.maj, .int .i64 v.min, .int .i64 v.pat, .slice px v.pre.length cx] := Blk.new (w3) [.int .i64 v.maj, .int .i64 v.min, .int .i64 v.pat, .slice px v.pre.length cx] 24 (g := w3.heap.size) (by simp)
  replace B3 := (B3.alloc B3.size (.cells #[.int .i64 0, .int .i64 0] 27))
  replace XA := (XA.alloc (.cells #[.int .i64 0, .int .i64 0] 27))
  replace T6 := (T6.alloc (.cells #[.int .i64 0, .int .i64 0] 27))
  replace VX := Lib.hid (VX.out.below (B := ((w3).alloc (.cells #[.int .i64 v.maj, .int .i64 v.min, .int .i64 v.pat, .slice px v.pre.length cx] 24)).heap.size) (w' := ((w3).alloc (.cells #[.int .i64 v.maj, .int .i64 v.min, .int .i64 v.pat, .slice px v.pre.length cx] 24)).alloc (.cells #[.int .i64 0, .int .i64 0] 27)) ((Below.refl _ _).alloc (Nat.le_refl _) _) (Nat.le_refl _))
  replace T7 := (T7.alloc (.cells #[.int .i64 0, .int .i64 0] 27))
  have T8 : Box2 (((w3).alloc (.cells #[.int .i64 v.maj, .int .i64 v.min, .int .i64 v.pat, .slice px v.pre.length cx] 24)).alloc (.cells #[.int .i64 0, .int .i64 0] 27)) (w3.heap.size + 1) (.int .i64 0) (.int .i64 0) := Box2.newAt (w := (w3).alloc (.cells #[.int .i64 v.maj, .int .i64 v.min, .int .i64 v.pat, .slice px v.pre.length cx] 24)) (r := w3.heap.size + 1) (x := .int .i64 0) (y := .int .i64 0) (t := 27) (by simp)
  refine (CS.out _ _ _ _ _ VX.out (HA.out.below B3 (Nat.le_refl _))).mono ?_
  rintro e w4 ⟨rfl, hb⟩
  have hk : Below (((w3).alloc (.cells #[.int .i64 v.maj, .int .i64 v.min, .int .i64 v.pat, .slice px v.pre.length cx] 24)).alloc (.cells #[.int .i64 0, .int .i64 0] 27)).heap.size (((w3).alloc (.cells #[.int .i64 v.maj, .int .i64 v.min, .int .i64 v.pat, .slice px v.pre.length cx] 24)).alloc (.cells #[.int .i64 0, .int .i64 0] 27)) w4 := hb
  have s4 : w.heap.size ≤ w4.heap.size := Nat.le_trans B3.size hk.size
  have q4 : w3.heap.size + 2 ≤ w4.heap.size := by have z := hk.size; (try simp only [World.size_alloc] at z); omega
  have B4 : Below w.heap.size w w4 := bcall B3 hk B3.size
  replace XA := XA.below hk XA.lt
  replace T6 := T6.below hk T6.lt
  replace VX := Lib.hid (VX.out.below hk (Nat.le_refl _))
  replace T7 := T7.below hk T7.lt
  replace T8 := T8.below hk T8.lt
  clear B3 hk hb
  clear XA_0 XA_1 XA_2 XA_3 XA_l T6_0 T6_1 T6_f0 T6_f1 T6_l
  have XA_0 := XA.c 0 _ rfl
  have XA_1 := XA.c 1 _ rfl
  have XA_2 := XA.c 2 _ rfl
  have XA_3 := XA.c 3 _ rfl
  have XA_l := XA.lt
  obtain ⟨T6_0, T6_1, T6_f0, T6_f1, T6_l⟩ := id T6
  have T7_0 := T7.c 0 _ rfl
  have T7_1 := T7.c 1 _ rfl
  have T7_2 := T7.c 2 _ rfl
  have T7_3 := T7.c 3 _ rfl
  have T7_l := T7.lt
  obtain ⟨T8_0, T8_1, T8_f0, T8_f1, T8_l⟩ := id T8
  go_wp2_with fail
  refine (CQ.out _ (HE.out.below B4 (Nat.le_refl _))).mono ?_
  rintro e w5 ⟨py, cy, rfl, vy, hb⟩
  have VY := Lib.hid vy
  clear vy
  have hk : Below (w4).heap.size (w4) w5 := hb
  have s5 : w.heap.size ≤ w5.heap.size := Nat.le_trans B4.size hk.size
  have q5 : w4.heap.size + 0 ≤ w5.heap.size := by have z := hk.size; (try simp only [World.size_alloc, World.size_setCell] at z); omega
  have B5 : Below w.heap.size w w5 := bcall B4 hk B4.size
  replace XA := XA.below hk XA.lt
  replace T6 := T6.below hk T6.lt
  replace VX := Lib.hid (VX.out.below hk (Nat.le_refl _))
  replace T7 := T7.below hk T7.lt
  replace T8 := T8.below hk T8.lt
  clear B4 hk hb
  clear XA_0 XA_1 XA_2 XA_3 XA_l T6_0 T6_1 T6_f0 T6_f1 T6_l T7_0 T7_1 T7_2 T7_3 T7_l T8_0 T8_1 T8_f0 T8_f1 T8_l
  have XA_0 := XA.c 0 _ rfl
  have XA_1 := XA.c 1 _ rfl
  have XA_2 := XA.c 2 _ rfl
  have XA_3 := XA.c 3 _ rfl
  have XA_l := XA.lt
  obtain ⟨T6_0, T6_1, T6_f0, T6_f1, T6_l⟩ := id T6
  have T7_0 := T7.c 0 _ rfl
  have T7_1 := T7.c 1 _ rfl
  have T7_2 := T7.c 2 _ rfl
  have T7_3 := T7.c 3 _ rfl
  have T7_l := T7.lt
  obtain ⟨T8_0, T8_1, T8_f0, T8_f1, T8_l⟩ := id T8
  go_wp2_with fail
  replace B5 := (B5.alloc B5.size (.cells #[.int .i64 y.maj, .int .i64 y.min, .int .i64 y.pat, .slice py y.pre.length cy] 24))
  replace XA := (XA.alloc (.cells #[.int .i64 y.maj, .int .i64 y.min, .int .i64 y.pat, .slice py y.pre.length cy] 24))
  replace T6 := (T6.alloc (.cells #[.int .i64 y.maj, .int .i64 y.min, .int .i64 y.pat, .slice py y.pre.length cy] 24))
  replace VX := Lib.hid (VX.out.below (B := (w5).heap.size) (w' := (w5).alloc (.cells #[.int .i64 y.maj, .int .i64 y.min, .int .i64 y.pat, .slice py y.pre.length cy] 24)) ((Below.refl _ _).alloc (Nat.le_refl _) _) (Nat.le_refl _))
  replace T7 := (T7.alloc (.cells #[.int .i64 y.maj, .int .i64 y.min, .int .i64 y.pat, .slice py y.pre.length cy] 24))
  replace T8 := (T8.alloc (.cells #[.int .i64 y.maj, .int .i64 y.min, .int .i64 y.pat, .slice py y.pre.length cy] 24))
  replace VY := Lib.hid (VY.out.below (B := (w5).heap.size) (w' := (w5).alloc (.cells #[.int .i64 y.maj, .int .i64 y.min, .int .i64 y.pat, .slice py y.pre.length cy] 24)) ((Below.refl _ _).alloc (Nat.le_refl _) _) (Nat.le_refl _))
  have T9 : Blk ((w5).alloc (.cells #[.int .i64 y.maj, .int .i64 y.min, .int .i64 y.pat, .slice py y.pre.length cy] 24)) (w5.heap.size) [.int .i64 y.maj, .int .i64 y.min, .int .i64 y.pat, .slice py y.pre.length cy] := Blk.new (w5) [.int .i64 y.maj, .int .i64 y.min, .int .i64 y.pat, .slice py y.pre.length cy] 24 (g := w5.heap.size) (by simp)
  replace B5 := (B5.alloc B5.size (.cells #[.int .i64 g1, .int .i64 g2] 27))
  replace XA := (XA.alloc (.cells #[.int .i64 g1, .int .i64 g2] 27))
  replace T6 := (T6.alloc (.cells #[.int .i64 g1, .int .i64 g2] 27))
  replace VX := Lib.hid (VX.out.below (B := ((w5).alloc (.cells #[.int .i64 y.maj, .int .i64 y.min, .int .i64 y.pat, .slice py y.pre.length cy] 24)).heap.size) (w' := ((w5).alloc (.cells #[.int .i64 y.maj, .int .i64 y.min, .int .i64 y.pat, .slice py y.pre.length cy] 24)).alloc (.cells #[.int .i64 g1, .int .i64 g2] 27)) ((Below.refl _ _).alloc (Nat.le_refl _) _) (Nat.le_refl _))
  replace T7 := (T7.alloc (.cells #[.int .i64 g1, .int .i64 g2] 27))
  replace T8 := (T8.alloc (.cells #[.int .i64 g1, .int .i64 g2] 27))
  replace VY := Lib.hid (VY.out.below (B := ((w5).alloc (.cells #[.int .i64 y.maj, .int .i64 y.min, .int .i64 y.pat, .slice py y.pre.length cy] 24)).heap.size) (w' := ((w5).alloc (.cells #[.int .i64 y.maj, .int .i64 y.min, .int .i64 y.pat, .slice py y.pre.length cy] 24)).alloc (.cells #[.int .i64 g1, .int .i64 g2] 27)) ((Below.refl _ _).alloc (Nat.le_refl _) _) (Nat.le_refl _))
  replace T9 := (T9.alloc (.cells #[.int .i64 g1, .int .i64 g2] 27))
  have T10 : Box2 (((w5).alloc (.cells #[.int .i64 y.maj, .int .i64 y.min, .int .i64 y.pat, .slice py y.pre.length cy] 24)).alloc (.cells #[.int .i64 g1, .int .i64 g2] 27)) (w5.heap.size + 1) (.int .i64 g1) (.int .i64 g2) := Box2.newAt (w := (w5).alloc (.cells #[.int .i64 y.maj, .int .i64 y.min, .int .i64 y.pat, .slice py y.pre.length cy] 24)) (r := w5.heap.size + 1) (x := .int .i64 g1) (y := .int .i64 g2) (t := 27) (by simp)
  refine (CG.out _ _ _ VY.out (HE.out.below B5 (Nat.le_refl _))).mono ?_
  rintro e w6 ⟨rfl, hb⟩
  have hk : Below (((w5).alloc (.cells #[.int .i64 y.maj, .int .i64 y.min, .int .i64 y.pat, .slice py y.pre.length cy] 24)).alloc (.cells #[.int .i64 g1, .int .i64 g2] 27)).heap.size (((w5).alloc (.cells #[.int .i64 y.maj, .int .i64 y.min, .int .i64 y.pat, .slice py y.pre.length cy] 24)).alloc (.cells #[.int .i64 g1, .int .i64 g2] 27)) w6 := hb
  have s6 : w.heap.size ≤ w6.heap.size := Nat.le_trans B5.size hk.size
  have q6 : w5.heap.size + 2 ≤ w6.heap.size := by have z := hk.size; (try simp only [World.size_alloc] at z); omega
  have B6 : Below w.heap.size w w6 := bcall B5 hk B5.size
  replace XA := XA.below hk XA.lt
  replace T6 := T6.below hk T6.lt
  replace VX := Lib.hid (VX.out.below hk (Nat.le_refl _))
  replace T7 := T7.below hk T7.lt
  replace T8 := T8.below hk T8.lt
  replace VY := Lib.hid (VY.out.below hk (Nat.le_refl _))
  replace T9 := T9.below hk T9.lt
  replace T10 := T10.below hk T10.lt
  clear B5 hk hb
  clear XA_0 XA_1 XA_2 XA_3 XA_l T6_0 T6_1 T6_f0 T6_f1 T6_l T7_0 T7_1 T7_2 T7_3 T7_l T8_0 T8_1 T8_f0 T8_f1 T8_l
  have XA_0 := XA.c 0 _ rfl
  have XA_1 := XA.c 1 _ rfl
  have XA_2 := XA.c 2 _ rfl
  have XA_3 := XA.c 3 _ rfl
  have XA_l := XA.lt
  obtain ⟨T6_0, T6_1, T6_f0, T6_f1, T6_l⟩ := id T6
  have T7_0 := T7.c 0 _ rfl
  have T7_1 := T7.c 1 _ rfl
  have T7_2 := T7.c 2 _ rfl
  have T7_3 := T7.c 3 _ rfl
  have T7_l := T7.lt
  obtain ⟨T8_0, T8_1, T8_f0, T8_f1, T8_l⟩ := id T8
  have T9_0 := T9.c 0 _ rfl
  have T9_1 := T9.c 1 _ rfl
  have T9_2 := T9.c 2 _ rfl
  have T9_3 := T9.c 3 _ rfl
  have T9_l := T9.lt
  obtain ⟨T10_0, T10_1, T10_f0, T10_f1, T10_l⟩ := id T10
  go_wp2_with fail
  replace B6 := (B6.alloc B6.size (.cells #[.int .i64 i1, .int .i64 i2] 27))
  replace XA := (XA.alloc (.cells #[.int .i64 i1, .int .i64 i2] 27))
  replace T6 := (T6.alloc (.cells #[.int .i64 i1, .int .i64 i2] 27))
  replace VX := Lib.hid (VX.out.below (B := (w6).heap.size) (w' := (w6).alloc (.cells #[.int .i64 i1, .int .i64 i2] 27)) ((Below.refl _ _).alloc (Nat.le_refl _) _) (Nat.le_refl _))
  replace T7 := (T7.alloc (.cells #[.int .i64 i1, .int .i64 i2] 27))
  replace T8 := (T8.alloc (.cells #[.int .i64 i1, .int .i64 i2] 27))
  replace VY := Lib.hid (VY.out.below (B := (w6).heap.size) (w' := (w6).alloc (.cells #[.int .i64 i1, .int .i64 i2] 27)) ((Below.refl _ _).alloc (Nat.le_refl _) _) (Nat.le_refl _))
  replace T9 := (T9.alloc (.cells #[.int .i64 i1, .int .i64 i2] 27))
  replace T10 := (T10.alloc (.cells #[.int .i64 i1, .int .i64 i2] 27))
  have T12 : Box2 ((w6).alloc (.cells #[.int .i64 i1, .int .i64 i2] 27)) (w6.heap.size) (.int .i64 i1) (.int .i64 i2) := Box2.newAt (w := w6) (r := w6.heap.size) (x := .int .i64 i1) (y := .int .i64 i2) (t := 27) (by simp)
  go_ret
  exact ⟨rfl, B6⟩
set_option maxRecDepth 100000 in
set_option maxHeartbeats 4000000 in
theorem vtc_GS (v : Pl.Ver) (s : ByteArray) (pa : Option Addr) (ca : Nat) (w : World) (E : Env w) (ha : VIn w v pa ca) (hs : s.size ≤ 9223372036854775807) (okv : v.Ok) (hl : s.size ≤ 80) (y : Pl.Ver) (hp : Pl.progParse (Pl.bsl s) = some y) :
    Calls Tryd.prog 5 #[verV v pa ca, .string s] w fun e w' => e = .returned (.bool true) ∧ Below w.heap.size w w' := by
  have HE := Lib.hid E
  have HA := Lib.hid ha
  have ea := Pl.vrF_ok okv
  have CF := Lib.hid (fun (W : World) (h : VIn W v pa ca) (e : Env W) => Format_any v pa ca W h e)
  rw [ea] at CF
  have et : Pl.fmtV v = Pl.mkS (Pl.verT v) := by unfold Pl.fmtV; rw [ea, if_neg (by decide)]
  obtain ⟨T, hT⟩ : ∃ T, Pl.mkS (Pl.verT v) = T := ⟨_, rfl⟩
  rw [et, hT] at CF
  have tl : T.size ≤ 80 := by rw [← hT, Pl.mkS_size]; exact Pl.verT_len okv
  obtain ⟨ep, eq1⟩ := Pl.par_some (s := T) (v := v) tl (by rw [← hT, Pl.bsl_mkS]; exact Pl.prog_iff.2 ⟨okv, rfl⟩)
  have CP := Lib.hid (fun (W : World) (e : Env W) => Parse_any T W (by omega) e)
  rw [ep, eq1] at CP
  delta RVerF at CP
  have CS := Lib.hid (fun (W : World) (p q : Option Addr) (c d : Nat) (h : VIn W v p c) (h2 : VIn W v q d) => SameVersion_any v v p q c d W h h2)
  rw [Pl.sameB_iff.2 rfl] at CS
  clear tl ep eq1 hT et
  obtain ⟨ep, eq⟩ := Pl.par_some hl hp
  obtain ⟨oky, ey⟩ := Pl.prog_iff.1 hp
  have CQ := Lib.hid (fun (W : World) (e : Env W) => Parse_any s W hs e)
  rw [ep, eq] at CQ
  delta RVerF at CQ
  have CG := Lib.hid (fun (W : World) (p : Option Addr) (c : Nat) (h : VIn W y p c) (e : Env W) => Format_any y p c W h e)
  have eg := Pl.vrF_ok oky
  have eh : Pl.fmtV y = s := by unfold Pl.fmtV; rw [eg, if_neg (by decide), ey, Pl.mkS_bsl]
  rw [eh, eg] at CG
  clear ep eg eh ey
  simp only [fltV] at CF CP CQ CG
  clear E ha ea eq hp
  go_enter Tryd.func5, Tryd.ntmps5
  have B0 : Below w.heap.size w w := Below.refl _ _
  go_wp2_with fail
  replace B0 := (B0.alloc B0.size (.cells #[.int .i64 v.maj, .int .i64 v.min, .int .i64 v.pat, .slice pa v.pre.length ca] 24))
  have XA : Blk ((w).alloc (.cells #[.int .i64 v.maj, .int .i64 v.min, .int .i64 v.pat, .slice pa v.pre.length ca] 24)) (w.heap.size) [.int .i64 v.maj, .int .i64 v.min, .int .i64 v.pat, .slice pa v.pre.length ca] := Blk.new (w) [.int .i64 v.maj, .int .i64 v.min, .int .i64 v.pat, .slice pa v.pre.length ca] 24 (g := w.heap.size) (by simp)
  refine (orders_any _ (HE.out.below B0 (Nat.le_refl _))).mono ?_
  rintro e w1 ⟨rfl, hb⟩
  have hk : Below ((w).alloc (.cells #[.int .i64 v.maj, .int .i64 v.min, .int .i64 v.pat, .slice pa v.pre.length ca] 24)).heap.size ((w).alloc (.cells #[.int .i64 v.maj, .int .i64 v.min, .int .i64 v.pat, .slice pa v.pre.length ca] 24)) w1 := hb
  have s1 : w.heap.size ≤ w1.heap.size := Nat.le_trans B0.size hk.size
  have q1 : w.heap.size + 1 ≤ w1.heap.size := by have z := hk.size; (try simp only [World.size_alloc] at z); omega
  have B1 : Below w.heap.size w w1 := bcall B0 hk B0.size
  replace XA := XA.below hk XA.lt
  clear B0 hk hb
  have XA_0 := XA.c 0 _ rfl
  have XA_1 := XA.c 1 _ rfl
  have XA_2 := XA.c 2 _ rfl
  have XA_3 := XA.c 3 _ rfl
  have XA_l := XA.lt
  go_wp2_with fail
  refine (CF.out _ (HA.out.below B1 (Nat.le_refl _)) (HE.out.below B1 (Nat.le_refl _))).mono ?_
  rintro e w2 ⟨rfl, hb⟩
  have hk : Below (w1).heap.size (w1) w2 := hb
  have s2 : w.heap.size ≤ w2.heap.size := Nat.le_trans B1.size hk.size
  have q2 : w1.heap.size + 0 ≤ w2.heap.size := by have z := hk.size; (try simp only [World.size_alloc, World.size_setCell] at z); omega
  have B2 : Below w.heap.size w w2 := bcall B1 hk B1.size
  replace XA := XA.below hk XA.lt
  clear B1 hk hb
  clear XA_0 XA_1 XA_2 XA_3 XA_l
  have XA_0 := XA.c 0 _ rfl
  have XA_1 := XA.c 1 _ rfl
  have XA_2 := XA.c 2 _ rfl
  have XA_3 := XA.c 3 _ rfl
  have XA_l := XA.lt
  go_wp2_with fail
  replace B2 := (B2.alloc B2.size (.cells #[.int .i64 0, .int .i64 0] 27))
  replace XA := (XA.alloc (.cells #[.int .i64 0, .int .i64 0] 27))
  have T6 : Box2 ((w2).alloc (.cells #[.int .i64 0, .int .i64 0] 27)) (w2.heap.size) (.int .i64 0) (.int .i64 0) := Box2.newAt (w := w2) (r := w2.heap.size) (x := .int .i64 0) (y := .int .i64 0) (t := 27) (by simp)
  refine (CP.out _ (HE.out.below B2 (Nat.le_refl _))).mono ?_
  rintro e w3 ⟨px, cx, rfl, vx, hb⟩
  have VX := Lib.hid vx
  clear vx
  have hk : Below ((w2).alloc (.cells #[.int .i64 0, .int .i64 0] 27)).heap.size ((w2).alloc (.cells #[.int .i64 0, .int .i64 0] 27)) w3 := hb
  have s3 : w.heap.size ≤ w3.heap.size := Nat.le_trans B2.size hk.size
  have q3 : w2.heap.size + 1 ≤ w3.heap.size := by have z := hk.size; (try simp only [World.size_alloc] at z); omega
  have B3 : Below w.heap.size w w3 := bcall B2 hk B2.size
  replace XA := XA.below hk XA.lt
  replace T6 := T6.below hk T6.lt
  clear B2 hk hb
  clear XA_0 XA_1 XA_2 XA_3 XA_l
  have XA_0 := XA.c 0 _ rfl
  have XA_1 := XA.c 1 _ rfl
  have XA_2 := XA.c 2 _ rfl
  have XA_3 := XA.c 3 _ rfl
  have XA_l := XA.lt
  obtain ⟨T6_0, T6_1, T6_f0, T6_f1, T6_l⟩ := id T6
  go_wp2_with fail
  replace B3 := (B3.alloc B3.size (.cells #[.int .i64 v.maj, .int .i64 v.min, .int .i64 v.pat, .slice px v.pre.length cx] 24))
  replace XA := (XA.alloc (.cells #[.int .i64 v.maj, .int .i64 v.min, .int .i64 v.pat, .slice px v.pre.length cx] 24))
  replace T6 := (T6.alloc (.cells #[.int .i64 v.maj, .int .i64 v.min, .int .i64 v.pat, .slice px v.pre.length cx] 24))
  replace VX := Lib.hid (VX.out.below (B := (w3).heap.size) (w' := (w3).alloc (.cells #[.int .i64 v.maj, .int .i64 v.min, .int .i64 v.pat, .slice px v.pre.length cx] 24)) ((Below.refl _ _).alloc (Nat.le_refl _) _) (Nat.le_refl _))
  have T7 : Blk ((w3).alloc (.cells #[.int .i64 v.maj, .int .i64 v.min, .int .i64 v.pat, .slice px v.pre.length cx] 24)) (w3.heap.size) [.int .i64 v.maj, .int .i64 v.min, .int .i64 v.pat, .slice px v.pre.length cx] := Blk.new (w3) [.int .i64 v.maj, .int .i64 v.min, .int .i64 v.pat, .slice px v.pre.length cx] 24 (g := w3.heap.size) (by simp)
  replace B3 := (B3.alloc B3.size (.cells #[.int .i64 0, .int .i64 0] 27))
  replace XA := (XA.alloc (.cells #[.int .i64 0, .int .i64 0] 27))
  replace T6 := (T6.alloc (.cells #[.int .i64 0, .int .i64 0] 27))
  replace VX := Lib.hid (VX.out.below (B := ((w3).alloc (.cells #[.int .i64 v.maj, .int .i64 v.min, .int .i64 v.pat, .slice px v.pre.length cx] 24)).heap.size) (w' := ((w3).alloc (.cells #[.int .i64 v.maj, .int .i64 v.min, .int .i64 v.pat, .slice px v.pre.length cx] 24)).alloc (.cells #[.int .i64 0, .int .i64 0] 27)) ((Below.refl _ _).alloc (Nat.le_refl _) _) (Nat.le_refl _))
  replace T7 := (T7.alloc (.cells #[.int .i64 0, .int .i64 0] 27))
  have T8 : Box2 (((w3).alloc (.cells #[.int .i64 v.maj, .int .i64 v.min, .int .i64 v.pat, .slice px v.pre.length cx] 24)).alloc (.cells #[.int .i64 0, .int .i64 0] 27)) (w3.heap.size + 1) (.int .i64 0) (.int .i64 0) := Box2.newAt (w := (w3).alloc (.cells #[.int .i64 v.maj, .int .i64 v.min, .int .i64 v.pat, .slice px v.pre.length cx] 24)) (r := w3.heap.size + 1) (x := .int .i64 0) (y := .int .i64 0) (t := 27) (by simp)
  refine (CS.out _ _ _ _ _ VX.out (HA.out.below B3 (Nat.le_refl _))).mono ?_
  rintro e w4 ⟨rfl, hb⟩
  have hk : Below (((w3).alloc (.cells #[.int .i64 v.maj, .int .i64 v.min, .int .i64 v.pat, .slice px v.pre.length cx] 24)).alloc (.cells #[.int .i64 0, .int .i64 0] 27)).heap.size (((w3).alloc (.cells #[.int .i64 v.maj, .int .i64 v.min, .int .i64 v.pat, .slice px v.pre.length cx] 24)).alloc (.cells #[.int .i64 0, .int .i64 0] 27)) w4 := hb
  have s4 : w.heap.size ≤ w4.heap.size := Nat.le_trans B3.size hk.size
  have q4 : w3.heap.size + 2 ≤ w4.heap.size := by have z := hk.size; (try simp only [World.size_alloc] at z); omega
  have B4 : Below w.heap.size w w4 := bcall B3 hk B3.size
  replace XA := XA.below hk XA.lt
  replace T6 := T6.below hk T6.lt
  replace VX := Lib.hid (VX.out.below hk (Nat.le_refl _))
  replace T7 := T7.below hk T7.lt
  replace T8 := T8.below hk T8.lt
  clear B3 hk hb
  clear XA_0 XA_1 XA_2 XA_3 XA_l T6_0 T6_1 T6_f0 T6_f1 T6_l
  have XA_0 := XA.c 0 _ rfl
  have XA_1 := XA.c 1 _ rfl
  have XA_2 := XA.c 2 _ rfl
  have XA_3 := XA.c 3 _ rfl
  have XA_l := XA.lt
  obtain ⟨T6_0, T6_1, T6_f0, T6_f1, T6_l⟩ := id T6
  have T7_0 := T7.c 0 _ rfl
  have T7_1 := T7.c 1 _ rfl
  have T7_2 := T7.c 2 _ rfl
  have T7_3 := T7.c 3 _ rfl
  have T7_l := T7.lt
  obtain ⟨T8_0, T8_1, T8_f0, T8_f1, T8_l⟩ := id T8
  go_wp2_with fail
  refine (CQ.out _ (HE.out.below B4 (Nat.le_refl _))).mono ?_
  rintro e w5 ⟨py, cy, rfl, vy, hb⟩
  have VY := Lib.hid vy
  clear vy
  have hk : Below (w4).heap.size (w4) w5 := hb
  have s5 : w.heap.size ≤ w5.heap.size := Nat.le_trans B4.size hk.size
  have q5 : w4.heap.size + 0 ≤ w5.heap.size := by have z := hk.size; (try simp only [World.size_alloc, World.size_setCell] at z); omega
  have B5 : Below w.heap.size w w5 := bcall B4 hk B4.size
  replace XA := XA.below hk XA.lt
  replace T6 := T6.below hk T6.lt
  replace VX := Lib.hid (VX.out.below hk (Nat.le_refl _))
  replace T7 := T7.below hk T7.lt
  replace T8 := T8.below hk T8.lt
  clear B4 hk hb
  clear XA_0 XA_1 XA_2 XA_3 XA_l T6_0 T6_1 T6_f0 T6_f1 T6_l T7_0 T7_1 T7_2 T7_3 T7_l T8_0 T8_1 T8_f0 T8_f1 T8_l
  have XA_0 := XA.c 0 _ rfl
  have XA_1 := XA.c 1 _ rfl
  have XA_2 := XA.c 2 _ rfl
  have XA_3 := XA.c 3 _ rfl
  have XA_l := XA.lt
  obtain ⟨T6_0, T6_1, T6_f0, T6_f1, T6_l⟩ := id T6
  have T7_0 := T7.c 0 _ rfl
  have T7_1 := T7.c 1 _ rfl
  have T7_2 := T7.c 2 _ rfl
  have T7_3 := T7.c 3 _ rfl
  have T7_l := T7.lt
  obtain ⟨T8_0, T8_1, T8_f0, T8_f1, T8_l⟩ := id T8
  go_wp2_with fail
  replace B5 := (B5.alloc B5.size (.cells #[.int .i64 y.maj, .int .i64 y.min, .int .i64 y.pat, .slice py y.pre.length cy] 24))
  replace XA := (XA.alloc (.cells #[.int .i64 y.maj, .int .i64 y.min, .int .i64 y.pat, .slice py y.pre.length cy] 24))
  replace T6 := (T6.alloc (.cells #[.int .i64 y.maj, .int .i64 y.min, .int .i64 y.pat, .slice py y.pre.length cy] 24))
  replace VX := Lib.hid (VX.out.below (B := (w5).heap.size) (w' := (w5).alloc (.cells #[.int .i64 y.maj, .int .i64 y.min, .int .i64 y.pat, .slice py y.pre.length cy] 24)) ((Below.refl _ _).alloc (Nat.le_refl _) _) (Nat.le_refl _))
  replace T7 := (T7.alloc (.cells #[.int .i64 y.maj, .int .i64 y.min, .int .i64 y.pat, .slice py y.pre.length cy] 24))
  replace T8 := (T8.alloc (.cells #[.int .i64 y.maj, .int .i64 y.min, .int .i64 y.pat, .slice py y.pre.length cy] 24))
  replace VY := Lib.hid (VY.out.below (B := (w5).heap.size) (w' := (w5).alloc (.cells #[.int .i64 y.maj, .int .i64 y.min, .int .i64 y.pat, .slice py y.pre.length cy] 24)) ((Below.refl _ _).alloc (Nat.le_refl _) _) (Nat.le_refl _))
  have T9 : Blk ((w5).alloc (.cells #[.int .i64 y.maj, .int .i64 y.min, .int .i64 y.pat, .slice py y.pre.length cy] 24)) (w5.heap.size) [.int .i64 y.maj, .int .i64 y.min, .int .i64 y.pat, .slice py y.pre.length cy] := Blk.new (w5) [.int .i64 y.maj, .int .i64 y.min, .int .i64 y.pat, .slice py y.pre.length cy] 24 (g := w5.heap.size) (by simp)
  replace B5 := (B5.alloc B5.size (.cells #[.int .i64 0, .int .i64 0] 27))
  replace XA := (XA.alloc (.cells #[.int .i64 0, .int .i64 0] 27))
  replace T6 := (T6.alloc (.cells #[.int .i64 0, .int .i64 0] 27))
  replace VX := Lib.hid (VX.out.below (B := ((w5).alloc (.cells #[.int .i64 y.maj, .int .i64 y.min, .int .i64 y.pat, .slice py y.pre.length cy] 24)).heap.size) (w' := ((w5).alloc (.cells #[.int .i64 y.maj, .int .i64 y.min, .int .i64 y.pat, .slice py y.pre.length cy] 24)).alloc (.cells #[.int .i64 0, .int .i64 0] 27)) ((Below.refl _ _).alloc (Nat.le_refl _) _) (Nat.le_refl _))
  replace T7 := (T7.alloc (.cells #[.int .i64 0, .int .i64 0] 27))
  replace T8 := (T8.alloc (.cells #[.int .i64 0, .int .i64 0] 27))
  replace VY := Lib.hid (VY.out.below (B := ((w5).alloc (.cells #[.int .i64 y.maj, .int .i64 y.min, .int .i64 y.pat, .slice py y.pre.length cy] 24)).heap.size) (w' := ((w5).alloc (.cells #[.int .i64 y.maj, .int .i64 y.min, .int .i64 y.pat, .slice py y.pre.length cy] 24)).alloc (.cells #[.int .i64 0, .int .i64 0] 27)) ((Below.refl _ _).alloc (Nat.le_refl _) _) (Nat.le_refl _))
  replace T9 := (T9.alloc (.cells #[.int .i64 0, .int .i64 0] 27))
  have T10 : Box2 (((w5).alloc (.cells #[.int .i64 y.maj, .int .i64 y.min, .int .i64 y.pat, .slice py y.pre.length cy] 24)).alloc (.cells #[.int .i64 0, .int .i64 0] 27)) (w5.heap.size + 1) (.int .i64 0) (.int .i64 0) := Box2.newAt (w := (w5).alloc (.cells #[.int .i64 y.maj, .int .i64 y.min, .int .i64 y.pat, .slice py y.pre.length cy] 24)) (r := w5.heap.size + 1) (x := .int .i64 0) (y := .int .i64 0) (t := 27) (by simp)
  refine (CG.out _ _ _ VY.out (HE.out.below B5 (Nat.le_refl _))).mono ?_
  rintro e w6 ⟨rfl, hb⟩
  have hk : Below (((w5).alloc (.cells #[.int .i64 y.maj, .int .i64 y.min, .int .i64 y.pat, .slice py y.pre.length cy] 24)).alloc (.cells #[.int .i64 0, .int .i64 0] 27)).heap.size (((w5).alloc (.cells #[.int .i64 y.maj, .int .i64 y.min, .int .i64 y.pat, .slice py y.pre.length cy] 24)).alloc (.cells #[.int .i64 0, .int .i64 0] 27)) w6 := hb
  have s6 : w.heap.size ≤ w6.heap.size := Nat.le_trans B5.size hk.size
  have q6 : w5.heap.size + 2 ≤ w6.heap.size := by have z := hk.size; (try simp only [World.size_alloc] at z); omega
  have B6 : Below w.heap.size w w6 := bcall B5 hk B5.size
  replace XA := XA.below hk XA.lt
  replace T6 := T6.below hk T6.lt
  replace VX := Lib.hid (VX.out.below hk (Nat.le_refl _))
  replace T7 := T7.below hk T7.lt
  replace T8 := T8.below hk T8.lt
  replace VY := Lib.hid (VY.out.below hk (Nat.le_refl _))
  replace T9 := T9.below hk T9.lt
  replace T10 := T10.below hk T10.lt
  clear B5 hk hb
  clear XA_0 XA_1 XA_2 XA_3 XA_l T6_0 T6_1 T6_f0 T6_f1 T6_l T7_0 T7_1 T7_2 T7_3 T7_l T8_0 T8_1 T8_f0 T8_f1 T8_l
  have XA_0 := XA.c 0 _ rfl
  have XA_1 := XA.c 1 _ rfl
  have XA_2 := XA.c 2 _ rfl
  have XA_3 := XA.c 3 _ rfl
  have XA_l := XA.lt
  obtain ⟨T6_0, T6_1, T6_f0, T6_f1, T6_l⟩ := id T6
  have T7_0 := T7.c 0 _ rfl
  have T7_1 := T7.c 1 _ rfl
  have T7_2 := T7.c 2 _ rfl
  have T7_3 := T7.c 3 _ rfl
  have T7_l := T7.lt
  obtain ⟨T8_0, T8_1, T8_f0, T8_f1, T8_l⟩ := id T8
  have T9_0 := T9.c 0 _ rfl
  have T9_1 := T9.c 1 _ rfl
  have T9_2 := T9.c 2 _ rfl
  have T9_3 := T9.c 3 _ rfl
  have T9_l := T9.lt
  obtain ⟨T10_0, T10_1, T10_f0, T10_f1, T10_l⟩ := id T10
  go_wp2_with fail
  replace B6 := (B6.alloc B6.size (.cells #[.int .i64 0, .int .i64 0] 27))
  replace XA := (XA.alloc (.cells #[.int .i64 0, .int .i64 0] 27))
  replace T6 := (T6.alloc (.cells #[.int .i64 0, .int .i64 0] 27))
  replace VX := Lib.hid (VX.out.below (B := (w6).heap.size) (w' := (w6).alloc (.cells #[.int .i64 0, .int .i64 0] 27)) ((Below.refl _ _).alloc (Nat.le_refl _) _) (Nat.le_refl _))
  replace T7 := (T7.alloc (.cells #[.int .i64 0, .int .i64 0] 27))
  replace T8 := (T8.alloc (.cells #[.int .i64 0, .int .i64 0] 27))
  replace VY := Lib.hid (VY.out.below (B := (w6).heap.size) (w' := (w6).alloc (.cells #[.int .i64 0, .int .i64 0] 27)) ((Below.refl _ _).alloc (Nat.le_refl _) _) (Nat.le_refl _))
  replace T9 := (T9.alloc (.cells #[.int .i64 0, .int .i64 0] 27))
  replace T10 := (T10.alloc (.cells #[.int .i64 0, .int .i64 0] 27))
  have T12 : Box2 ((w6).alloc (.cells #[.int .i64 0, .int .i64 0] 27)) (w6.heap.size) (.int .i64 0) (.int .i64 0) := Box2.newAt (w := w6) (r := w6.heap.size) (x := .int .i64 0) (y := .int .i64 0) (t := 27) (by simp)
  go_ret
  exact ⟨rfl, B6⟩
set_option maxRecDepth 100000 in
set_option maxHeartbeats 4000000 in
theorem vtc_BN (v : Pl.Ver) (s : ByteArray) (pa : Option Addr) (ca : Nat) (w : World) (E : Env w) (ha : VIn w v pa ca) (hs : s.size ≤ 9223372036854775807) (f1 f2 : Int) (hf : f1 ≠ 0) (ea : Pl.vrF v = (f1, f2)) (g1 g2 : Int) (hg : g1 ≠ 0) (eq : Pl.parF s = (g1, g2)) :
    Calls Tryd.prog 5 #[verV v pa ca, .string s] w fun e w' => e = .returned (.bool true) ∧ Below w.heap.size w w' := by
  have HE := Lib.hid E
  have HA := Lib.hid ha
  have u1 := bneT hf
  have u2 := beqF hf
  have u3 := bneT hg
  have u4 := beqF hg
  have CF := Lib.hid (fun (W : World) (h : VIn W v pa ca) (e : Env W) => Format_any v pa ca W h e)
  rw [ea] at CF
  have et : Pl.fmtV v = ⟨#[]⟩ := by unfold Pl.fmtV; rw [ea, if_pos hf]; first | rfl | decide
  rw [et] at CF
  clear et
  obtain ⟨⟨j1, j2⟩, ej⟩ : ∃ x, Pl.parF ⟨#[]⟩ = x := ⟨_, rfl⟩
  obtain ⟨z, ez⟩ : ∃ x, Pl.parV ⟨#[]⟩ = x := ⟨_, rfl⟩
  have CP := Lib.hid (fun (W : World) (e : Env W) => Parse_any ⟨#[]⟩ W (by decide) e)
  rw [ez, ej] at CP
  delta RVerF at CP
  clear ez ej
  obtain ⟨y, ep⟩ : ∃ y, Pl.parV s = y := ⟨_, rfl⟩
  obtain ⟨⟨i1, i2⟩, eg⟩ : ∃ x, Pl.vrF y = x := ⟨_, rfl⟩
  obtain ⟨R, eh⟩ : ∃ R, Pl.fmtV y = R := ⟨_, rfl⟩
  have CQ := Lib.hid (fun (W : World) (e : Env W) => Parse_any s W hs e)
  rw [ep, eq] at CQ
  delta RVerF at CQ
  have CG := Lib.hid (fun (W : World) (p : Option Addr) (c : Nat) (h : VIn W y p c) (e : Env W) => Format_any y p c W h e)
  rw [eh, eg] at CG
  clear ep eg eh
  simp only [fltV] at CF CP CQ CG
  clear E ha ea eq hf hg
  go_enter Tryd.func5, Tryd.ntmps5
  have B0 : Below w.heap.size w w := Below.refl _ _
  go_wp2_with fail
  replace B0 := (B0.alloc B0.size (.cells #[.int .i64 v.maj, .int .i64 v.min, .int .i64 v.pat, .slice pa v.pre.length ca] 24))
  have XA : Blk ((w).alloc (.cells #[.int .i64 v.maj, .int .i64 v.min, .int .i64 v.pat, .slice pa v.pre.length ca] 24)) (w.heap.size) [.int .i64 v.maj, .int .i64 v.min, .int .i64 v.pat, .slice pa v.pre.length ca] := Blk.new (w) [.int .i64 v.maj, .int .i64 v.min, .int .i64 v.pat, .slice pa v.pre.length ca] 24 (g := w.heap.size) (by simp)
  refine (orders_any _ (HE.out.below B0 (Nat.le_refl _))).mono ?_
  rintro e w1 ⟨rfl, hb⟩
  have hk : Below ((w).alloc (.cells #[.int .i64 v.maj, .int .i64 v.min, .int .i64 v.pat, .slice pa v.pre.length ca] 24)).heap.size ((w).alloc (.cells #[.int .i64 v.maj, .int .i64 v.min, .int .i64 v.pat, .slice pa v.pre.length ca] 24)) w1 := hb
  have s1 : w.heap.size ≤ w1.heap.size := Nat.le_trans B0.size hk.size
  have q1 : w.heap.size + 1 ≤ w1.heap.size := by have z := hk.size; (try simp only [World.size_alloc] at z); omega
  have B1 : Below w.heap.size w w1 := bcall B0 hk B0.size
  replace XA := XA.below hk XA.lt
  clear B0 hk hb
  have XA_0 := XA.c 0 _ rfl
  have XA_1 := XA.c 1 _ rfl
  have XA_2 := XA.c 2 _ rfl
  have XA_3 := XA.c 3 _ rfl
  have XA_l := XA.lt
  go_wp2_with fail
  refine (CF.out _ (HA.out.below B1 (Nat.le_refl _)) (HE.out.below B1 (Nat.le_refl _))).mono ?_
  rintro e w2 ⟨rfl, hb⟩
  have hk : Below (w1).heap.size (w1) w2 := hb
  have s2 : w.heap.size ≤ w2.heap.size := Nat.le_trans B1.size hk.size
  have q2 : w1.heap.size + 0 ≤ w2.heap.size := by have z := hk.size; (try simp only [World.size_alloc, World.size_setCell] at z); omega
  have B2 : Below w.heap.size w w2 := bcall B1 hk B1.size
  replace XA := XA.below hk XA.lt
  clear B1 hk hb
  clear XA_0 XA_1 XA_2 XA_3 XA_l
  have XA_0 := XA.c 0 _ rfl
  have XA_1 := XA.c 1 _ rfl
  have XA_2 := XA.c 2 _ rfl
  have XA_3 := XA.c 3 _ rfl
  have XA_l := XA.lt
  go_wp2_with fail
  replace B2 := (B2.alloc B2.size (.cells #[.int .i64 f1, .int .i64 f2] 27))
  replace XA := (XA.alloc (.cells #[.int .i64 f1, .int .i64 f2] 27))
  have T6 : Box2 ((w2).alloc (.cells #[.int .i64 f1, .int .i64 f2] 27)) (w2.heap.size) (.int .i64 f1) (.int .i64 f2) := Box2.newAt (w := w2) (r := w2.heap.size) (x := .int .i64 f1) (y := .int .i64 f2) (t := 27) (by simp)
  refine (CP.out _ (HE.out.below B2 (Nat.le_refl _))).mono ?_
  rintro e w3 ⟨px, cx, rfl, vx, hb⟩
  have VX := Lib.hid vx
  clear vx
  have hk : Below ((w2).alloc (.cells #[.int .i64 f1, .int .i64 f2] 27)).heap.size ((w2).alloc (.cells #[.int .i64 f1, .int .i64 f2] 27)) w3 := hb
  have s3 : w.heap.size ≤ w3.heap.size := Nat.le_trans B2.size hk.size
  have q3 : w2.heap.size + 1 ≤ w3.heap.size := by have z := hk.size; (try simp only [World.size_alloc] at z); omega
  have B3 : Below w.heap.size w w3 := bcall B2 hk B2.size
  replace XA := XA.below hk XA.lt
  replace T6 := T6.below hk T6.lt
  clear B2 hk hb
  clear XA_0 XA_1 XA_2 XA_3 XA_l
  have XA_0 := XA.c 0 _ rfl
  have XA_1 := XA.c 1 _ rfl
  have XA_2 := XA.c 2 _ rfl
  have XA_3 := XA.c 3 _ rfl
  have XA_l := XA.lt
  obtain ⟨T6_0, T6_1, T6_f0, T6_f1, T6_l⟩ := id T6
  go_wp2_with fail
  replace B3 := (B3.alloc B3.size (.cells #[.int .i64 z.maj, .int .i64 z.min, .int .i64 z.pat, .slice px z.pre.length cx] 24))
  replace XA := (XA.alloc (.cells #[.int .i64 z.maj, .int .i64 z.min, .int .i64 z.pat, .slice px z.pre.length cx] 24))
  replace T6 := (T6.alloc (.cells #[.int .i64 z.maj, .int .i64 z.min, .int .i64 z.pat, .slice px z.pre.length cx] 24))
  replace VX := Lib.hid (VX.out.below (B := (w3).heap.size) (w' := (w3).alloc (.cells #[.int .i64 z.maj, .int .i64 z.min, .int .i64 z.pat, .slice px z.pre.length cx] 24)) ((Below.refl _ _).alloc (Nat.le_refl _) _) (Nat.le_refl _))
  have T7 : Blk ((w3).alloc (.cells #[.int .i64 z.maj, .int .i64 z.min, .int .i64 z.pat, .slice px z.pre.length cx] 24)) (w3.heap.size) [.int .i64 z.maj, .int .i64 z.min, .int .i64 z.pat, .slice px z.pre.length cx] := Blk.new (w3) [.int .i64 z.maj, .int .i64 z.min, .int .i64 z.pat, .slice px z.pre.length cx] 24 (g := w3.heap.size) (by simp)
  replace B3 := (B3.alloc B3.size (.cells #[.int .i64 j1, .int .i64 j2] 27))
  replace XA := (XA.alloc (.cells #[.int .i64 j1, .int .i64 j2] 27))
  replace T6 := (T6.alloc (.cells #[.int .i64 j1, .int .i64 j2] 27))
  replace VX := Lib.hid (VX.out.below (B := ((w3).alloc (.cells #[.int .i64 z.maj, .int .i64 z.min, .int .i64 z.pat, .slice px z.pre.length cx] 24)).heap.size) (w' := ((w3).alloc (.cells #[.int .i64 z.maj, .int .i64 z.min, .int .i64 z.pat, .slice px z.pre.length cx] 24)).alloc (.cells #[.int .i64 j1, .int .i64 j2] 27)) ((Below.refl _ _).alloc (Nat.le_refl _) _) (Nat.le_refl _))
  replace T7 := (T7.alloc (.cells #[.int .i64 j1, .int .i64 j2] 27))
  have T8 : Box2 (((w3).alloc (.cells #[.int .i64 z.maj, .int .i64 z.min, .int .i64 z.pat, .slice px z.pre.length cx] 24)).alloc (.cells #[.int .i64 j1, .int .i64 j2] 27)) (w3.heap.size + 1) (.int .i64 j1) (.int .i64 j2) := Box2.newAt (w := (w3).alloc (.cells #[.int .i64 z.maj, .int .i64 z.min, .int .i64 z.pat, .slice px z.pre.length cx] 24)) (r := w3.heap.size + 1) (x := .int .i64 j1) (y := .int .i64 j2) (t := 27) (by simp)
  refine (CQ.out _ (HE.out.below B3 (Nat.le_refl _))).mono ?_
  rintro e w4 ⟨py, cy, rfl, vy, hb⟩
  have VY := Lib.hid vy
  clear vy
  have hk : Below (((w3).alloc (.cells #[.int .i64 z.maj, .int .i64 z.min, .int .i64 z.pat, .slice px z.pre.length cx] 24)).alloc (.cells #[.int .i64 j1, .int .i64 j2] 27)).heap.size (((w3).alloc (.cells #[.int .i64 z.maj, .int .i64 z.min, .int .i64 z.pat, .slice px z.pre.length cx] 24)).alloc (.cells #[.int .i64 j1, .int .i64 j2] 27)) w4 := hb
  have s4 : w.heap.size ≤ w4.heap.size := Nat.le_trans B3.size hk.size
  have q4 : w3.heap.size + 2 ≤ w4.heap.size := by have z := hk.size; (try simp only [World.size_alloc] at z); omega
  have B4 : Below w.heap.size w w4 := bcall B3 hk B3.size
  replace XA := XA.below hk XA.lt
  replace T6 := T6.below hk T6.lt
  replace VX := Lib.hid (VX.out.below hk (Nat.le_refl _))
  replace T7 := T7.below hk T7.lt
  replace T8 := T8.below hk T8.lt
  clear B3 hk hb
  clear XA_0 XA_1 XA_2 XA_3 XA_l T6_0 T6_1 T6_f0 T6_f1 T6_l
  have XA_0 := XA.c 0 _ rfl
  have XA_1 := XA.c 1 _ rfl
  have XA_2 := XA.c 2 _ rfl
  have XA_3 := XA.c 3 _ rfl
  have XA_l := XA.lt
  obtain ⟨T6_0, T6_1, T6_f0, T6_f1, T6_l⟩ := id T6
  have T7_0 := T7.c 0 _ rfl
  have T7_1 := T7.c 1 _ rfl
  have T7_2 := T7.c 2 _ rfl
  have T7_3 := T7.c 3 _ rfl
  have T7_l := T7.lt
  obtain ⟨T8_0, T8_1, T8_f0, T8_f1, T8_l⟩ := id T8
  go_wp2_with fail
  replace B4 := (B4.alloc B4.size (.cells #[.int .i64 y.maj, .int .i64 y.min, .int .i64 y.pat, .slice py y.pre.length cy] 24))
  replace XA := (XA.alloc (.cells #[.int .i64 y.maj, .int .i64 y.min, .int .i64 y.pat, .slice py y.pre.length cy] 24))
  replace T6 := (T6.alloc (.cells #[.int .i64 y.maj, .int .i64 y.min, .int .i64 y.pat, .slice py y.pre.length cy] 24))
  replace VX := Lib.hid (VX.out.below (B := (w4).heap.size) (w' := (w4).alloc (.cells #[.int .i64 y.maj, .int .i64 y.min, .int .i64 y.pat, .slice py y.pre.length cy] 24)) ((Below.refl _ _).alloc (Nat.le_refl _) _) (Nat.le_refl _))
  replace T7 := (T7.alloc (.cells #[.int .i64 y.maj, .int .i64 y.min, .int .i64 y.pat, .slice py y.pre.length cy] 24))
  replace T8 := (T8.alloc (.cells #[.int .i64 y.maj, .int .i64 y.min, .int .i64 y.pat, .slice py y.pre.length cy] 24))
  replace VY := Lib.hid (VY.out.below (B := (w4).heap.size) (w' := (w4).alloc (.cells #[.int .i64 y.maj, .int .i64 y.min, .int .i64 y.pat, .slice py y.pre.length cy] 24)) ((Below.refl _ _).alloc (Nat.le_refl _) _) (Nat.le_refl _))
  have T9 : Blk ((w4).alloc (.cells #[.int .i64 y.maj, .int .i64 y.min, .int .i64 y.pat, .slice py y.pre.length cy] 24)) (w4.heap.size) [.int .i64 y.maj, .int .i64 y.min, .int .i64 y.pat, .slice py y.pre.length cy] := Blk.new (w4) [.int .i64 y.maj, .int .i64 y.min, .int .i64 y.pat, .slice py y.pre.length cy] 24 (g := w4.heap.size) (by simp)
  replace B4 := (B4.alloc B4.size (.cells #[.int .i64 g1, .int .i64 g2] 27))
  replace XA := (XA.alloc (.cells #[.int .i64 g1, .int .i64 g2] 27))
  replace T6 := (T6.alloc (.cells #[.int .i64 g1, .int .i64 g2] 27))
  replace VX := Lib.hid (VX.out.below (B := ((w4).alloc (.cells #[.int .i64 y.maj, .int .i64 y.min, .int .i64 y.pat, .slice py y.pre.length cy] 24)).heap.size) (w' := ((w4).alloc (.cells #[.int .i64 y.maj, .int .i64 y.min, .int .i64 y.pat, .slice py y.pre.length cy] 24)).alloc (.cells #[.int .i64 g1, .int .i64 g2] 27)) ((Below.refl _ _).alloc (Nat.le_refl _) _) (Nat.le_refl _))
  replace T7 := (T7.alloc (.cells #[.int .i64 g1, .int .i64 g2] 27))
  replace T8 := (T8.alloc (.cells #[.int .i64 g1, .int .i64 g2] 27))
  replace VY := Lib.hid (VY.out.below (B := ((w4).alloc (.cells #[.int .i64 y.maj, .int .i64 y.min, .int .i64 y.pat, .slice py y.pre.length cy] 24)).heap.size) (w' := ((w4).alloc (.cells #[.int .i64 y.maj, .int .i64 y.min, .int .i64 y.pat, .slice py y.pre.length cy] 24)).alloc (.cells #[.int .i64 g1, .int .i64 g2] 27)) ((Below.refl _ _).alloc (Nat.le_refl _) _) (Nat.le_refl _))
  replace T9 := (T9.alloc (.cells #[.int .i64 g1, .int .i64 g2] 27))
  have T10 : Box2 (((w4).alloc (.cells #[.int .i64 y.maj, .int .i64 y.min, .int .i64 y.pat, .slice py y.pre.length cy] 24)).alloc (.cells #[.int .i64 g1, .int .i64 g2] 27)) (w4.heap.size + 1) (.int .i64 g1) (.int .i64 g2) := Box2.newAt (w := (w4).alloc (.cells #[.int .i64 y.maj, .int .i64 y.min, .int .i64 y.pat, .slice py y.pre.length cy] 24)) (r := w4.heap.size + 1) (x := .int .i64 g1) (y := .int .i64 g2) (t := 27) (by simp)
  refine (CG.out _ _ _ VY.out (HE.out.below B4 (Nat.le_refl _))).mono ?_
  rintro e w5 ⟨rfl, hb⟩
  have hk : Below (((w4).alloc (.cells #[.int .i64 y.maj, .int .i64 y.min, .int .i64 y.pat, .slice py y.pre.length cy] 24)).alloc (.cells #[.int .i64 g1, .int .i64 g2] 27)).heap.size (((w4).alloc (.cells #[.int .i64 y.maj, .int .i64 y.min, .int .i64 y.pat, .slice py y.pre.length cy] 24)).alloc (.cells #[.int .i64 g1, .int .i64 g2] 27)) w5 := hb
  have s5 : w.heap.size ≤ w5.heap.size := Nat.le_trans B4.size hk.size
  have q5 : w4.heap.size + 2 ≤ w5.heap.size := by have z := hk.size; (try simp only [World.size_alloc] at z); omega
  have B5 : Below w.heap.size w w5 := bcall B4 hk B4.size
  replace XA := XA.below hk XA.lt
  replace T6 := T6.below hk T6.lt
  replace VX := Lib.hid (VX.out.below hk (Nat.le_refl _))
  replace T7 := T7.below hk T7.lt
  replace T8 := T8.below hk T8.lt
  replace VY := Lib.hid (VY.out.below hk (Nat.le_refl _))
  replace T9 := T9.below hk T9.lt
  replace T10 := T10.below hk T10.lt
  clear B4 hk hb
  clear XA_0 XA_1 XA_2 XA_3 XA_l T6_0 T6_1 T6_f0 T6_f1 T6_l T7_0 T7_1 T7_2 T7_3 T7_l T8_0 T8_1 T8_f0 T8_f1 T8_l
  have XA_0 := XA.c 0 _ rfl
  have XA_1 := XA.c 1 _ rfl
  have XA_2 := XA.c 2 _ rfl
  have XA_3 := XA.c 3 _ rfl
  have XA_l := XA.lt
  obtain ⟨T6_0, T6_1, T6_f0, T6_f1, T6_l⟩ := id T6
  have T7_0 := T7.c 0 _ rfl
  have T7_1 := T7.c 1 _ rfl
  have T7_2 := T7.c 2 _ rfl
  have T7_3 := T7.c 3 _ rfl
  have T7_l := T7.lt
  obtain ⟨T8_0, T8_1, T8_f0, T8_f1, T8_l⟩ := id T8
  have T9_0 := T9.c 0 _ rfl
  have T9_1 := T9.c 1 _ rfl
  have T9_2 := T9.c 2 _ rfl
  have T9_3 := T9.c 3 _ rfl
  have T9_l := T9.lt
  obtain ⟨T10_0, T10_1, T10_f0, T10_f1, T10_l⟩ := id T10
  go_wp2_with fail
  replace B5 := (B5.alloc B5.size (.cells #[.int .i64 i1, .int .i64 i2] 27))
  replace XA := (XA.alloc (.cells #[.int .i64 i1, .int .i64 i2] 27))
  replace T6 := (T6.alloc (.cells #[.int .i64 i1, .int .i64 i2] 27))
  replace VX := Lib.hid (VX.out.below (B := (w5).heap.size) (w' := (w5).alloc (.cells #[.int .i64 i1, .int .i64 i2] 27)) ((Below.refl _ _).alloc (Nat.le_refl _) _) (Nat.le_refl _))
  replace T7 := (T7.alloc (.cells #[.int .i64 i1, .int .i64 i2] 27))
  replace T8 := (T8.alloc (.cells #[.int .i64 i1, .int .i64 i2] 27))
  replace VY := Lib.hid (VY.out.below (B := (w5).heap.size) (w' := (w5).alloc (.cells #[.int .i64 i1, .int .i64 i2] 27)) ((Below.refl _ _).alloc (Nat.le_refl _) _) (Nat.le_refl _))
  replace T9 := (T9.alloc (.cells #[.int .i64 i1, .int .i64 i2] 27))
  replace T10 := (T10.alloc (.cells #[.int .i64 i1, .int .i64 i2] 27))
  have T12 : Box2 ((w5).alloc (.cells #[.int .i64 i1, .int .i64 i2] 27)) (w5.heap.size) (.int .i64 i1) (.int .i64 i2) := Box2.newAt (w := w5) (r := w5.heap.size) (x := .int .i64 i1) (y := .int .i64 i2) (t := 27) (by simp)
  go_ret
  exact ⟨rfl, B5⟩
set_option maxRecDepth 100000 in
set_option maxHeartbeats 4000000 in
theorem vtc_BS (v : Pl.Ver) (s : ByteArray) (pa : Option Addr) (ca : Nat) (w : World) (E : Env w) (ha : VIn w v pa ca) (hs : s.size ≤ 9223372036854775807) (f1 f2 : Int) (hf : f1 ≠ 0) (ea : Pl.vrF v = (f1, f2)) (hl : s.size ≤ 80) (y : Pl.Ver) (hp : Pl.progParse (Pl.bsl s) = some y) :
    Calls Tryd.prog 5 #[verV v pa ca, .string s] w fun e w' => e = .returned (.bool true) ∧ Below w.heap.size w w' := by
  have HE := Lib.hid E
  have HA := Lib.hid ha
  have u1 := bneT hf
  have u2 := beqF hf
  have CF := Lib.hid (fun (W : World) (h : VIn W v pa ca) (e : Env W) => Format_any v pa ca W h e)
  rw [ea] at CF
  have et : Pl.fmtV v = ⟨#[]⟩ := by unfold Pl.fmtV; rw [ea, if_pos hf]; first | rfl | decide
  rw [et] at CF
  clear et
  obtain ⟨⟨j1, j2⟩, ej⟩ : ∃ x, Pl.parF ⟨#[]⟩ = x := ⟨_, rfl⟩
  obtain ⟨z, ez⟩ : ∃ x, Pl.parV ⟨#[]⟩ = x := ⟨_, rfl⟩
  have CP := Lib.hid (fun (W : World) (e : Env W) => Parse_any ⟨#[]⟩ W (by decide) e)
  rw [ez, ej] at CP
  delta RVerF at CP
  clear ez ej
  obtain ⟨ep, eq⟩ := Pl.par_some hl hp
  obtain ⟨oky, ey⟩ := Pl.prog_iff.1 hp
  have CQ := Lib.hid (fun (W : World) (e : Env W) => Parse_any s W hs e)
  rw [ep, eq] at CQ
  delta RVerF at CQ
  have CG := Lib.hid (fun (W : World) (p : Option Addr) (c : Nat) (h : VIn W y p c) (e : Env W) => Format_any y p c W h e)
  have eg := Pl.vrF_ok oky
  have eh : Pl.fmtV y = s := by unfold Pl.fmtV; rw [eg, if_neg (by decide), ey, Pl.mkS_bsl]
  rw [eh, eg] at CG
  clear ep eg eh ey
  simp only [fltV] at CF CP CQ CG
  clear E ha ea eq hf hp
  go_enter Tryd.func5, Tryd.ntmps5
  have B0 : Below w.heap.size w w := Below.refl _ _
  go_wp2_with fail
  replace B0 := (B0.alloc B0.size (.cells #[.int .i64 v.maj, .int .i64 v.min, .int .i64 v.pat, .slice pa v.pre.length ca] 24))
  have XA : Blk ((w).alloc (.cells #[.int .i64 v.maj, .int .i64 v.min, .int .i64 v.pat, .slice pa v.pre.length ca] 24)) (w.heap.size) [.int .i64 v.maj, .int .i64 v.min, .int .i64 v.pat, .slice pa v.pre.length ca] := Blk.new (w) [.int .i64 v.maj, .int .i64 v.min, .int .i64 v.pat, .slice pa v.pre.length ca] 24 (g := w.heap.size) (by simp)
  refine (orders_any _ (HE.out.below B0 (Nat.le_refl _))).mono ?_
  rintro e w1 ⟨rfl, hb⟩
  have hk : Below ((w).alloc (.cells #[.int .i64 v.maj, .int .i64 v.min, .int .i64 v.pat, .slice pa v.pre.length ca] 24)).heap.size ((w).alloc (.cells #[.int .i64 v.maj, .int .i64 v.min, .int .i64 v.pat, .slice pa v.pre.length ca] 24)) w1 := hb
  have s1 : w.heap.size ≤ w1.heap.size := Nat.le_trans B0.size hk.size
  have q1 : w.heap.size + 1 ≤ w1.heap.size := by have z := hk.size; (try simp only [World.size_alloc] at z); omega
  have B1 : Below w.heap.size w w1 := bcall B0 hk B0.size
  replace XA := XA.below hk XA.lt
  clear B0 hk hb
  have XA_0 := XA.c 0 _ rfl
  have XA_1 := XA.c 1 _ rfl
  have XA_2 := XA.c 2 _ rfl
  have XA_3 := XA.c 3 _ rfl
  have XA_l := XA.lt
  go_wp2_with fail
  refine (CF.out _ (HA.out.below B1 (Nat.le_refl _)) (HE.out.below B1 (Nat.le_refl _))).mono ?_
  rintro e w2 ⟨rfl, hb⟩
  have hk : Below (w1).heap.size (w1) w2 := hb
  have s2 : w.heap.size ≤ w2.heap.size := Nat.le_trans B1.size hk.size
  have q2 : w1.heap.size + 0 ≤ w2.heap.size := by have z := hk.size; (try simp only [World.size_alloc, World.size_setCell] at z); omega
  have B2 : Below w.heap.size w w2 := bcall B1 hk B1.size
  replace XA := XA.below hk XA.lt
  clear B1 hk hb
  clear XA_0 XA_1 XA_2 XA_3 XA_l
  have XA_0 := XA.c 0 _ rfl
  have XA_1 := XA.c 1 _ rfl
  have XA_2 := XA.c 2 _ rfl
  have XA_3 := XA.c 3 _ rfl
  have XA_l := XA.lt
  go_wp2_with fail
  replace B2 := (B2.alloc B2.size (.cells #[.int .i64 f1, .int .i64 f2] 27))
  replace XA := (XA.alloc (.cells #[.int .i64 f1, .int .i64 f2] 27))
  have T6 : Box2 ((w2).alloc (.cells #[.int .i64 f1, .int .i64 f2] 27)) (w2.heap.size) (.int .i64 f1) (.int .i64 f2) := Box2.newAt (w := w2) (r := w2.heap.size) (x := .int .i64 f1) (y := .int .i64 f2) (t := 27) (by simp)
  refine (CP.out _ (HE.out.below B2 (Nat.le_refl _))).mono ?_
  rintro e w3 ⟨px, cx, rfl, vx, hb⟩
  have VX := Lib.hid vx
  clear vx
  have hk : Below ((w2).alloc (.cells #[.int .i64 f1, .int .i64 f2] 27)).heap.size ((w2).alloc (.cells #[.int .i64 f1, .int .i64 f2] 27)) w3 := hb
  have s3 : w.heap.size ≤ w3.heap.size := Nat.le_trans B2.size hk.size
  have q3 : w2.heap.size + 1 ≤ w3.heap.size := by have z := hk.size; (try simp only [World.size_alloc] at z); omega
  have B3 : Below w.heap.size w w3 := bcall B2 hk B2.size
  replace XA := XA.below hk XA.lt
  replace T6 := T6.below hk T6.lt
  clear B2 hk hb
  clear XA_0 XA_1 XA_2 XA_3 XA_l
  have XA_0 := XA.c 0 _ rfl
  have XA_1 := XA.c 1 _ rfl
  have XA_2 := XA.c 2 _ rfl
  have XA_3 := XA.c 3 _ rfl
  have XA_l := XA.lt
  obtain ⟨T6_0, T6_1, T6_f0, T6_f1, T6_l⟩ := id T6
  go_wp2_with fail
  replace B3 := (B3.alloc B3.size (.cells #[.int .i64 z.maj, .int .i64 z.min, .int .i64 z.pat, .slice px z.pre.length cx] 24))
  replace XA := (XA.alloc (.cells #[.int .i64 z.maj, .int .i64 z.min, .int .i64 z.pat, .slice px z.pre.length cx] 24))
  replace T6 := (T6.alloc (.cells #[.int .i64 z.maj, .int .i64 z.min, .int .i64 z.pat, .slice px z.pre.length cx] 24))
  replace VX := Lib.hid (VX.out.below (B := (w3).heap.size) (w' := (w3).alloc (.cells #[.int .i64 z.maj, .int .i64 z.min, .int .i64 z.pat, .slice px z.pre.length cx] 24)) ((Below.refl _ _).alloc (Nat.le_refl _) _) (Nat.le_refl _))
  have T7 : Blk ((w3).alloc (.cells #[.int .i64 z.maj, .int .i64 z.min, .int .i64 z.pat, .slice px z.pre.length cx] 24)) (w3.heap.size) [.int .i64 z.maj, .int .i64 z.min, .int .i64 z.pat, .slice px z.pre.length cx] := Blk.new (w3) [.int .i64 z.maj, .int .i64 z.min, .int .i64 z.pat, .slice px z.pre.length cx] 24 (g := w3.heap.size) (by simp)
  replace B3 := (B3.alloc B3.size (.cells #[.int .i64 j1, .int .i64 j2] 27))
  replace XA := (XA.alloc (.cells #[.int .i64 j1, .int .i64 j2] 27))
  replace T6 := (T6.alloc (.cells #[.int .i64 j1, .int .i64 j2] 27))
  replace VX := Lib.hid (VX.out.below (B := ((w3).alloc (.cells #[.int .i64 z.maj, .int .i64 z.min, .int .i64 z.pat, .slice px z.pre.length cx] 24)).heap.size) (w' := ((w3).alloc (.cells #[.int .i64 z.maj, .int .i64 z.min, .int .i64 z.pat, .slice px z.pre.length cx] 24)).alloc (.cells #[.int .i64 j1, .int .i64 j2] 27)) ((Below.refl _ _).alloc (Nat.le_refl _) _) (Nat.le_refl _))
  replace T7 := (T7.alloc (.cells #[.int .i64 j1, .int .i64 j2] 27))
  have T8 : Box2 (((w3).alloc (.cells #[.int .i64 z.maj, .int .i64 z.min, .int .i64 z.pat, .slice px z.pre.length cx] 24)).alloc (.cells #[.int .i64 j1, .int .i64 j2] 27)) (w3.heap.size + 1) (.int .i64 j1) (.int .i64 j2) := Box2.newAt (w := (w3).alloc (.cells #[.int .i64 z.maj, .int .i64 z.min, .int .i64 z.pat, .slice px z.pre.length cx] 24)) (r := w3.heap.size + 1) (x := .int .i64 j1) (y := .int .i64 j2) (t := 27) (by simp)
  refine (CQ.out _ (HE.out.below B3 (Nat.le_refl _))).mono ?_
  rintro e w4 ⟨py, cy, rfl, vy, hb⟩
  have VY := Lib.hid vy
  clear vy
  have hk : Below (((w3).alloc (.cells #[.int .i64 z.maj, .int .i64 z.min, .int .i64 z.pat, .slice px z.pre.length cx] 24)).alloc (.cells #[.int .i64 j1, .int .i64 j2] 27)).heap.size (((w3).alloc (.cells #[.int .i64 z.maj, .int .i64 z.min, .int .i64 z.pat, .slice px z.pre.length cx] 24)).alloc (.cells #[.int .i64 j1, .int .i64 j2] 27)) w4 := hb
  have s4 : w.heap.size ≤ w4.heap.size := Nat.le_trans B3.size hk.size
  have q4 : w3.heap.size + 2 ≤ w4.heap.size := by have z := hk.size; (try simp only [World.size_alloc] at z); omega
  have B4 : Below w.heap.size w w4 := bcall B3 hk B3.size
  replace XA := XA.below hk XA.lt
  replace T6 := T6.below hk T6.lt
  replace VX := Lib.hid (VX.out.below hk (Nat.le_refl _))
  replace T7 := T7.below hk T7.lt
  replace T8 := T8.below hk T8.lt
  clear B3 hk hb
  clear XA_0 XA_1 XA_2 XA_3 XA_l T6_0 T6_1 T6_f0 T6_f1 T6_l
  have XA_0 := XA.c 0 _ rfl
  have XA_1 := XA.c 1 _ rfl
  have XA_2 := XA.c 2 _ rfl
  have XA_3 := XA.c 3 _ rfl
  have XA_l := XA.lt
  obtain ⟨T6_0, T6_1, T6_f0, T6_f1, T6_l⟩ := id T6
  have T7_0 := T7.c 0 _ rfl
  have T7_1 := T7.c 1 _ rfl
  have T7_2 := T7.c 2 _ rfl
  have T7_3 := T7.c 3 _ rfl
  have T7_l := T7.lt
  obtain ⟨T8_0, T8_1, T8_f0, T8_f1, T8_l⟩ := id T8
  go_wp2_with fail
  replace B4 := (B4.alloc B4.size (.cells #[.int .i64 y.maj, .int .i64 y.min, .int .i64 y.pat, .slice py y.pre.length cy] 24))
  replace XA := (XA.alloc (.cells #[.int .i64 y.maj, .int .i64 y.min, .int .i64 y.pat, .slice py y.pre.length cy] 24))
  replace T6 := (T6.alloc (.cells #[.int .i64 y.maj, .int .i64 y.min, .int .i64 y.pat, .slice py y.pre.length cy] 24))
  replace VX := Lib.hid (VX.out.below (B := (w4).heap.size) (w' := (w4).alloc (.cells #[.int .i64 y.maj, .int .i64 y.min, .int .i64 y.pat, .slice py y.pre.length cy] 24)) ((Below.refl _ _).alloc (Nat.le_refl _) _) (Nat.le_refl _))
  replace T7 := (T7.alloc (.cells #[.int .i64 y.maj, .int .i64 y.min, .int .i64 y.pat, .slice py y.pre.length cy] 24))
  replace T8 := (T8.alloc (.cells #[.int .i64 y.maj, .int .i64 y.min, .int .i64 y.pat, .slice py y.pre.length cy] 24))
  replace VY := Lib.hid (VY.out.below (B := (w4).heap.size) (w' := (w4).alloc (.cells #[.int .i64 y.maj, .int .i64 y.min, .int .i64 y.pat, .slice py y.pre.length cy] 24)) ((Below.refl _ _).alloc (Nat.le_refl _) _) (Nat.le_refl _))
  have T9 : Blk ((w4).alloc (.cells #[.int .i64 y.maj, .int .i64 y.min, .int .i64 y.pat, .slice py y.pre.length cy] 24)) (w4.heap.size) [.int .i64 y.maj, .int .i64 y.min, .int .i64 y.pat, .slice py y.pre.length cy] := Blk.new (w4) [.int .i64 y.maj, .int .i64 y.min, .int .i64 y.pat, .slice py y.pre.length cy] 24 (g := w4.heap.size) (by simp)
  replace B4 := (B4.alloc B4.size (.cells #[.int .i64 0, .int .i64 0] 27))
  replace XA := (XA.alloc (.cells #[.int .i64 0, .int .i64 0] 27))
  replace T6 := (T6.alloc (.cells #[.int .i64 0, .int .i64 0] 27))
  replace VX := Lib.hid (VX.out.below (B := ((w4).alloc (.cells #[.int .i64 y.maj, .int .i64 y.min, .int .i64 y.pat, .slice py y.pre.length cy] 24)).heap.size) (w' := ((w4).alloc (.cells #[.int .i64 y.maj, .int .i64 y.min, .int .i64 y.pat, .slice py y.pre.length cy] 24)).alloc (.cells #[.int .i64 0, .int .i64 0] 27)) ((Below.refl _ _).alloc (Nat.le_refl _) _) (Nat.le_refl _))
  replace T7 := (T7.alloc (.cells #[.int .i64 0, .int .i64 0] 27))
  replace T8 := (T8.alloc (.cells #[.int .i64 0, .int .i64 0] 27))
  replace VY := Lib.hid (VY.out.below (B := ((w4).alloc (.cells #[.int .i64 y.maj, .int .i64 y.min, .int .i64 y.pat, .slice py y.pre.length cy] 24)).heap.size) (w' := ((w4).alloc (.cells #[.int .i64 y.maj, .int .i64 y.min, .int .i64 y.pat, .slice py y.pre.length cy] 24)).alloc (.cells #[.int .i64 0, .int .i64 0] 27)) ((Below.refl _ _).alloc (Nat.le_refl _) _) (Nat.le_refl _))
  replace T9 := (T9.alloc (.cells #[.int .i64 0, .int .i64 0] 27))
  have T10 : Box2 (((w4).alloc (.cells #[.int .i64 y.maj, .int .i64 y.min, .int .i64 y.pat, .slice py y.pre.length cy] 24)).alloc (.cells #[.int .i64 0, .int .i64 0] 27)) (w4.heap.size + 1) (.int .i64 0) (.int .i64 0) := Box2.newAt (w := (w4).alloc (.cells #[.int .i64 y.maj, .int .i64 y.min, .int .i64 y.pat, .slice py y.pre.length cy] 24)) (r := w4.heap.size + 1) (x := .int .i64 0) (y := .int .i64 0) (t := 27) (by simp)
  refine (CG.out _ _ _ VY.out (HE.out.below B4 (Nat.le_refl _))).mono ?_
  rintro e w5 ⟨rfl, hb⟩
  have hk : Below (((w4).alloc (.cells #[.int .i64 y.maj, .int .i64 y.min, .int .i64 y.pat, .slice py y.pre.length cy] 24)).alloc (.cells #[.int .i64 0, .int .i64 0] 27)).heap.size (((w4).alloc (.cells #[.int .i64 y.maj, .int .i64 y.min, .int .i64 y.pat, .slice py y.pre.length cy] 24)).alloc (.cells #[.int .i64 0, .int .i64 0] 27)) w5 := hb
  have s5 : w.heap.size ≤ w5.heap.size := Nat.le_trans B4.size hk.size
  have q5 : w4.heap.size + 2 ≤ w5.heap.size := by have z := hk.size; (try simp only [World.size_alloc] at z); omega
  have B5 : Below w.heap.size w w5 := bcall B4 hk B4.size
  replace XA := XA.below hk XA.lt
  replace T6 := T6.below hk T6.lt
  replace VX := Lib.hid (VX.out.below hk (Nat.le_refl _))
  replace T7 := T7.below hk T7.lt
  replace T8 := T8.below hk T8.lt
  replace VY := Lib.hid (VY.out.below hk (Nat.le_refl _))
  replace T9 := T9.below hk T9.lt
  replace T10 := T10.below hk T10.lt
  clear B4 hk hb
  clear XA_0 XA_1 XA_2 XA_3 XA_l T6_0 T6_1 T6_f0 T6_f1 T6_l T7_0 T7_1 T7_2 T7_3 T7_l T8_0 T8_1 T8_f0 T8_f1 T8_l
  have XA_0 := XA.c 0 _ rfl
  have XA_1 := XA.c 1 _ rfl
  have XA_2 := XA.c 2 _ rfl
  have XA_3 := XA.c 3 _ rfl
  have XA_l := XA.lt
  obtain ⟨T6_0, T6_1, T6_f0, T6_f1, T6_l⟩ := id T6
  have T7_0 := T7.c 0 _ rfl
  have T7_1 := T7.c 1 _ rfl
  have T7_2 := T7.c 2 _ rfl
  have T7_3 := T7.c 3 _ rfl
  have T7_l := T7.lt
  obtain ⟨T8_0, T8_1, T8_f0, T8_f1, T8_l⟩ := id T8
  have T9_0 := T9.c 0 _ rfl
  have T9_1 := T9.c 1 _ rfl
  have T9_2 := T9.c 2 _ rfl
  have T9_3 := T9.c 3 _ rfl
  have T9_l := T9.lt
  obtain ⟨T10_0, T10_1, T10_f0, T10_f1, T10_l⟩ := id T10
  go_wp2_with fail
  replace B5 := (B5.alloc B5.size (.cells #[.int .i64 0, .int .i64 0] 27))
  replace XA := (XA.alloc (.cells #[.int .i64 0, .int .i64 0] 27))
  replace T6 := (T6.alloc (.cells #[.int .i64 0, .int .i64 0] 27))
  replace VX := Lib.hid (VX.out.below (B := (w5).heap.size) (w' := (w5).alloc (.cells #[.int .i64 0, .int .i64 0] 27)) ((Below.refl _ _).alloc (Nat.le_refl _) _) (Nat.le_refl _))
  replace T7 := (T7.alloc (.cells #[.int .i64 0, .int .i64 0] 27))
  replace T8 := (T8.alloc (.cells #[.int .i64 0, .int .i64 0] 27))
  replace VY := Lib.hid (VY.out.below (B := (w5).heap.size) (w' := (w5).alloc (.cells #[.int .i64 0, .int .i64 0] 27)) ((Below.refl _ _).alloc (Nat.le_refl _) _) (Nat.le_refl _))
  replace T9 := (T9.alloc (.cells #[.int .i64 0, .int .i64 0] 27))
  replace T10 := (T10.alloc (.cells #[.int .i64 0, .int .i64 0] 27))
  have T12 : Box2 ((w5).alloc (.cells #[.int .i64 0, .int .i64 0] 27)) (w5.heap.size) (.int .i64 0) (.int .i64 0) := Box2.newAt (w := w5) (r := w5.heap.size) (x := .int .i64 0) (y := .int .i64 0) (t := 27) (by simp)
  go_ret
  exact ⟨rfl, B5⟩
theorem vtc_any (v : Pl.Ver) (s : ByteArray) (pa : Option Addr) (ca : Nat) (w : World) (E : Env w) (ha : VIn w v pa ca) (hs : s.size ≤ 9223372036854775807) :
    Calls Tryd.prog 5 #[verV v pa ca, .string s] w fun e w' => e = .returned (.bool true) ∧ Below w.heap.size w w' := by
  rcases Pl.vrF_cases v with ⟨-, ok⟩ | fv
  · by_cases hl : 80 < s.size
    · exact vtc_GN v s pa ca w E ha hs ok 2 (-1) (by decide) (by unfold Pl.parF; rw [if_pos hl])
    · cases hp : Pl.progParse (Pl.bsl s) with
      | none => exact vtc_GN v s pa ca w E ha hs ok 1 (-1) (by decide) (Pl.par_none (by omega) hp).2
      | some y => exact vtc_GS v s pa ca w E ha hs ok (by omega) y hp
  · by_cases hl : 80 < s.size
    · exact vtc_BN v s pa ca w E ha hs _ _ fv rfl 2 (-1) (by decide) (by unfold Pl.parF; rw [if_pos hl])
    · cases hp : Pl.progParse (Pl.bsl s) with
      | none => exact vtc_BN v s pa ca w E ha hs _ _ fv rfl 1 (-1) (by decide) (Pl.par_none (by omega) hp).2
      | some y => exact vtc_BS v s pa ca w E ha hs _ _ fv rfl (by omega) y hp
end Go.Proofs.YthnhajihkdgifaaDoor
