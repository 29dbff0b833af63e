/- The law TopExactRangesContainOneVersion: what it computes is true. -/
import Derived.Test.YtolfgcoalihmgaaGreatDoorZBt
import Derived.Test.YtolfgcoalihmgaaGreatDoorZDg
import Derived.Test.YtolfgcoalihmgaaGreatDoorZDj
import Derived.Test.YtolfgcoalihmgaaGreatDoorZDk
import Derived.Test.YtolfgcoalihmgaaGreatDoorZEz
import Derived.Test.YtolfgcoalihmgaaGreatDoorZMBf
import Derived.Test.YtolfgcoalihmgaaGreatDoorZMBj
import Derived.Test.YtolfgcoalihmgaaGreatDoorZMBs
import Derived.Test.YtolfgcoalihmgaaGreatDoorZMBv
import Derived.Test.YtolfgcoalihmgaaGreatDoorZMDa
import Derived.Test.YtolfgcoalihmgaaGreatDoorZMDd
import Derived.Test.YtolfgcoalihmgaaGreatDoorZMDf
import Derived.Test.YtolfgcoalihmgaaGreatDoorZMDi
import Derived.Test.YtolfgcoalihmgaaGreatDoorZMDo
import Derived.Test.YtolfgcoalihmgaaGreatDoorZMEa
import Derived.Test.YtolfgcoalihmgaaGreatDoorZMKb
import Derived.Test.YtolfgcoalihmgaaGreatDoorZMKd
import Derived.Test.YtolfgcoalihmgaaGreatDoorZMKe
import Derived.Test.YtolfgcoalihmgaaGreatDoorZMKk
import Derived.Test.YtolfgcoalihmgaaGreatDoorZMKo
import Derived.Test.YtolfgcoalihmgaaGreatDoorZMOb
import Derived.Test.YtolfgcoalihmgaaGreatDoorZMOc
import Derived.Test.YtolfgcoalihmgaaGreatDoorZMOk
import Derived.Test.YtolfgcoalihmgaaGreatDoorZMOn
import Derived.Test.YtolfgcoalihmgaaGreatDoorZMOq
import Derived.Test.YtolfgcoalihmgaaGreatDoorZMOs
import Derived.Test.YtolfgcoalihmgaaGreatDoorZMPo
import Derived.Test.YtolfgcoalihmgaaGreatDoorZMPq
import Derived.Test.YtolfgcoalihmgaaGreatDoorZMQd
import Derived.Test.YtolfgcoalihmgaaGreatDoorZMQg
import Derived.Test.YtolfgcoalihmgaaGreatDoorZMQi
import Derived.Test.YtolfgcoalihmgaaGreatDoorYBk
import Derived.Test.YtolfgcoalihmgaaGreatDoorYJb
namespace Go.Proofs.YtolfgcoalihmgaaGreatDoor
open Go.RowKit
theorem Pl.verT_le {v : Pl.Ver} (h : v.Ok) : (Pl.verT v).length ≤ 80 := Pl.verT_len h
theorem Pl.exact_same {v x : Pl.Ver} (h : v.Ok) (hx : x.Ok) : Pl.hasB [⟨v, Pl.verNext v, false⟩] x = Pl.sameB v x := by
 rw [Bool.eq_iff_iff, Pl.exact_has h hx, Pl.sameB_iff]
theorem eq_cat (l : List UInt8) : (⟨#[61]⟩ : ByteArray) ++ Pl.mkS l = Pl.mkS (61 :: l) := by
 have h : Pl.bsl ((⟨#[61]⟩ : ByteArray) ++ Pl.mkS l) = Pl.bsl (Pl.mkS (61 :: l)) := by
  simp [Pl.bsl, Pl.mkS]
 rw [← Pl.mkS_bsl ((⟨#[61]⟩ : ByteArray) ++ Pl.mkS l), h, Pl.mkS_bsl]
set_option maxRecDepth 100000 in
set_option maxHeartbeats 8000000 in
theorem exL_a (v x : Pl.Ver) (a b : Option Addr) (c d : Nat) (w : World) (h1 : VIn w v a c) (h2 : VIn w x b d) (E : Env w) (f1 f2 k1 k2 : Int) (hf : f1 ≠ 0) (e1 : Pl.vrF v = (f1, f2)) (e2 : Pl.vrF x = (k1, k2)) :
 Calls Tryz.prog 3 #[verV v a c, verV x b d] w fun e w' => e = .returned (.bool true) ∧ Below w.heap.size w w' := by
 have u1 := bneT hf
 have u2 := beqF hf
 have CV := Lib.hid (fun (W : World) (g1 : VIn W v a c) (g2 : Env W) => Format_any v a c W g1 g2)
 have CX := Lib.hid (fun (W : World) (g1 : VIn W x b d) (g2 : Env W) => Format_any x b d W g1 g2)
 have FV := Lib.hid (fun (W : World) (g1 : VIn W v a c) => VersionFault_any v a c W g1)
 have FX := Lib.hid (fun (W : World) (g1 : VIn W x b d) => VersionFault_any x b d W g1)
 rw [e1] at CV FV
 rw [e2] at CX FX
 simp only [fltV] at CV CX FV FX
 clear e1 e2 hf
 generalize Pl.fmtV v = S1 at *
 generalize Pl.fmtV x = S2 at *
 have HS := Lib.hid (fun (W : World) (E : Env W) => kernSelects_any W E)
 have H := Lib.hid h1
 have K := Lib.hid h2
 have HE := Lib.hid E
 clear h1 h2 E
 go_enter Tryz.func3, Tryz.ntmps3
 have B0 : Below w.heap.size w w := Below.refl _ _
 go_wp2_with fail
 refine (HS.out _ (HE.out.below (show Below w.heap.size w _ from by go_grown) (Nat.le_refl _))).mono ?_
 rintro e w1 ⟨rfl, hb⟩
 have B1 : Below w.heap.size w w1 := bcall (by go_grown) hb (by go_size)
 have q1 : w.heap.size + 2 ≤ w1.heap.size := by have z := hb.size; (try simp only [World.size_alloc] at z); omega
 replace H := Lib.hid (((H.out.below (Below.refl _ _ |>.alloc (Nat.le_refl _) _) (Nat.le_refl _)).below (Below.refl _ _ |>.alloc (Nat.le_refl _) _) (Nat.le_refl _)).below hb (Nat.le_refl _))
 replace K := Lib.hid (((K.out.below (Below.refl _ _ |>.alloc (Nat.le_refl _) _) (Nat.le_refl _)).below (Below.refl _ _ |>.alloc (Nat.le_refl _) _) (Nat.le_refl _)).below hb (Nat.le_refl _))
 have X := (((Bk.new (r := w.heap.size) (cs := [.int .i64 v.maj, .int .i64 v.min, .int .i64 v.pat, .slice a v.pre.length c]) _ 24 (by simp)).alloc _)).below hb (by go_size)
 have Y := ((Bk.new (r := w.heap.size + 1) (cs := [.int .i64 x.maj, .int .i64 x.min, .int .i64 x.pat, .slice b x.pre.length d]) _ 24 (by simp))).below hb (by go_size)
 clear hb
 have s1 : w.heap.size ≤ w1.heap.size := B1.size
 obtain ⟨X_c, X_f, X_l⟩ := id X
 obtain ⟨Y_c, Y_f, Y_l⟩ := id Y
 go_wp2_with fail
 clear HS
 refine (CV.out _ (H.out) (HE.out.below (show Below w.heap.size w _ from by go_grown) (Nat.le_refl _))).mono ?_
 rintro e w2 ⟨rfl, hb⟩
 have B2 : Below w.heap.size w w2 := bcall (by go_grown) hb (by go_size)
 have q2 : w1.heap.size + 0 ≤ w2.heap.size := by have z := hb.size; (try simp only [World.size_alloc, World.size_setCell, World.size_drew] at z); omega
 replace H := Lib.hid (H.out.below hb (Nat.le_refl _))
 replace K := Lib.hid (K.out.below hb (Nat.le_refl _))
 replace X := (X).below hb (by go_size)
 replace Y := (Y).below hb (by go_size)
 clear hb
 have s2 : w.heap.size ≤ w2.heap.size := B2.size
 clear X_c X_f X_l Y_c Y_f Y_l
 obtain ⟨X_c, X_f, X_l⟩ := id X
 obtain ⟨Y_c, Y_f, Y_l⟩ := id Y
 go_wp2_with fail
 refine (CX.out _ ((K.out.below (Below.refl _ _ |>.alloc (Nat.le_refl _) _) (Nat.le_refl _))) (HE.out.below (show Below w.heap.size w _ from by go_grown) (Nat.le_refl _))).mono ?_
 rintro e w3 ⟨rfl, hb⟩
 have B3 : Below w.heap.size w w3 := bcall (by go_grown) hb (by go_size)
 have q3 : w2.heap.size + 1 ≤ w3.heap.size := by have z := hb.size; (try simp only [World.size_alloc] at z); omega
 replace H := Lib.hid ((H.out.below (Below.refl _ _ |>.alloc (Nat.le_refl _) _) (Nat.le_refl _)).below hb (Nat.le_refl _))
 replace K := Lib.hid ((K.out.below (Below.refl _ _ |>.alloc (Nat.le_refl _) _) (Nat.le_refl _)).below hb (Nat.le_refl _))
 replace X := ((X.alloc _)).below hb (by go_size)
 replace Y := ((Y.alloc _)).below hb (by go_size)
 have F1 := ((Bk.new (r := w2.heap.size) (cs := [.int .i64 f1, .int .i64 f2]) _ 27 (by simp))).below hb (by go_size)
 clear hb
 have s3 : w.heap.size ≤ w3.heap.size := B3.size
 clear X_c X_f X_l Y_c Y_f Y_l
 obtain ⟨X_c, X_f, X_l⟩ := id X
 obtain ⟨Y_c, Y_f, Y_l⟩ := id Y
 obtain ⟨F1_c, F1_f, F1_l⟩ := id F1
 go_wp2_with fail
 refine (FV.out _ ((H.out.below (Below.refl _ _ |>.alloc (Nat.le_refl _) _) (Nat.le_refl _)))).mono ?_
 rintro e w4 ⟨rfl, hb⟩
 have B4 : Below w.heap.size w w4 := bcall (by go_grown) hb (by go_size)
 have q4 : w3.heap.size + 1 ≤ w4.heap.size := by have z := hb.size; (try simp only [World.size_alloc] at z); omega
 replace H := Lib.hid ((H.out.below (Below.refl _ _ |>.alloc (Nat.le_refl _) _) (Nat.le_refl _)).below hb (Nat.le_refl _))
 replace K := Lib.hid ((K.out.below (Below.refl _ _ |>.alloc (Nat.le_refl _) _) (Nat.le_refl _)).below hb (Nat.le_refl _))
 replace X := ((X.alloc _)).below hb (by go_size)
 replace Y := ((Y.alloc _)).below hb (by go_size)
 replace F1 := ((F1.alloc _)).below hb (by go_size)
 have F2 := ((Bk.new (r := w3.heap.size) (cs := [.int .i64 k1, .int .i64 k2]) _ 27 (by simp))).below hb (by go_size)
 clear hb
 have s4 : w.heap.size ≤ w4.heap.size := B4.size
 clear X_c X_f X_l Y_c Y_f Y_l F1_c F1_f F1_l
 obtain ⟨X_c, X_f, X_l⟩ := id X
 obtain ⟨Y_c, Y_f, Y_l⟩ := id Y
 obtain ⟨F1_c, F1_f, F1_l⟩ := id F1
 obtain ⟨F2_c, F2_f, F2_l⟩ := id F2
 go_wp2_with fail
 go_ret
 exact ⟨rfl, by go_grown⟩
set_option maxRecDepth 100000 in
set_option maxHeartbeats 8000000 in
theorem exL_b (v x : Pl.Ver) (a b : Option Addr) (c d : Nat) (w : World) (h1 : VIn w v a c) (h2 : VIn w x b d) (E : Env w) (k1 k2 : Int) (hk : k1 ≠ 0) (e1 : Pl.vrF v = (0, 0)) (e2 : Pl.vrF x = (k1, k2)) :
 Calls Tryz.prog 3 #[verV v a c, verV x b d] w fun e w' => e = .returned (.bool true) ∧ Below w.heap.size w w' := by
 have u1 := bneT hk
 have u2 := beqF hk
 have CV := Lib.hid (fun (W : World) (g1 : VIn W v a c) (g2 : Env W) => Format_any v a c W g1 g2)
 have CX := Lib.hid (fun (W : World) (g1 : VIn W x b d) (g2 : Env W) => Format_any x b d W g1 g2)
 have FV := Lib.hid (fun (W : World) (g1 : VIn W v a c) => VersionFault_any v a c W g1)
 have FX := Lib.hid (fun (W : World) (g1 : VIn W x b d) => VersionFault_any x b d W g1)
 rw [e1] at CV FV
 rw [e2] at CX FX
 simp only [fltV] at CV CX FV FX
 clear e1 e2 hk
 generalize Pl.fmtV v = S1 at *
 generalize Pl.fmtV x = S2 at *
 have HS := Lib.hid (fun (W : World) (E : Env W) => kernSelects_any W E)
 have H := Lib.hid h1
 have K := Lib.hid h2
 have HE := Lib.hid E
 clear h1 h2 E
 go_enter Tryz.func3, Tryz.ntmps3
 have B0 : Below w.heap.size w w := Below.refl _ _
 go_wp2_with fail
 refine (HS.out _ (HE.out.below (show Below w.heap.size w _ from by go_grown) (Nat.le_refl _))).mono ?_
 rintro e w1 ⟨rfl, hb⟩
 have B1 : Below w.heap.size w w1 := bcall (by go_grown) hb (by go_size)
 have q1 : w.heap.size + 2 ≤ w1.heap.size := by have z := hb.size; (try simp only [World.size_alloc] at z); omega
 replace H := Lib.hid (((H.out.below (Below.refl _ _ |>.alloc (Nat.le_refl _) _) (Nat.le_refl _)).below (Below.refl _ _ |>.alloc (Nat.le_refl _) _) (Nat.le_refl _)).below hb (Nat.le_refl _))
 replace K := Lib.hid (((K.out.below (Below.refl _ _ |>.alloc (Nat.le_refl _) _) (Nat.le_refl _)).below (Below.refl _ _ |>.alloc (Nat.le_refl _) _) (Nat.le_refl _)).below hb (Nat.le_refl _))
 have X := (((Bk.new (r := w.heap.size) (cs := [.int .i64 v.maj, .int .i64 v.min, .int .i64 v.pat, .slice a v.pre.length c]) _ 24 (by simp)).alloc _)).below hb (by go_size)
 have Y := ((Bk.new (r := w.heap.size + 1) (cs := [.int .i64 x.maj, .int .i64 x.min, .int .i64 x.pat, .slice b x.pre.length d]) _ 24 (by simp))).below hb (by go_size)
 clear hb
 have s1 : w.heap.size ≤ w1.heap.size := B1.size
 obtain ⟨X_c, X_f, X_l⟩ := id X
 obtain ⟨Y_c, Y_f, Y_l⟩ := id Y
 go_wp2_with fail
 clear HS
 refine (CV.out _ (H.out) (HE.out.below (show Below w.heap.size w _ from by go_grown) (Nat.le_refl _))).mono ?_
 rintro e w2 ⟨rfl, hb⟩
 have B2 : Below w.heap.size w w2 := bcall (by go_grown) hb (by go_size)
 have q2 : w1.heap.size + 0 ≤ w2.heap.size := by have z := hb.size; (try simp only [World.size_alloc, World.size_setCell, World.size_drew] at z); omega
 replace H := Lib.hid (H.out.below hb (Nat.le_refl _))
 replace K := Lib.hid (K.out.below hb (Nat.le_refl _))
 replace X := (X).below hb (by go_size)
 replace Y := (Y).below hb (by go_size)
 clear hb
 have s2 : w.heap.size ≤ w2.heap.size := B2.size
 clear X_c X_f X_l Y_c Y_f Y_l
 obtain ⟨X_c, X_f, X_l⟩ := id X
 obtain ⟨Y_c, Y_f, Y_l⟩ := id Y
 go_wp2_with fail
 refine (CX.out _ ((K.out.below (Below.refl _ _ |>.alloc (Nat.le_refl _) _) (Nat.le_refl _))) (HE.out.below (show Below w.heap.size w _ from by go_grown) (Nat.le_refl _))).mono ?_
 rintro e w3 ⟨rfl, hb⟩
 have B3 : Below w.heap.size w w3 := bcall (by go_grown) hb (by go_size)
 have q3 : w2.heap.size + 1 ≤ w3.heap.size := by have z := hb.size; (try simp only [World.size_alloc] at z); omega
 replace H := Lib.hid ((H.out.below (Below.refl _ _ |>.alloc (Nat.le_refl _) _) (Nat.le_refl _)).below hb (Nat.le_refl _))
 replace K := Lib.hid ((K.out.below (Below.refl _ _ |>.alloc (Nat.le_refl _) _) (Nat.le_refl _)).below hb (Nat.le_refl _))
 replace X := ((X.alloc _)).below hb (by go_size)
 replace Y := ((Y.alloc _)).below hb (by go_size)
 have F1 := ((Bk.new (r := w2.heap.size) (cs := [.int .i64 0, .int .i64 0]) _ 27 (by simp))).below hb (by go_size)
 clear hb
 have s3 : w.heap.size ≤ w3.heap.size := B3.size
 clear X_c X_f X_l Y_c Y_f Y_l
 obtain ⟨X_c, X_f, X_l⟩ := id X
 obtain ⟨Y_c, Y_f, Y_l⟩ := id Y
 obtain ⟨F1_c, F1_f, F1_l⟩ := id F1
 go_wp2_with fail
 refine (FV.out _ ((H.out.below (Below.refl _ _ |>.alloc (Nat.le_refl _) _) (Nat.le_refl _)))).mono ?_
 rintro e w4 ⟨rfl, hb⟩
 have B4 : Below w.heap.size w w4 := bcall (by go_grown) hb (by go_size)
 have q4 : w3.heap.size + 1 ≤ w4.heap.size := by have z := hb.size; (try simp only [World.size_alloc] at z); omega
 replace H := Lib.hid ((H.out.below (Below.refl _ _ |>.alloc (Nat.le_refl _) _) (Nat.le_refl _)).below hb (Nat.le_refl _))
 replace K := Lib.hid ((K.out.below (Below.refl _ _ |>.alloc (Nat.le_refl _) _) (Nat.le_refl _)).below hb (Nat.le_refl _))
 replace X := ((X.alloc _)).below hb (by go_size)
 replace Y := ((Y.alloc _)).below hb (by go_size)
 replace F1 := ((F1.alloc _)).below hb (by go_size)
 have F2 := ((Bk.new (r := w3.heap.size) (cs := [.int .i64 k1, .int .i64 k2]) _ 27 (by simp))).below hb (by go_size)
 clear hb
 have s4 : w.heap.size ≤ w4.heap.size := B4.size
 clear X_c X_f X_l Y_c Y_f Y_l F1_c F1_f F1_l
 obtain ⟨X_c, X_f, X_l⟩ := id X
 obtain ⟨Y_c, Y_f, Y_l⟩ := id Y
 obtain ⟨F1_c, F1_f, F1_l⟩ := id F1
 obtain ⟨F2_c, F2_f, F2_l⟩ := id F2
 go_wp2_with fail
 refine (FX.out _ (K.out)).mono ?_
 rintro e w5 ⟨rfl, hb⟩
 have B5 : Below w.heap.size w w5 := bcall (by go_grown) hb (by go_size)
 have q5 : w4.heap.size + 0 ≤ w5.heap.size := by have z := hb.size; (try simp only [World.size_alloc, World.size_setCell, World.size_drew] at z); omega
 replace H := Lib.hid (H.out.below hb (Nat.le_refl _))
 replace K := Lib.hid (K.out.below hb (Nat.le_refl _))
 replace X := (X).below hb (by go_size)
 replace Y := (Y).below hb (by go_size)
 replace F1 := (F1).below hb (by go_size)
 replace F2 := (F2).below hb (by go_size)
 clear hb
 have s5 : w.heap.size ≤ w5.heap.size := B5.size
 clear X_c X_f X_l Y_c Y_f Y_l F1_c F1_f F1_l F2_c F2_f F2_l
 obtain ⟨X_c, X_f, X_l⟩ := id X
 obtain ⟨Y_c, Y_f, Y_l⟩ := id Y
 obtain ⟨F1_c, F1_f, F1_l⟩ := id F1
 obtain ⟨F2_c, F2_f, F2_l⟩ := id F2
 go_wp2_with fail
 go_ret
 exact ⟨rfl, by go_grown⟩
set_option maxRecDepth 100000 in
set_option maxHeartbeats 8000000 in
theorem exL_c (v x : Pl.Ver) (a b : Option Addr) (c d : Nat) (w : World) (h1 : VIn w v a c) (h2 : VIn w x b d) (E : Env w) (e1 : Pl.vrF v = (0, 0)) (e2 : Pl.vrF x = (0, 0)) (hn : (Pl.vrF (Pl.verNext v)).1 ≠ 0) :
 Calls Tryz.prog 3 #[verV v a c, verV x b d] w fun e w' => e = .returned (.bool true) ∧ Below w.heap.size w w' := by
 have ov : v.Ok := by
  rcases Pl.vrF_cases v with ⟨-, ok⟩ | h
  · exact ok
  · exact absurd (by rw [e1]) h
 have ox : x.Ok := by
  rcases Pl.vrF_cases x with ⟨-, ok⟩ | h
  · exact ok
  · exact absurd (by rw [e2]) h
 have ht := Pl.verT_le ov
 have hcat := eq_cat (Pl.verT v)
 have hsz : (Pl.mkS (Pl.verT v)).size = (Pl.verT v).length := by rw [← Pl.bsl_len, Pl.bsl_mkS]
 have CP := Lib.hid (fun (W : World) (E : Env W) => parse_eq ov (by omega) W E)
 have CN := Lib.hid (fun (W : World) (g1 : VIn W v a c) => Next_any v a c W g1)
 have CV := Lib.hid (fun (W : World) (g1 : VIn W v a c) (g2 : Env W) => Format_any v a c W g1 g2)
 have CX := Lib.hid (fun (W : World) (g1 : VIn W x b d) (g2 : Env W) => Format_any x b d W g1 g2)
 have FV := Lib.hid (fun (W : World) (g1 : VIn W v a c) => VersionFault_any v a c W g1)
 have FX := Lib.hid (fun (W : World) (g1 : VIn W x b d) => VersionFault_any x b d W g1)
 rw [e1] at CV FV
 rw [e2] at CX FX
 simp only [fltV] at CV CX FV FX
 rw [show Pl.fmtV v = Pl.mkS (Pl.verT v) from if_neg (by rw [e1]; decide)] at CV
 rw [show Pl.exactV v = [] from if_pos hn, show Pl.exactF v = (10, 0) from if_pos hn] at CP
 have hnf : Pl.nextF v = (10, -1) := by unfold Pl.nextF; rw [if_neg (by rw [e1]; decide), if_pos hn]
 rw [hnf] at CN
 unfold RRngF at CP
 unfold RVerF at CN
 simp only [fltV] at CP CN
 clear e1 e2 hn hnf ov ox
 generalize Pl.mkS (61 :: Pl.verT v) = S3 at *
 generalize Pl.mkS (Pl.verT v) = S1 at *
 generalize Pl.fmtV x = S2 at *
 generalize Pl.nextV v = nx at *
 have HS := Lib.hid (fun (W : World) (E : Env W) => kernSelects_any W E)
 have H := Lib.hid h1
 have K := Lib.hid h2
 have HE := Lib.hid E
 clear h1 h2 E
 go_enter Tryz.func3, Tryz.ntmps3
 have B0 : Below w.heap.size w w := Below.refl _ _
 go_wp2_with fail
 refine (HS.out _ (HE.out.below (show Below w.heap.size w _ from by go_grown) (Nat.le_refl _))).mono ?_
 rintro e w1 ⟨rfl, hb⟩
 have B1 : Below w.heap.size w w1 := bcall (by go_grown) hb (by go_size)
 have q1 : w.heap.size + 2 ≤ w1.heap.size := by have z := hb.size; (try simp only [World.size_alloc] at z); omega
 replace H := Lib.hid (((H.out.below (Below.refl _ _ |>.alloc (Nat.le_refl _) _) (Nat.le_refl _)).below (Below.refl _ _ |>.alloc (Nat.le_refl _) _) (Nat.le_refl _)).below hb (Nat.le_refl _))
 replace K := Lib.hid (((K.out.below (Below.refl _ _ |>.alloc (Nat.le_refl _) _) (Nat.le_refl _)).below (Below.refl _ _ |>.alloc (Nat.le_refl _) _) (Nat.le_refl _)).below hb (Nat.le_refl _))
 have X := (((Bk.new (r := w.heap.size) (cs := [.int .i64 v.maj, .int .i64 v.min, .int .i64 v.pat, .slice a v.pre.length c]) _ 24 (by simp)).alloc _)).below hb (by go_size)
 have Y := ((Bk.new (r := w.heap.size + 1) (cs := [.int .i64 x.maj, .int .i64 x.min, .int .i64 x.pat, .slice b x.pre.length d]) _ 24 (by simp))).below hb (by go_size)
 clear hb
 have s1 : w.heap.size ≤ w1.heap.size := B1.size
 obtain ⟨X_c, X_f, X_l⟩ := id X
 obtain ⟨Y_c, Y_f, Y_l⟩ := id Y
 go_wp2_with fail
 clear HS
 refine (CV.out _ (H.out) (HE.out.below (show Below w.heap.size w _ from by go_grown) (Nat.le_refl _))).mono ?_
 rintro e w2 ⟨rfl, hb⟩
 have B2 : Below w.heap.size w w2 := bcall (by go_grown) hb (by go_size)
 have q2 : w1.heap.size + 0 ≤ w2.heap.size := by have z := hb.size; (try simp only [World.size_alloc, World.size_setCell, World.size_drew] at z); omega
 replace H := Lib.hid (H.out.below hb (Nat.le_refl _))
 replace K := Lib.hid (K.out.below hb (Nat.le_refl _))
 replace X := (X).below hb (by go_size)
 replace Y := (Y).below hb (by go_size)
 clear hb
 have s2 : w.heap.size ≤ w2.heap.size := B2.size
 clear X_c X_f X_l Y_c Y_f Y_l
 obtain ⟨X_c, X_f, X_l⟩ := id X
 obtain ⟨Y_c, Y_f, Y_l⟩ := id Y
 go_wp2_with fail
 refine (CX.out _ ((K.out.below (Below.refl _ _ |>.alloc (Nat.le_refl _) _) (Nat.le_refl _))) (HE.out.below (show Below w.heap.size w _ from by go_grown) (Nat.le_refl _))).mono ?_
 rintro e w3 ⟨rfl, hb⟩
 have B3 : Below w.heap.size w w3 := bcall (by go_grown) hb (by go_size)
 have q3 : w2.heap.size + 1 ≤ w3.heap.size := by have z := hb.size; (try simp only [World.size_alloc] at z); omega
 replace H := Lib.hid ((H.out.below (Below.refl _ _ |>.alloc (Nat.le_refl _) _) (Nat.le_refl _)).below hb (Nat.le_refl _))
 replace K := Lib.hid ((K.out.below (Below.refl _ _ |>.alloc (Nat.le_refl _) _) (Nat.le_refl _)).below hb (Nat.le_refl _))
 replace X := ((X.alloc _)).below hb (by go_size)
 replace Y := ((Y.alloc _)).below hb (by go_size)
 have F1 := ((Bk.new (r := w2.heap.size) (cs := [.int .i64 0, .int .i64 0]) _ 27 (by simp))).below hb (by go_size)
 clear hb
 have s3 : w.heap.size ≤ w3.heap.size := B3.size
 clear X_c X_f X_l Y_c Y_f Y_l
 obtain ⟨X_c, X_f, X_l⟩ := id X
 obtain ⟨Y_c, Y_f, Y_l⟩ := id Y
 obtain ⟨F1_c, F1_f, F1_l⟩ := id F1
 go_wp2_with fail
 try rw [hcat]
 refine (CP.out _ (HE.out.below (show Below w.heap.size w _ from by go_grown) (Nat.le_refl _))).mono ?_
 rintro e w4 ⟨op, cp, rfl, RP, hb⟩
 clear RP
 have B4 : Below w.heap.size w w4 := bcall (by go_grown) hb (by go_size)
 have q4 : w3.heap.size + 1 ≤ w4.heap.size := by have z := hb.size; (try simp only [World.size_alloc] at z); omega
 replace H := Lib.hid ((H.out.below (Below.refl _ _ |>.alloc (Nat.le_refl _) _) (Nat.le_refl _)).below hb (Nat.le_refl _))
 replace K := Lib.hid ((K.out.below (Below.refl _ _ |>.alloc (Nat.le_refl _) _) (Nat.le_refl _)).below hb (Nat.le_refl _))
 replace X := ((X.alloc _)).below hb (by go_size)
 replace Y := ((Y.alloc _)).below hb (by go_size)
 replace F1 := ((F1.alloc _)).below hb (by go_size)
 have F2 := ((Bk.new (r := w3.heap.size) (cs := [.int .i64 0, .int .i64 0]) _ 27 (by simp))).below hb (by go_size)
 clear hb
 have s4 : w.heap.size ≤ w4.heap.size := B4.size
 clear X_c X_f X_l Y_c Y_f Y_l F1_c F1_f F1_l
 obtain ⟨X_c, X_f, X_l⟩ := id X
 obtain ⟨Y_c, Y_f, Y_l⟩ := id Y
 obtain ⟨F1_c, F1_f, F1_l⟩ := id F1
 obtain ⟨F2_c, F2_f, F2_l⟩ := id F2
 go_wp2_with fail
 refine (CN.out _ (((H.out.below (Below.refl _ _ |>.alloc (Nat.le_refl _) _) (Nat.le_refl _)).below (Below.refl _ _ |>.alloc (Nat.le_refl _) _) (Nat.le_refl _)))).mono ?_
 rintro e w5 ⟨an, cn, rfl, VN, hb⟩
 clear VN
 have B5 : Below w.heap.size w w5 := bcall (by go_grown) hb (by go_size)
 have q5 : w4.heap.size + 2 ≤ w5.heap.size := by have z := hb.size; (try simp only [World.size_alloc] at z); omega
 replace H := Lib.hid (((H.out.below (Below.refl _ _ |>.alloc (Nat.le_refl _) _) (Nat.le_refl _)).below (Below.refl _ _ |>.alloc (Nat.le_refl _) _) (Nat.le_refl _)).below hb (Nat.le_refl _))
 replace K := Lib.hid (((K.out.below (Below.refl _ _ |>.alloc (Nat.le_refl _) _) (Nat.le_refl _)).below (Below.refl _ _ |>.alloc (Nat.le_refl _) _) (Nat.le_refl _)).below hb (Nat.le_refl _))
 replace X := (((X.alloc _).alloc _)).below hb (by go_size)
 replace Y := (((Y.alloc _).alloc _)).below hb (by go_size)
 replace F1 := (((F1.alloc _).alloc _)).below hb (by go_size)
 replace F2 := (((F2.alloc _).alloc _)).below hb (by go_size)
 have P := (((Bk.new (r := w4.heap.size) (cs := [.slice op 0 cp]) _ 33 (by simp)).alloc _)).below hb (by go_size)
 have F3 := ((Bk.new (r := w4.heap.size + 1) (cs := [.int .i64 10, .int .i64 0]) _ 27 (by simp))).below hb (by go_size)
 clear hb
 have s5 : w.heap.size ≤ w5.heap.size := B5.size
 clear X_c X_f X_l Y_c Y_f Y_l F1_c F1_f F1_l F2_c F2_f F2_l
 obtain ⟨X_c, X_f, X_l⟩ := id X
 obtain ⟨Y_c, Y_f, Y_l⟩ := id Y
 obtain ⟨F1_c, F1_f, F1_l⟩ := id F1
 obtain ⟨F2_c, F2_f, F2_l⟩ := id F2
 obtain ⟨P_c, P_f, P_l⟩ := id P
 obtain ⟨F3_c, F3_f, F3_l⟩ := id F3
 go_wp2_with fail
 go_ret
 exact ⟨rfl, by go_grown⟩
set_option maxRecDepth 100000 in
set_option maxHeartbeats 8000000 in
theorem exL_d (v x : Pl.Ver) (a b : Option Addr) (c d : Nat) (w : World) (h1 : VIn w v a c) (h2 : VIn w x b d) (E : Env w) (e1 : Pl.vrF v = (0, 0)) (e2 : Pl.vrF x = (0, 0)) (hn : (Pl.vrF (Pl.verNext v)).1 = 0) :
 Calls Tryz.prog 3 #[verV v a c, verV x b d] w fun e w' => e = .returned (.bool true) ∧ Below w.heap.size w w' := by
 have ov : v.Ok := by
  rcases Pl.vrF_cases v with ⟨-, ok⟩ | h
  · exact ok
  · exact absurd (by rw [e1]) h
 have ox : x.Ok := by
  rcases Pl.vrF_cases x with ⟨-, ok⟩ | h
  · exact ok
  · exact absurd (by rw [e2]) h
 have ht := Pl.verT_le ov
 have hcat := eq_cat (Pl.verT v)
 have hsz : (Pl.mkS (Pl.verT v)).size = (Pl.verT v).length := by rw [← Pl.bsl_len, Pl.bsl_mkS]
 have CP := Lib.hid (fun (W : World) (E : Env W) => parse_eq ov (by omega) W E)
 have CN := Lib.hid (fun (W : World) (g1 : VIn W v a c) => Next_any v a c W g1)
 have CV := Lib.hid (fun (W : World) (g1 : VIn W v a c) (g2 : Env W) => Format_any v a c W g1 g2)
 have CX := Lib.hid (fun (W : World) (g1 : VIn W x b d) (g2 : Env W) => Format_any x b d W g1 g2)
 have FV := Lib.hid (fun (W : World) (g1 : VIn W v a c) => VersionFault_any v a c W g1)
 have FX := Lib.hid (fun (W : World) (g1 : VIn W x b d) => VersionFault_any x b d W g1)
 rw [e1] at CV FV
 rw [e2] at CX FX
 simp only [fltV] at CV CX FV FX
 rw [show Pl.fmtV v = Pl.mkS (Pl.verT v) from if_neg (by rw [e1]; decide)] at CV
 have on : (Pl.verNext v).Ok := by
  rcases Pl.vrF_cases (Pl.verNext v) with ⟨-, ok⟩ | h
  · exact ok
  · exact absurd hn h
 rw [show Pl.exactV v = [⟨v, Pl.verNext v, false⟩] from if_neg (fun e => e hn), show Pl.exactF v = (0, 0) from if_neg (fun e => e hn)] at CP
 have hnf : Pl.nextF v = (0, 0) := by unfold Pl.nextF; rw [if_neg (by rw [e1]; decide), if_neg (fun e => e hn)]
 rw [hnf] at CN
 obtain ⟨R, hR⟩ : ∃ R, ([⟨v, Pl.verNext v, false⟩] : List Pl.Ivl) = R := ⟨_, rfl⟩
 have hrf : Pl.rngF R = (0, 0) := by rw [← hR]; exact Pl.rng_can (by simp) (Pl.Can.one ⟨ov, on, fun h => Bool.noConfusion h, fun _ => Pl.next_gt ov on⟩)
 have CC := Lib.hid (fun (W : World) (o : Option Addr) (m : Nat) (g1 : RIn W R o m) (g2 : VIn W x b d) => Contains_any R x o b m d W g1 g2)
 have hcf : Pl.conF R x = (0, 0) := by unfold Pl.conF; rw [hrf, if_neg (by decide), e2, if_neg (by decide)]
 have hcb : Pl.conB R x = Pl.sameB v x := by unfold Pl.conB; rw [hcf, if_neg (by decide), ← hR]; exact Pl.exact_same ov ox
 rw [hcf, hcb] at CC
 have CE := Lib.hid (fun (W : World) (g1 : VIn W v a c) (g2 : VIn W x b d) => SameVersion_any v x a b c d W g1 g2)
 obtain ⟨bb, hbb⟩ : ∃ bb, Pl.sameB v x = bb := ⟨_, rfl⟩
 rw [hbb] at CC CE
 rw [hR] at CP
 unfold RRngF at CP
 unfold RVerF at CN
 simp only [fltV] at CP CN CC
 clear e1 e2 hn hnf ov ox on hR hrf hcf hcb hbb
 generalize Pl.mkS (61 :: Pl.verT v) = S3 at *
 generalize Pl.mkS (Pl.verT v) = S1 at *
 generalize Pl.fmtV x = S2 at *
 generalize Pl.nextV v = nx at *
 have HS := Lib.hid (fun (W : World) (E : Env W) => kernSelects_any W E)
 have H := Lib.hid h1
 have K := Lib.hid h2
 have HE := Lib.hid E
 clear h1 h2 E
 go_enter Tryz.func3, Tryz.ntmps3
 have B0 : Below w.heap.size w w := Below.refl _ _
 go_wp2_with fail
 refine (HS.out _ (HE.out.below (show Below w.heap.size w _ from by go_grown) (Nat.le_refl _))).mono ?_
 rintro e w1 ⟨rfl, hb⟩
 have B1 : Below w.heap.size w w1 := bcall (by go_grown) hb (by go_size)
 have q1 : w.heap.size + 2 ≤ w1.heap.size := by have z := hb.size; (try simp only [World.size_alloc] at z); omega
 replace H := Lib.hid (((H.out.below (Below.refl _ _ |>.alloc (Nat.le_refl _) _) (Nat.le_refl _)).below (Below.refl _ _ |>.alloc (Nat.le_refl _) _) (Nat.le_refl _)).below hb (Nat.le_refl _))
 replace K := Lib.hid (((K.out.below (Below.refl _ _ |>.alloc (Nat.le_refl _) _) (Nat.le_refl _)).below (Below.refl _ _ |>.alloc (Nat.le_refl _) _) (Nat.le_refl _)).below hb (Nat.le_refl _))
 have X := (((Bk.new (r := w.heap.size) (cs := [.int .i64 v.maj, .int .i64 v.min, .int .i64 v.pat, .slice a v.pre.length c]) _ 24 (by simp)).alloc _)).below hb (by go_size)
 have Y := ((Bk.new (r := w.heap.size + 1) (cs := [.int .i64 x.maj, .int .i64 x.min, .int .i64 x.pat, .slice b x.pre.length d]) _ 24 (by simp))).below hb (by go_size)
 clear hb
 have s1 : w.heap.size ≤ w1.heap.size := B1.size
 obtain ⟨X_c, X_f, X_l⟩ := id X
 obtain ⟨Y_c, Y_f, Y_l⟩ := id Y
 go_wp2_with fail
 clear HS
 refine (CV.out _ (H.out) (HE.out.below (show Below w.heap.size w _ from by go_grown) (Nat.le_refl _))).mono ?_
 rintro e w2 ⟨rfl, hb⟩
 have B2 : Below w.heap.size w w2 := bcall (by go_grown) hb (by go_size)
 have q2 : w1.heap.size + 0 ≤ w2.heap.size := by have z := hb.size; (try simp only [World.size_alloc, World.size_setCell, World.size_drew] at z); omega
 replace H := Lib.hid (H.out.below hb (Nat.le_refl _))
 replace K := Lib.hid (K.out.below hb (Nat.le_refl _))
 replace X := (X).below hb (by go_size)
 replace Y := (Y).below hb (by go_size)
 clear hb
 have s2 : w.heap.size ≤ w2.heap.size := B2.size
 clear X_c X_f X_l Y_c Y_f Y_l
 obtain ⟨X_c, X_f, X_l⟩ := id X
 obtain ⟨Y_c, Y_f, Y_l⟩ := id Y
 go_wp2_with fail
 refine (CX.out _ ((K.out.below (Below.refl _ _ |>.alloc (Nat.le_refl _) _) (Nat.le_refl _))) (HE.out.below (show Below w.heap.size w _ from by go_grown) (Nat.le_refl _))).mono ?_
 rintro e w3 ⟨rfl, hb⟩
 have B3 : Below w.heap.size w w3 := bcall (by go_grown) hb (by go_size)
 have q3 : w2.heap.size + 1 ≤ w3.heap.size := by have z := hb.size; (try simp only [World.size_alloc] at z); omega
 replace H := Lib.hid ((H.out.below (Below.refl _ _ |>.alloc (Nat.le_refl _) _) (Nat.le_refl _)).below hb (Nat.le_refl _))
 replace K := Lib.hid ((K.out.below (Below.refl _ _ |>.alloc (Nat.le_refl _) _) (Nat.le_refl _)).below hb (Nat.le_refl _))
 replace X := ((X.alloc _)).below hb (by go_size)
 replace Y := ((Y.alloc _)).below hb (by go_size)
 have F1 := ((Bk.new (r := w2.heap.size) (cs := [.int .i64 0, .int .i64 0]) _ 27 (by simp))).below hb (by go_size)
 clear hb
 have s3 : w.heap.size ≤ w3.heap.size := B3.size
 clear X_c X_f X_l Y_c Y_f Y_l
 obtain ⟨X_c, X_f, X_l⟩ := id X
 obtain ⟨Y_c, Y_f, Y_l⟩ := id Y
 obtain ⟨F1_c, F1_f, F1_l⟩ := id F1
 go_wp2_with fail
 try rw [hcat]
 refine (CP.out _ (HE.out.below (show Below w.heap.size w _ from by go_grown) (Nat.le_refl _))).mono ?_
 rintro e w4 ⟨op, cp, rfl, RP, hb⟩
 replace RP := Lib.hid RP
 have B4 : Below w.heap.size w w4 := bcall (by go_grown) hb (by go_size)
 have q4 : w3.heap.size + 1 ≤ w4.heap.size := by have z := hb.size; (try simp only [World.size_alloc] at z); omega
 replace H := Lib.hid ((H.out.below (Below.refl _ _ |>.alloc (Nat.le_refl _) _) (Nat.le_refl _)).below hb (Nat.le_refl _))
 replace K := Lib.hid ((K.out.below (Below.refl _ _ |>.alloc (Nat.le_refl _) _) (Nat.le_refl _)).below hb (Nat.le_refl _))
 replace X := ((X.alloc _)).below hb (by go_size)
 replace Y := ((Y.alloc _)).below hb (by go_size)
 replace F1 := ((F1.alloc _)).below hb (by go_size)
 have F2 := ((Bk.new (r := w3.heap.size) (cs := [.int .i64 0, .int .i64 0]) _ 27 (by simp))).below hb (by go_size)
 clear hb
 have s4 : w.heap.size ≤ w4.heap.size := B4.size
 clear X_c X_f X_l Y_c Y_f Y_l F1_c F1_f F1_l
 obtain ⟨X_c, X_f, X_l⟩ := id X
 obtain ⟨Y_c, Y_f, Y_l⟩ := id Y
 obtain ⟨F1_c, F1_f, F1_l⟩ := id F1
 obtain ⟨F2_c, F2_f, F2_l⟩ := id F2
 go_wp2_with fail
 refine (CN.out _ (((H.out.below (Below.refl _ _ |>.alloc (Nat.le_refl _) _) (Nat.le_refl _)).below (Below.refl _ _ |>.alloc (Nat.le_refl _) _) (Nat.le_refl _)))).mono ?_
 rintro e w5 ⟨an, cn, rfl, VN, hb⟩
 clear VN
 have B5 : Below w.heap.size w w5 := bcall (by go_grown) hb (by go_size)
 have q5 : w4.heap.size + 2 ≤ w5.heap.size := by have z := hb.size; (try simp only [World.size_alloc] at z); omega
 replace H := Lib.hid (((H.out.below (Below.refl _ _ |>.alloc (Nat.le_refl _) _) (Nat.le_refl _)).below (Below.refl _ _ |>.alloc (Nat.le_refl _) _) (Nat.le_refl _)).below hb (Nat.le_refl _))
 replace K := Lib.hid (((K.out.below (Below.refl _ _ |>.alloc (Nat.le_refl _) _) (Nat.le_refl _)).below (Below.refl _ _ |>.alloc (Nat.le_refl _) _) (Nat.le_refl _)).below hb (Nat.le_refl _))
 replace RP := Lib.hid (((RP.out.below (Below.refl _ _ |>.alloc (Nat.le_refl _) _) (Nat.le_refl _)).below (Below.refl _ _ |>.alloc (Nat.le_refl _) _) (Nat.le_refl _)).below hb (Nat.le_refl _))
 replace X := (((X.alloc _).alloc _)).below hb (by go_size)
 replace Y := (((Y.alloc _).alloc _)).below hb (by go_size)
 replace F1 := (((F1.alloc _).alloc _)).below hb (by go_size)
 replace F2 := (((F2.alloc _).alloc _)).below hb (by go_size)
 have P := (((Bk.new (r := w4.heap.size) (cs := [.slice op R.length cp]) _ 33 (by simp)).alloc _)).below hb (by go_size)
 have F3 := ((Bk.new (r := w4.heap.size + 1) (cs := [.int .i64 0, .int .i64 0]) _ 27 (by simp))).below hb (by go_size)
 clear hb
 have s5 : w.heap.size ≤ w5.heap.size := B5.size
 clear X_c X_f X_l Y_c Y_f Y_l F1_c F1_f F1_l F2_c F2_f F2_l
 obtain ⟨X_c, X_f, X_l⟩ := id X
 obtain ⟨Y_c, Y_f, Y_l⟩ := id Y
 obtain ⟨F1_c, F1_f, F1_l⟩ := id F1
 obtain ⟨F2_c, F2_f, F2_l⟩ := id F2
 obtain ⟨P_c, P_f, P_l⟩ := id P
 obtain ⟨F3_c, F3_f, F3_l⟩ := id F3
 go_wp2_with fail
 refine (CC.out _ _ _ (((RP.out.below (Below.refl _ _ |>.alloc (Nat.le_refl _) _) (Nat.le_refl _)).below (Below.refl _ _ |>.alloc (Nat.le_refl _) _) (Nat.le_refl _))) (((K.out.below (Below.refl _ _ |>.alloc (Nat.le_refl _) _) (Nat.le_refl _)).below (Below.refl _ _ |>.alloc (Nat.le_refl _) _) (Nat.le_refl _)))).mono ?_
 rintro e w6 ⟨rfl, hb⟩
 have B6 : Below w.heap.size w w6 := bcall (by go_grown) hb (by go_size)
 have q6 : w5.heap.size + 2 ≤ w6.heap.size := by have z := hb.size; (try simp only [World.size_alloc] at z); omega
 replace H := Lib.hid (((H.out.below (Below.refl _ _ |>.alloc (Nat.le_refl _) _) (Nat.le_refl _)).below (Below.refl _ _ |>.alloc (Nat.le_refl _) _) (Nat.le_refl _)).below hb (Nat.le_refl _))
 replace K := Lib.hid (((K.out.below (Below.refl _ _ |>.alloc (Nat.le_refl _) _) (Nat.le_refl _)).below (Below.refl _ _ |>.alloc (Nat.le_refl _) _) (Nat.le_refl _)).below hb (Nat.le_refl _))
 replace RP := Lib.hid (((RP.out.below (Below.refl _ _ |>.alloc (Nat.le_refl _) _) (Nat.le_refl _)).below (Below.refl _ _ |>.alloc (Nat.le_refl _) _) (Nat.le_refl _)).below hb (Nat.le_refl _))
 replace X := (((X.alloc _).alloc _)).below hb (by go_size)
 replace Y := (((Y.alloc _).alloc _)).below hb (by go_size)
 replace F1 := (((F1.alloc _).alloc _)).below hb (by go_size)
 replace F2 := (((F2.alloc _).alloc _)).below hb (by go_size)
 replace P := (((P.alloc _).alloc _)).below hb (by go_size)
 replace F3 := (((F3.alloc _).alloc _)).below hb (by go_size)
 have NX := (((Bk.new (r := w5.heap.size) (cs := [.int .i64 nx.maj, .int .i64 nx.min, .int .i64 nx.pat, .slice an nx.pre.length cn]) _ 24 (by simp)).alloc _)).below hb (by go_size)
 have F4 := ((Bk.new (r := w5.heap.size + 1) (cs := [.int .i64 0, .int .i64 0]) _ 27 (by simp))).below hb (by go_size)
 clear hb
 have s6 : w.heap.size ≤ w6.heap.size := B6.size
 clear X_c X_f X_l Y_c Y_f Y_l F1_c F1_f F1_l F2_c F2_f F2_l P_c P_f P_l F3_c F3_f F3_l
 obtain ⟨X_c, X_f, X_l⟩ := id X
 obtain ⟨Y_c, Y_f, Y_l⟩ := id Y
 obtain ⟨F1_c, F1_f, F1_l⟩ := id F1
 obtain ⟨F2_c, F2_f, F2_l⟩ := id F2
 obtain ⟨P_c, P_f, P_l⟩ := id P
 obtain ⟨F3_c, F3_f, F3_l⟩ := id F3
 obtain ⟨NX_c, NX_f, NX_l⟩ := id NX
 obtain ⟨F4_c, F4_f, F4_l⟩ := id F4
 go_wp2_with fail
 refine (CE.out _ ((H.out.below (Below.refl _ _ |>.alloc (Nat.le_refl _) _) (Nat.le_refl _))) ((K.out.below (Below.refl _ _ |>.alloc (Nat.le_refl _) _) (Nat.le_refl _)))).mono ?_
 rintro e w7 ⟨rfl, hb⟩
 have B7 : Below w.heap.size w w7 := bcall (by go_grown) hb (by go_size)
 have q7 : w6.heap.size + 1 ≤ w7.heap.size := by have z := hb.size; (try simp only [World.size_alloc] at z); omega
 replace H := Lib.hid ((H.out.below (Below.refl _ _ |>.alloc (Nat.le_refl _) _) (Nat.le_refl _)).below hb (Nat.le_refl _))
 replace K := Lib.hid ((K.out.below (Below.refl _ _ |>.alloc (Nat.le_refl _) _) (Nat.le_refl _)).below hb (Nat.le_refl _))
 replace RP := Lib.hid ((RP.out.below (Below.refl _ _ |>.alloc (Nat.le_refl _) _) (Nat.le_refl _)).below hb (Nat.le_refl _))
 replace X := ((X.alloc _)).below hb (by go_size)
 replace Y := ((Y.alloc _)).below hb (by go_size)
 replace F1 := ((F1.alloc _)).below hb (by go_size)
 replace F2 := ((F2.alloc _)).below hb (by go_size)
 replace P := ((P.alloc _)).below hb (by go_size)
 replace F3 := ((F3.alloc _)).below hb (by go_size)
 replace NX := ((NX.alloc _)).below hb (by go_size)
 replace F4 := ((F4.alloc _)).below hb (by go_size)
 have F5 := ((Bk.new (r := w6.heap.size) (cs := [.int .i64 0, .int .i64 0]) _ 27 (by simp))).below hb (by go_size)
 clear hb
 have s7 : w.heap.size ≤ w7.heap.size := B7.size
 clear X_c X_f X_l Y_c Y_f Y_l F1_c F1_f F1_l F2_c F2_f F2_l P_c P_f P_l F3_c F3_f F3_l NX_c NX_f NX_l F4_c F4_f F4_l
 obtain ⟨X_c, X_f, X_l⟩ := id X
 obtain ⟨Y_c, Y_f, Y_l⟩ := id Y
 obtain ⟨F1_c, F1_f, F1_l⟩ := id F1
 obtain ⟨F2_c, F2_f, F2_l⟩ := id F2
 obtain ⟨P_c, P_f, P_l⟩ := id P
 obtain ⟨F3_c, F3_f, F3_l⟩ := id F3
 obtain ⟨NX_c, NX_f, NX_l⟩ := id NX
 obtain ⟨F4_c, F4_f, F4_l⟩ := id F4
 obtain ⟨F5_c, F5_f, F5_l⟩ := id F5
 cases bb <;> (go_wp2_with fail; go_ret; exact ⟨rfl, by go_grown⟩)
theorem TopExactRangesContainOneVersion_any (v x : Pl.Ver) (a b : Option Addr) (c d : Nat) (w : World) (h1 : VIn w v a c) (h2 : VIn w x b d) (E : Env w) :
 Calls Tryz.prog 3 #[verV v a c, verV x b d] w fun e w' => e = .returned (.bool true) ∧ Below w.heap.size w w' := by
 by_cases f : (Pl.vrF v).1 = 0
 · by_cases k : (Pl.vrF x).1 = 0
   · by_cases n : (Pl.vrF (Pl.verNext v)).1 = 0
     · exact exL_d v x a b c d w h1 h2 E (Pl.vr_zero f) (Pl.vr_zero k) n
     · exact exL_c v x a b c d w h1 h2 E (Pl.vr_zero f) (Pl.vr_zero k) n
   · exact exL_b v x a b c d w h1 h2 E _ _ k (Pl.vr_zero f) rfl
 · exact exL_a v x a b c d w h1 h2 E _ _ _ _ f rfl rfl
end Go.Proofs.YtolfgcoalihmgaaGreatDoor
