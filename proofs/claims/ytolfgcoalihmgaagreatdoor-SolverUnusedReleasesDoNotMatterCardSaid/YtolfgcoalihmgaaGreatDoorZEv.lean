/- The closed example of the laws of ranges holds. -/
import Derived.Test.YtolfgcoalihmgaaGreatDoorZDk
import Derived.Test.YtolfgcoalihmgaaGreatDoorZMOq
import Derived.Test.YtolfgcoalihmgaaGreatDoorZMBs
import Derived.Test.YtolfgcoalihmgaaGreatDoorZMDmf
import Derived.Test.YtolfgcoalihmgaaGreatDoorZMDo
import Derived.Test.YtolfgcoalihmgaaGreatDoorZMBf
namespace Go.Proofs.YtolfgcoalihmgaaGreatDoor
open Go.RowKit
structure RCalls (la lb lu li lp : List Pl.Ivl) : Prop where
 a : ∀ W, Calls Tryz.prog 69 #[verV ⟨1, 0, 0, []⟩ none 0, verV ⟨3, 0, 0, []⟩ none 0] W (RRng la W)
 b : ∀ W, Calls Tryz.prog 69 #[verV ⟨2, 0, 0, []⟩ none 0, verV ⟨4, 0, 0, []⟩ none 0] W (RRng lb W)
 u : ∀ W a c b d, RIn W la a c → RIn W lb b d → Calls Tryz.prog 22 #[.agg #[.slice a la.length c], .agg #[.slice b lb.length d]] W (RRngF lu (0, 0) W)
 i : ∀ W a c b d, RIn W la a c → RIn W lb b d → Calls Tryz.prog 23 #[.agg #[.slice a la.length c], .agg #[.slice b lb.length d]] W (RRngF li (0, 0) W)
 c : ∀ W, Calls Tryz.prog 24 #[.agg #[.slice none 0 0]] W (RRngF (Pl.upR Pl.lowV) (0, 0) W)
 p : ∀ W, Env W → Calls Tryz.prog 15 #[.string ⟨#[94, 49, 46, 50, 46, 48]⟩] W (RRngF lp (0, 0) W)
 s : ∀ W a c, RIn W la a c → Env W → Calls Tryz.prog 31 #[.agg #[.slice a la.length c]] W fun e w' => e = .returned (.tuple #[.string ⟨#[62, 61, 49, 46, 48, 46, 48, 32, 60, 51, 46, 48, 46, 48]⟩, .agg #[.int .i64 0, .int .i64 0]]) ∧ Below W.heap.size W w'
 x : ∀ W a c, RIn W la a c → Calls Tryz.prog 17 #[.agg #[.slice a la.length c], verV ⟨1, 0, 0, []⟩ none 0] W fun e w' => e = .returned (.tuple #[.bool true, .agg #[.int .i64 0, .int .i64 0]]) ∧ Below W.heap.size W w'
 y : ∀ W a c, RIn W la a c → Calls Tryz.prog 17 #[.agg #[.slice a la.length c], verV ⟨3, 0, 0, []⟩ none 0] W fun e w' => e = .returned (.tuple #[.bool false, .agg #[.int .i64 0, .int .i64 0]]) ∧ Below W.heap.size W w'
 d1 : ∀ W, Calls Tryz.prog 69 #[verV ⟨1, 0, 0, []⟩ none 0, verV ⟨4, 0, 0, []⟩ none 0] W (RRng lu W)
 d2 : ∀ W, Calls Tryz.prog 69 #[verV ⟨2, 0, 0, []⟩ none 0, verV ⟨3, 0, 0, []⟩ none 0] W (RRng li W)
 d4 : ∀ W b, VIn W ⟨2, 0, 0, [⟨#[48]⟩]⟩ b 1 → Calls Tryz.prog 69 #[verV ⟨1, 2, 0, []⟩ none 0, verV ⟨2, 0, 0, [⟨#[48]⟩]⟩ b 1] W (RRng lp W)
theorem same_self (r : List Pl.Ivl) (a b : Option Addr) (c d : Nat) (w : World) (h1 : RIn w r a c) (h2 : RIn w r b d) :
 Calls Tryz.prog 27 #[.agg #[.slice a r.length c], .agg #[.slice b r.length d]] w fun e w' => e = .returned (.bool true) ∧ Below w.heap.size w w' :=
 (SameRange_any r r a b c d w h1 h2).mono fun e w' ⟨⟨g, he, hg⟩, hb⟩ => ⟨by rw [he, hg.2 rfl], hb⟩
set_option maxRecDepth 100000 in
set_option maxHeartbeats 16000000 in
theorem ranges_core (la lb lu li lp : List Pl.Ivl) (w : World) (E : Env w) (RC : RCalls la lb lu li lp) : Calls Tryz.prog 19 #[] w fun e w' => e = .returned (.bool true) ∧ Below w.heap.size w w' := by
 have HE := Hd E
 have HC := Hd RC
 clear E RC
 go_enter Tryz.func19, Tryz.ntmps19
 have B0 := brl w
 go_wp2_with (first | (go_at_call 71; refine (pre_at _ _ _ _ _).mono ?_; rintro e w' ⟨rfl, rfl⟩) | (go_at_call 70; refine (ver_at _ _ _ _).mono ?_; rintro e w' ⟨rfl, rfl⟩))
 refine (HC.out.a _).mono ?_
 rintro e w1 ⟨oa, ca, rfl, RA, hb⟩
 replace RA := Hd RA
 have B1 := bcm w hb
 have q1 : w.heap.size + 2 ≤ w1.heap.size := qle hb
 clear hb
 have s1 := B1.size
 go_wp2_with (first | (go_at_call 71; refine (pre_at _ _ _ _ _).mono ?_; rintro e w' ⟨rfl, rfl⟩) | (go_at_call 70; refine (ver_at _ _ _ _).mono ?_; rintro e w' ⟨rfl, rfl⟩))
 refine (HC.out.b _).mono ?_
 rintro e w2 ⟨ob, cb, rfl, RB, hb⟩
 replace RB := Hd RB
 have B2 := bcm w hb
 have q2 : w1.heap.size + 3 ≤ w2.heap.size := qle hb
 replace RA := Hd ((((RA.out.al _).al _).al _).bl hb)
 have X := ((((bkn w1.heap.size [.slice oa la.length ca] 33).alloc _).alloc _)).bw hb
 clear hb
 have s2 := B2.size
 have ⟨Xc, Xf, Xl⟩ := X
 go_wp2_with (first | (go_at_call 71; refine (pre_at _ _ _ _ _).mono ?_; rintro e w' ⟨rfl, rfl⟩) | (go_at_call 70; refine (ver_at _ _ _ _).mono ?_; rintro e w' ⟨rfl, rfl⟩))
 refine (HC.out.u _ _ _ _ _ ((RA.out.al _)) ((RB.out.al _))).mono ?_
 rintro e w3 ⟨ou, cu, rfl, RU, hb⟩
 replace RU := Hd RU
 have B3 := bcm w hb
 have q3 : w2.heap.size + 1 ≤ w3.heap.size := qle hb
 replace RA := Hd ((RA.out.al _).bl hb)
 replace RB := Hd ((RB.out.al _).bl hb)
 replace X := ((X.alloc _)).bw hb
 have Y := ((bkn w2.heap.size [.slice ob lb.length cb] 33)).bw hb
 clear hb
 have s3 := B3.size
 clear Xc Xf Xl
 have ⟨Xc, Xf, Xl⟩ := X
 have ⟨Yc, Yf, Yl⟩ := Y
 go_wp2_with (first | (go_at_call 71; refine (pre_at _ _ _ _ _).mono ?_; rintro e w' ⟨rfl, rfl⟩) | (go_at_call 70; refine (ver_at _ _ _ _).mono ?_; rintro e w' ⟨rfl, rfl⟩))
 refine (HC.out.i _ _ _ _ _ (((RA.out.al _).al _)) (((RB.out.al _).al _))).mono ?_
 rintro e w4 ⟨oi, ci, rfl, RI, hb⟩
 replace RI := Hd RI
 have B4 := bcm w hb
 have q4 : w3.heap.size + 2 ≤ w4.heap.size := qle hb
 replace RA := Hd (((RA.out.al _).al _).bl hb)
 replace RB := Hd (((RB.out.al _).al _).bl hb)
 replace RU := Hd (((RU.out.al _).al _).bl hb)
 replace X := (((X.alloc _).alloc _)).bw hb
 replace Y := (((Y.alloc _).alloc _)).bw hb
 have U := (((bkn w3.heap.size [.slice ou lu.length cu] 33).alloc _)).bw hb
 have F1 := ((bkn (w3.heap.size + 1) [.int .i64 0, .int .i64 0] 27)).bw hb
 clear hb
 have s4 := B4.size
 clear Xc Xf Xl Yc Yf Yl
 have ⟨Xc, Xf, Xl⟩ := X
 have ⟨Yc, Yf, Yl⟩ := Y
 have ⟨Uc, Uf, Ul⟩ := U
 have ⟨F1c, F1f, F1l⟩ := F1
 clear RB Y
 go_wp2_with (first | (go_at_call 71; refine (pre_at _ _ _ _ _).mono ?_; rintro e w' ⟨rfl, rfl⟩) | (go_at_call 70; refine (ver_at _ _ _ _).mono ?_; rintro e w' ⟨rfl, rfl⟩))
 refine (HC.out.c _).mono ?_
 rintro e w5 ⟨od, cd, rfl, RD, hb⟩
 replace RD := Hd RD
 have B5 := bcm w hb
 have q5 : w4.heap.size + 2 ≤ w5.heap.size := qle hb
 replace RA := Hd (((RA.out.al _).al _).bl hb)
 replace RU := Hd (((RU.out.al _).al _).bl hb)
 replace RI := Hd (((RI.out.al _).al _).bl hb)
 replace X := (((X.alloc _).alloc _)).bw hb
 replace U := (((U.alloc _).alloc _)).bw hb
 replace F1 := (((F1.alloc _).alloc _)).bw hb
 have I := (((bkn w4.heap.size [.slice oi li.length ci] 33).alloc _)).bw hb
 have F2 := ((bkn (w4.heap.size + 1) [.int .i64 0, .int .i64 0] 27)).bw hb
 clear hb
 have s5 := B5.size
 clear Xc Xf Xl Yc Yf Yl Uc Uf Ul F1c F1f F1l
 have ⟨Xc, Xf, Xl⟩ := X
 have ⟨Uc, Uf, Ul⟩ := U
 have ⟨F1c, F1f, F1l⟩ := F1
 have ⟨Ic, If, Il⟩ := I
 have ⟨F2c, F2f, F2l⟩ := F2
 go_wp2_with (first | (go_at_call 71; refine (pre_at _ _ _ _ _).mono ?_; rintro e w' ⟨rfl, rfl⟩) | (go_at_call 70; refine (ver_at _ _ _ _).mono ?_; rintro e w' ⟨rfl, rfl⟩))
 have B6 : Below w.heap.size w ((w5.alloc (.cells #[.slice od (Pl.upR Pl.lowV).length cd] 33)).alloc (.cells #[.int .i64 0, .int .i64 0] 27)) := by go_grown
 have q6 : w5.heap.size + 2 ≤ ((w5.alloc (.cells #[.slice od (Pl.upR Pl.lowV).length cd] 33)).alloc (.cells #[.int .i64 0, .int .i64 0] 27)).heap.size := by simp only [World.size_alloc]; omega
 replace RA := Hd ((RA.out.al (.cells #[.slice od (Pl.upR Pl.lowV).length cd] 33)).al (.cells #[.int .i64 0, .int .i64 0] 27))
 replace RU := Hd ((RU.out.al (.cells #[.slice od (Pl.upR Pl.lowV).length cd] 33)).al (.cells #[.int .i64 0, .int .i64 0] 27))
 replace RI := Hd ((RI.out.al (.cells #[.slice od (Pl.upR Pl.lowV).length cd] 33)).al (.cells #[.int .i64 0, .int .i64 0] 27))
 replace RD := Hd ((RD.out.al (.cells #[.slice od (Pl.upR Pl.lowV).length cd] 33)).al (.cells #[.int .i64 0, .int .i64 0] 27))
 replace X := ((X.alloc (.cells #[.slice od (Pl.upR Pl.lowV).length cd] 33)).alloc (.cells #[.int .i64 0, .int .i64 0] 27))
 replace U := ((U.alloc (.cells #[.slice od (Pl.upR Pl.lowV).length cd] 33)).alloc (.cells #[.int .i64 0, .int .i64 0] 27))
 replace F1 := ((F1.alloc (.cells #[.slice od (Pl.upR Pl.lowV).length cd] 33)).alloc (.cells #[.int .i64 0, .int .i64 0] 27))
 replace I := ((I.alloc (.cells #[.slice od (Pl.upR Pl.lowV).length cd] 33)).alloc (.cells #[.int .i64 0, .int .i64 0] 27))
 replace F2 := ((F2.alloc (.cells #[.slice od (Pl.upR Pl.lowV).length cd] 33)).alloc (.cells #[.int .i64 0, .int .i64 0] 27))
 have D := ((Bk.new (r := w5.heap.size) (cs := [.slice od (Pl.upR Pl.lowV).length cd]) w5 33 (by simp)).alloc (.cells #[.int .i64 0, .int .i64 0] 27))
 have F3 := (Bk.new (r := w5.heap.size + 1) (cs := [.int .i64 0, .int .i64 0]) (w5.alloc (.cells #[.slice od (Pl.upR Pl.lowV).length cd] 33)) 27 (by simp))
 clear Xc Xf Xl Uc Uf Ul F1c F1f F1l Ic If Il F2c F2f F2l
 generalize ((w5.alloc (.cells #[.slice od (Pl.upR Pl.lowV).length cd] 33)).alloc (.cells #[.int .i64 0, .int .i64 0] 27)) = w6 at *
 have s6 := B6.size
 have ⟨Xc, Xf, Xl⟩ := X
 have ⟨Uc, Uf, Ul⟩ := U
 have ⟨F1c, F1f, F1l⟩ := F1
 have ⟨Ic, If, Il⟩ := I
 have ⟨F2c, F2f, F2l⟩ := F2
 have ⟨Dc, Df, Dl⟩ := D
 have ⟨F3c, F3f, F3l⟩ := F3
 go_wp2_with (first | (go_at_call 71; refine (pre_at _ _ _ _ _).mono ?_; rintro e w' ⟨rfl, rfl⟩) | (go_at_call 70; refine (ver_at _ _ _ _).mono ?_; rintro e w' ⟨rfl, rfl⟩))
 refine (HC.out.p _ (by exact HE.out.bl B6)).mono ?_
 rintro e w7 ⟨op, cp, rfl, RP, hb⟩
 replace RP := Hd RP
 have B7 := bcm w hb
 have q7 : w6.heap.size ≤ w7.heap.size := qle hb
 replace RA := Hd (RA.out.bl hb)
 replace RU := Hd (RU.out.bl hb)
 replace RI := Hd (RI.out.bl hb)
 replace RD := Hd (RD.out.bl hb)
 replace X := X.bw hb
 replace U := U.bw hb
 replace F1 := F1.bw hb
 replace I := I.bw hb
 replace F2 := F2.bw hb
 replace D := D.bw hb
 replace F3 := F3.bw hb
 clear hb
 have s7 := B7.size
 clear Xc Xf Xl Uc Uf Ul F1c F1f F1l Ic If Il F2c F2f F2l Dc Df Dl F3c F3f F3l
 have ⟨Xc, Xf, Xl⟩ := X
 have ⟨Uc, Uf, Ul⟩ := U
 have ⟨F1c, F1f, F1l⟩ := F1
 have ⟨Ic, If, Il⟩ := I
 have ⟨F2c, F2f, F2l⟩ := F2
 have ⟨Dc, Df, Dl⟩ := D
 have ⟨F3c, F3f, F3l⟩ := F3
 go_wp2_with (first | (go_at_call 71; refine (pre_at _ _ _ _ _).mono ?_; rintro e w' ⟨rfl, rfl⟩) | (go_at_call 70; refine (ver_at _ _ _ _).mono ?_; rintro e w' ⟨rfl, rfl⟩))
 have B8 : Below w.heap.size w ((w7.alloc (.cells #[.slice op lp.length cp] 33)).alloc (.cells #[.int .i64 0, .int .i64 0] 27)) := by go_grown
 have q8 : w7.heap.size + 2 ≤ ((w7.alloc (.cells #[.slice op lp.length cp] 33)).alloc (.cells #[.int .i64 0, .int .i64 0] 27)).heap.size := by simp only [World.size_alloc]; omega
 replace RA := Hd ((RA.out.al (.cells #[.slice op lp.length cp] 33)).al (.cells #[.int .i64 0, .int .i64 0] 27))
 replace RU := Hd ((RU.out.al (.cells #[.slice op lp.length cp] 33)).al (.cells #[.int .i64 0, .int .i64 0] 27))
 replace RI := Hd ((RI.out.al (.cells #[.slice op lp.length cp] 33)).al (.cells #[.int .i64 0, .int .i64 0] 27))
 replace RD := Hd ((RD.out.al (.cells #[.slice op lp.length cp] 33)).al (.cells #[.int .i64 0, .int .i64 0] 27))
 replace RP := Hd ((RP.out.al (.cells #[.slice op lp.length cp] 33)).al (.cells #[.int .i64 0, .int .i64 0] 27))
 replace X := ((X.alloc (.cells #[.slice op lp.length cp] 33)).alloc (.cells #[.int .i64 0, .int .i64 0] 27))
 replace U := ((U.alloc (.cells #[.slice op lp.length cp] 33)).alloc (.cells #[.int .i64 0, .int .i64 0] 27))
 replace F1 := ((F1.alloc (.cells #[.slice op lp.length cp] 33)).alloc (.cells #[.int .i64 0, .int .i64 0] 27))
 replace I := ((I.alloc (.cells #[.slice op lp.length cp] 33)).alloc (.cells #[.int .i64 0, .int .i64 0] 27))
 replace F2 := ((F2.alloc (.cells #[.slice op lp.length cp] 33)).alloc (.cells #[.int .i64 0, .int .i64 0] 27))
 replace D := ((D.alloc (.cells #[.slice op lp.length cp] 33)).alloc (.cells #[.int .i64 0, .int .i64 0] 27))
 replace F3 := ((F3.alloc (.cells #[.slice op lp.length cp] 33)).alloc (.cells #[.int .i64 0, .int .i64 0] 27))
 have P := ((Bk.new (r := w7.heap.size) (cs := [.slice op lp.length cp]) w7 33 (by simp)).alloc (.cells #[.int .i64 0, .int .i64 0] 27))
 have F4 := (Bk.new (r := w7.heap.size + 1) (cs := [.int .i64 0, .int .i64 0]) (w7.alloc (.cells #[.slice op lp.length cp] 33)) 27 (by simp))
 clear Xc Xf Xl Uc Uf Ul F1c F1f F1l Ic If Il F2c F2f F2l Dc Df Dl F3c F3f F3l
 generalize ((w7.alloc (.cells #[.slice op lp.length cp] 33)).alloc (.cells #[.int .i64 0, .int .i64 0] 27)) = w8 at *
 have s8 := B8.size
 have ⟨Xc, Xf, Xl⟩ := X
 have ⟨Uc, Uf, Ul⟩ := U
 have ⟨F1c, F1f, F1l⟩ := F1
 have ⟨Ic, If, Il⟩ := I
 have ⟨F2c, F2f, F2l⟩ := F2
 have ⟨Dc, Df, Dl⟩ := D
 have ⟨F3c, F3f, F3l⟩ := F3
 have ⟨Pc, Pf, P_l⟩ := P
 have ⟨F4c, F4f, F4l⟩ := F4
 go_wp2_with (first | (go_at_call 71; refine (pre_at _ _ _ _ _).mono ?_; rintro e w' ⟨rfl, rfl⟩) | (go_at_call 70; refine (ver_at _ _ _ _).mono ?_; rintro e w' ⟨rfl, rfl⟩))
 refine (HC.out.s _ _ _ RA.out (by exact HE.out.bl B8)).mono ?_
 rintro e w9 ⟨rfl, hb⟩
 have B9 := bcm w hb
 have q9 : w8.heap.size ≤ w9.heap.size := qle hb
 replace RA := Hd (RA.out.bl hb)
 replace RU := Hd (RU.out.bl hb)
 replace RI := Hd (RI.out.bl hb)
 replace RD := Hd (RD.out.bl hb)
 replace RP := Hd (RP.out.bl hb)
 replace X := X.bw hb
 replace U := U.bw hb
 replace F1 := F1.bw hb
 replace I := I.bw hb
 replace F2 := F2.bw hb
 replace D := D.bw hb
 replace F3 := F3.bw hb
 replace P := P.bw hb
 replace F4 := F4.bw hb
 clear hb
 have s9 := B9.size
 clear Xc Xf Xl Uc Uf Ul F1c F1f F1l Ic If Il F2c F2f F2l Dc Df Dl F3c F3f F3l Pc Pf P_l F4c F4f F4l
 have ⟨Xc, Xf, Xl⟩ := X
 have ⟨Uc, Uf, Ul⟩ := U
 have ⟨F1c, F1f, F1l⟩ := F1
 have ⟨Ic, If, Il⟩ := I
 have ⟨F2c, F2f, F2l⟩ := F2
 have ⟨Dc, Df, Dl⟩ := D
 have ⟨F3c, F3f, F3l⟩ := F3
 have ⟨Pc, Pf, P_l⟩ := P
 have ⟨F4c, F4f, F4l⟩ := F4
 go_wp2_with (first | (go_at_call 71; refine (pre_at _ _ _ _ _).mono ?_; rintro e w' ⟨rfl, rfl⟩) | (go_at_call 70; refine (ver_at _ _ _ _).mono ?_; rintro e w' ⟨rfl, rfl⟩))
 have B10 : Below w.heap.size w (w9.alloc (.cells #[.int .i64 0, .int .i64 0] 27)) := by go_grown
 have q10 : w9.heap.size + 1 ≤ (w9.alloc (.cells #[.int .i64 0, .int .i64 0] 27)).heap.size := by simp only [World.size_alloc]; omega
 replace RA := Hd (RA.out.al (.cells #[.int .i64 0, .int .i64 0] 27))
 replace RU := Hd (RU.out.al (.cells #[.int .i64 0, .int .i64 0] 27))
 replace RI := Hd (RI.out.al (.cells #[.int .i64 0, .int .i64 0] 27))
 replace RD := Hd (RD.out.al (.cells #[.int .i64 0, .int .i64 0] 27))
 replace RP := Hd (RP.out.al (.cells #[.int .i64 0, .int .i64 0] 27))
 replace X := (X.alloc (.cells #[.int .i64 0, .int .i64 0] 27))
 replace U := (U.alloc (.cells #[.int .i64 0, .int .i64 0] 27))
 replace F1 := (F1.alloc (.cells #[.int .i64 0, .int .i64 0] 27))
 replace I := (I.alloc (.cells #[.int .i64 0, .int .i64 0] 27))
 replace F2 := (F2.alloc (.cells #[.int .i64 0, .int .i64 0] 27))
 replace D := (D.alloc (.cells #[.int .i64 0, .int .i64 0] 27))
 replace F3 := (F3.alloc (.cells #[.int .i64 0, .int .i64 0] 27))
 replace P := (P.alloc (.cells #[.int .i64 0, .int .i64 0] 27))
 replace F4 := (F4.alloc (.cells #[.int .i64 0, .int .i64 0] 27))
 have F5 := (Bk.new (r := w9.heap.size) (cs := [.int .i64 0, .int .i64 0]) w9 27 (by simp))
 clear Xc Xf Xl Uc Uf Ul F1c F1f F1l Ic If Il F2c F2f F2l Dc Df Dl F3c F3f F3l Pc Pf P_l F4c F4f F4l
 generalize (w9.alloc (.cells #[.int .i64 0, .int .i64 0] 27)) = w10 at *
 have s10 := B10.size
 have ⟨Xc, Xf, Xl⟩ := X
 have ⟨Uc, Uf, Ul⟩ := U
 have ⟨F1c, F1f, F1l⟩ := F1
 have ⟨Ic, If, Il⟩ := I
 have ⟨F2c, F2f, F2l⟩ := F2
 have ⟨Dc, Df, Dl⟩ := D
 have ⟨F3c, F3f, F3l⟩ := F3
 have ⟨Pc, Pf, P_l⟩ := P
 have ⟨F4c, F4f, F4l⟩ := F4
 have ⟨F5c, F5f, F5l⟩ := F5
 go_wp2_with (first | (go_at_call 71; refine (pre_at _ _ _ _ _).mono ?_; rintro e w' ⟨rfl, rfl⟩) | (go_at_call 70; refine (ver_at _ _ _ _).mono ?_; rintro e w' ⟨rfl, rfl⟩))
 have RAd := RA.out.below (B := w10.heap.size) (w' := w10.drew) (by go_grown) nle
 have Xd := X.drew
 have ⟨Xdc, _, Xdl⟩ := Xd
 refine wp_region_free [1, 2, 6] [0, 3, 4, 5, 7] [8]
  (fun i => [Hold.eq (.agg #[.slice oa la.length ca]), Hold.eq (verV ⟨1, 0, 0, []⟩ none 0), Hold.eq (.tuple #[.bool true, .agg #[.int .i64 0, .int .i64 0]]), Hold.eq (.tuple #[.bool true, .agg #[.int .i64 0, .int .i64 0]]), Hold.eq (.bool true), Hold.eq (.agg #[.int .i64 0, .int .i64 0]), Hold.box w10.drew.heap.size (.int .i64 0) (.int .i64 0), Hold.eq (.bool true)].getD i Hold.any) (by kernel_rfl) (by kernel_rfl) ?_ ?_
 · refine ⟨stepOb_ca (by kernel_rfl) (by kernel_rfl) ?_, stepOb_ca (by kernel_rfl) (by kernel_rfl) ?_, stepOb_mk (by kernel_rfl) (by kernel_rfl) ?_, stepOb_rd (by kernel_rfl) (by kernel_rfl) ?_, stepOb_rd (by kernel_rfl) (by kernel_rfl) ?_, stepOb_rd (by kernel_rfl) (by kernel_rfl) ?_, stepOb_rd (by kernel_rfl) (by kernel_rfl) ?_, stepOb_rd (by kernel_rfl) (by kernel_rfl) ?_, trivial⟩
   all_goals (intro A x wx F hbx hd; replace hbx := Hd hbx)
   · refine ⟨_, 70, #[.int .i64 1, .int .i64 0, .int .i64 0], rfl, by simp [go_sem], ?_⟩
     refine (ver_at _ _ _ _).mono ?_
     rintro e w' ⟨rfl, rfl⟩
     exact ⟨_, rfl, (Below.refl _ _).alloc nle _, rfl⟩
   · have e0 := F.get (d := 52) 0 rfl rfl (by simp) (hd 0 rfl)
     have e1 := F.get (d := 53) 1 rfl rfl (by simp) (hd 1 rfl)
     refine ⟨_, 17, #[.agg #[.slice oa la.length ca], verV ⟨1, 0, 0, []⟩ none 0], rfl, by simp [go_sem, e0.1, e1.1], ?_⟩
     refine (HC.out.x _ _ _ (RAd.bl hbx.out)).mono ?_
     rintro e w' ⟨rfl, hb'⟩
     exact ⟨_, rfl, hb', rfl⟩
   · exact ⟨_, .pointer (some ⟨wx.heap.size, 0, none⟩), wx.alloc (.cells #[.int .i64 0, .int .i64 0] 27), rfl, by simp [go_sem], Below.ext ((Below.refl _ _).alloc nle _), hbx.out.alloc hbx.out.size _, _, rfl, hbx.out.size, Box2.new _ _ _ _⟩
   · have e0 := F.was (d := 1) (v := .pointer (some ⟨w1.heap.size, 0, none⟩)) rfl rfl
     have g0 := hbx.out
     refine ⟨_, _, rfl, fun w' hx => ?_, rfl⟩
     have r0 := hx.cell _ _ ((g0.cell (p := ⟨w1.heap.size, 0, none⟩) Xdl).trans (Xd.c 0))
     simp [go_sem, e0.1, r0]
   · have e0 := F.get (d := 54) 2 rfl rfl (by simp) (hd 2 rfl)
     exact ⟨_, _, rfl, fun w' hx => by simp [go_sem, e0.1], rfl⟩
   · have e0 := F.get (d := 51) 3 rfl rfl (by simp) (hd 3 rfl)
     exact ⟨_, _, rfl, fun w' hx => by simp [go_sem, e0.1], rfl⟩
   · have e0 := F.get (d := 51) 3 rfl rfl (by simp) (hd 3 rfl)
     exact ⟨_, _, rfl, fun w' hx => by simp [go_sem, e0.1], rfl⟩
   · have e0 := F.get (d := 55) 4 rfl rfl (by simp) (hd 4 rfl)
     exact ⟨_, _, rfl, fun w' hx => by simp [go_sem, e0.1], rfl⟩
 intro x wx hbx hI
 obtain ⟨-, -, ⟨r8, h6, hr8, X2⟩, -, -, -, h5, h7, -⟩ := hI
 have h5 : x 5 = .agg #[.int .i64 0, .int .i64 0] := h5
 have h7 : x 7 = .bool true := h7
 obtain ⟨c0, c1, f0, f1, l1⟩ := X2
 simp only [actOf, Act.put, List.setIfInBounds_toArray, List.set_cons_succ, List.set_cons_zero, Nat.zero_add, Nat.reduceAdd, h5, h6, h7]
 refine wpI_st rfl rfl rfl (by simp [go_sem, c0, c1, f0, f1]; rfl) ?_
 refine wpI_nil ?_
 simp only [Act.put]
 have hr : w10.heap.size ≤ r8 := hr8
 have Q8 := (Box2.mk c0 c1 f0 f1 l1).set (.int .i64 0) (.int .i64 0)
 have hbk : Below w10.heap.size w10 ((wx.setCell ⟨r8, 0, none⟩ (.int .i64 0)).setCell ⟨r8, 1, none⟩ (.int .i64 0)) := ((bcall (B := w10.heap.size) (by go_grown) hbx nle).setCell (p := ⟨r8, 0, none⟩) hr _).setCell (p := ⟨r8, 1, none⟩) hr _
 clear c0 c1 f0 f1 l1 h5 h6 h7 hbx RAd Xd Xdc Xdl hr8
 generalize (wx.setCell ⟨r8, 0, none⟩ (.int .i64 0)).setCell ⟨r8, 1, none⟩ (.int .i64 0) = wy8 at *
 clear Xc Xf Xl Uc Uf Ul F1c F1f F1l Ic If Il F2c F2f F2l Dc Df Dl F3c F3f F3l Pc Pf P_l F4c F4f F4l F5c F5f F5l
 have B11 : Below w.heap.size w wy8 := bcall B10 hbk B10.size
 have q11 : w10.heap.size ≤ wy8.heap.size := hbk.size
 replace RA := Hd (RA.out.bl hbk)
 replace RU := Hd (RU.out.bl hbk)
 replace RI := Hd (RI.out.bl hbk)
 replace RD := Hd (RD.out.bl hbk)
 replace RP := Hd (RP.out.bl hbk)
 replace X := X.below hbk X.lt
 replace U := U.below hbk U.lt
 replace F1 := F1.below hbk F1.lt
 replace I := I.below hbk I.lt
 replace F2 := F2.below hbk F2.lt
 replace D := D.below hbk D.lt
 replace F3 := F3.below hbk F3.lt
 replace P := P.below hbk P.lt
 replace F4 := F4.below hbk F4.lt
 replace F5 := F5.below hbk F5.lt
 clear hbk hr
 generalize wy8 = w11 at *
 have s11 := B11.size
 have ⟨Xc, Xf, Xl⟩ := X
 have ⟨Uc, Uf, Ul⟩ := U
 have ⟨F1c, F1f, F1l⟩ := F1
 have ⟨Ic, If, Il⟩ := I
 have ⟨F2c, F2f, F2l⟩ := F2
 have ⟨Dc, Df, Dl⟩ := D
 have ⟨F3c, F3f, F3l⟩ := F3
 have ⟨Pc, Pf, P_l⟩ := P
 have ⟨F4c, F4f, F4l⟩ := F4
 have ⟨F5c, F5f, F5l⟩ := F5
 go_wp2_with (first | (go_at_call 71; refine (pre_at _ _ _ _ _).mono ?_; rintro e w' ⟨rfl, rfl⟩) | (go_at_call 70; refine (ver_at _ _ _ _).mono ?_; rintro e w' ⟨rfl, rfl⟩))
 have RAd := RA.out.below (B := w11.heap.size) (w' := w11.drew) (by go_grown) nle
 have Xd := X.drew
 have ⟨Xdc, _, Xdl⟩ := Xd
 refine wp_region_free [1, 2, 6] [0, 3, 4, 5, 7] [8]
  (fun i => [Hold.eq (.agg #[.slice oa la.length ca]), Hold.eq (verV ⟨3, 0, 0, []⟩ none 0), Hold.eq (.tuple #[.bool false, .agg #[.int .i64 0, .int .i64 0]]), Hold.eq (.tuple #[.bool false, .agg #[.int .i64 0, .int .i64 0]]), Hold.eq (.bool false), Hold.eq (.agg #[.int .i64 0, .int .i64 0]), Hold.box w11.drew.heap.size (.int .i64 0) (.int .i64 0), Hold.eq (.bool false)].getD i Hold.any) (by kernel_rfl) (by kernel_rfl) ?_ ?_
 · refine ⟨stepOb_ca (by kernel_rfl) (by kernel_rfl) ?_, stepOb_ca (by kernel_rfl) (by kernel_rfl) ?_, stepOb_mk (by kernel_rfl) (by kernel_rfl) ?_, stepOb_rd (by kernel_rfl) (by kernel_rfl) ?_, stepOb_rd (by kernel_rfl) (by kernel_rfl) ?_, stepOb_rd (by kernel_rfl) (by kernel_rfl) ?_, stepOb_rd (by kernel_rfl) (by kernel_rfl) ?_, stepOb_rd (by kernel_rfl) (by kernel_rfl) ?_, trivial⟩
   all_goals (intro A x wx F hbx hd; replace hbx := Hd hbx)
   · refine ⟨_, 70, #[.int .i64 3, .int .i64 0, .int .i64 0], rfl, by simp [go_sem], ?_⟩
     refine (ver_at _ _ _ _).mono ?_
     rintro e w' ⟨rfl, rfl⟩
     exact ⟨_, rfl, (Below.refl _ _).alloc nle _, rfl⟩
   · have e0 := F.get (d := 58) 0 rfl rfl (by simp) (hd 0 rfl)
     have e1 := F.get (d := 59) 1 rfl rfl (by simp) (hd 1 rfl)
     refine ⟨_, 17, #[.agg #[.slice oa la.length ca], verV ⟨3, 0, 0, []⟩ none 0], rfl, by simp [go_sem, e0.1, e1.1], ?_⟩
     refine (HC.out.y _ _ _ (RAd.bl hbx.out)).mono ?_
     rintro e w' ⟨rfl, hb'⟩
     exact ⟨_, rfl, hb', rfl⟩
   · exact ⟨_, .pointer (some ⟨wx.heap.size, 0, none⟩), wx.alloc (.cells #[.int .i64 0, .int .i64 0] 27), rfl, by simp [go_sem], Below.ext ((Below.refl _ _).alloc nle _), hbx.out.alloc hbx.out.size _, _, rfl, hbx.out.size, Box2.new _ _ _ _⟩
   · have e0 := F.was (d := 1) (v := .pointer (some ⟨w1.heap.size, 0, none⟩)) rfl rfl
     have g0 := hbx.out
     refine ⟨_, _, rfl, fun w' hx => ?_, rfl⟩
     have r0 := hx.cell _ _ ((g0.cell (p := ⟨w1.heap.size, 0, none⟩) Xdl).trans (Xd.c 0))
     simp [go_sem, e0.1, r0]
   · have e0 := F.get (d := 60) 2 rfl rfl (by simp) (hd 2 rfl)
     exact ⟨_, _, rfl, fun w' hx => by simp [go_sem, e0.1], rfl⟩
   · have e0 := F.get (d := 57) 3 rfl rfl (by simp) (hd 3 rfl)
     exact ⟨_, _, rfl, fun w' hx => by simp [go_sem, e0.1], rfl⟩
   · have e0 := F.get (d := 57) 3 rfl rfl (by simp) (hd 3 rfl)
     exact ⟨_, _, rfl, fun w' hx => by simp [go_sem, e0.1], rfl⟩
   · have e0 := F.get (d := 61) 4 rfl rfl (by simp) (hd 4 rfl)
     exact ⟨_, _, rfl, fun w' hx => by simp [go_sem, e0.1], rfl⟩
 intro x wx hbx hI
 obtain ⟨-, -, ⟨r9, h6, hr9, X2⟩, -, -, -, h5, h7, -⟩ := hI
 have h5 : x 5 = .agg #[.int .i64 0, .int .i64 0] := h5
 have h7 : x 7 = .bool false := h7
 obtain ⟨c0, c1, f0, f1, l1⟩ := X2
 simp only [actOf, Act.put, List.setIfInBounds_toArray, List.set_cons_succ, List.set_cons_zero, Nat.zero_add, Nat.reduceAdd, h5, h6, h7]
 refine wpI_st rfl rfl rfl (by simp [go_sem, c0, c1, f0, f1]; rfl) ?_
 refine wpI_nil ?_
 simp only [Act.put]
 have hr : w11.heap.size ≤ r9 := hr9
 have Q9 := (Box2.mk c0 c1 f0 f1 l1).set (.int .i64 0) (.int .i64 0)
 have hbk : Below w11.heap.size w11 ((wx.setCell ⟨r9, 0, none⟩ (.int .i64 0)).setCell ⟨r9, 1, none⟩ (.int .i64 0)) := ((bcall (B := w11.heap.size) (by go_grown) hbx nle).setCell (p := ⟨r9, 0, none⟩) hr _).setCell (p := ⟨r9, 1, none⟩) hr _
 clear c0 c1 f0 f1 l1 h5 h6 h7 hbx RAd Xd Xdc Xdl hr9
 generalize (wx.setCell ⟨r9, 0, none⟩ (.int .i64 0)).setCell ⟨r9, 1, none⟩ (.int .i64 0) = wy9 at *
 replace Q8 := Q8.below hbk Q8.lt
 clear Xc Xf Xl Uc Uf Ul F1c F1f F1l Ic If Il F2c F2f F2l Dc Df Dl F3c F3f F3l Pc Pf P_l F4c F4f F4l F5c F5f F5l
 have B12 : Below w.heap.size w wy9 := bcall B11 hbk B11.size
 have q12 : w11.heap.size ≤ wy9.heap.size := hbk.size
 replace RA := Hd (RA.out.bl hbk)
 replace RU := Hd (RU.out.bl hbk)
 replace RI := Hd (RI.out.bl hbk)
 replace RD := Hd (RD.out.bl hbk)
 replace RP := Hd (RP.out.bl hbk)
 replace X := X.below hbk X.lt
 replace U := U.below hbk U.lt
 replace F1 := F1.below hbk F1.lt
 replace I := I.below hbk I.lt
 replace F2 := F2.below hbk F2.lt
 replace D := D.below hbk D.lt
 replace F3 := F3.below hbk F3.lt
 replace P := P.below hbk P.lt
 replace F4 := F4.below hbk F4.lt
 replace F5 := F5.below hbk F5.lt
 clear hbk hr
 generalize wy9 = w12 at *
 have s12 := B12.size
 have ⟨Xc, Xf, Xl⟩ := X
 have ⟨Uc, Uf, Ul⟩ := U
 have ⟨F1c, F1f, F1l⟩ := F1
 have ⟨Ic, If, Il⟩ := I
 have ⟨F2c, F2f, F2l⟩ := F2
 have ⟨Dc, Df, Dl⟩ := D
 have ⟨F3c, F3f, F3l⟩ := F3
 have ⟨Pc, Pf, P_l⟩ := P
 have ⟨F4c, F4f, F4l⟩ := F4
 have ⟨F5c, F5f, F5l⟩ := F5
 obtain ⟨p0, p1, -, -, p4⟩ := Q8
 obtain ⟨z0, z1, -, -, z4⟩ := Q9
 go_wp2_with (first | (go_at_call 71; refine (pre_at _ _ _ _ _).mono ?_; rintro e w' ⟨rfl, rfl⟩) | (go_at_call 70; refine (ver_at _ _ _ _).mono ?_; rintro e w' ⟨rfl, rfl⟩))
 clear p0 p1 p4 z0 z1 z4
 have B13 : Below w.heap.size w ((((w12.alloc (.cells #[.int .i64 0, .int .i64 0, .int .i64 0, .slice (some ⟨w12.heap.size + 1, 0, none⟩) 1 1] 24)).alloc (.cells #[.string ⟨#[48]⟩] 9)).alloc (.cells #[.int .i64 0, .int .i64 0, .int .i64 0, .slice (some ⟨w12.heap.size + 1, 0, none⟩) 1 1, .int .i64 0, .int .i64 0, .int .i64 0, .slice none 0 0, .bool true] 101)).alloc (.cells #[.slice (some ⟨w12.heap.size + 1 + 1, 0, none⟩) 1 1] 33)) := by go_grown
 have q13 : w12.heap.size + 4 ≤ ((((w12.alloc (.cells #[.int .i64 0, .int .i64 0, .int .i64 0, .slice (some ⟨w12.heap.size + 1, 0, none⟩) 1 1] 24)).alloc (.cells #[.string ⟨#[48]⟩] 9)).alloc (.cells #[.int .i64 0, .int .i64 0, .int .i64 0, .slice (some ⟨w12.heap.size + 1, 0, none⟩) 1 1, .int .i64 0, .int .i64 0, .int .i64 0, .slice none 0 0, .bool true] 101)).alloc (.cells #[.slice (some ⟨w12.heap.size + 1 + 1, 0, none⟩) 1 1] 33)).heap.size := by simp only [World.size_alloc]; omega
 replace RA := Hd ((((RA.out.al (.cells #[.int .i64 0, .int .i64 0, .int .i64 0, .slice (some ⟨w12.heap.size + 1, 0, none⟩) 1 1] 24)).al (.cells #[.string ⟨#[48]⟩] 9)).al (.cells #[.int .i64 0, .int .i64 0, .int .i64 0, .slice (some ⟨w12.heap.size + 1, 0, none⟩) 1 1, .int .i64 0, .int .i64 0, .int .i64 0, .slice none 0 0, .bool true] 101)).al (.cells #[.slice (some ⟨w12.heap.size + 1 + 1, 0, none⟩) 1 1] 33))
 replace RU := Hd ((((RU.out.al (.cells #[.int .i64 0, .int .i64 0, .int .i64 0, .slice (some ⟨w12.heap.size + 1, 0, none⟩) 1 1] 24)).al (.cells #[.string ⟨#[48]⟩] 9)).al (.cells #[.int .i64 0, .int .i64 0, .int .i64 0, .slice (some ⟨w12.heap.size + 1, 0, none⟩) 1 1, .int .i64 0, .int .i64 0, .int .i64 0, .slice none 0 0, .bool true] 101)).al (.cells #[.slice (some ⟨w12.heap.size + 1 + 1, 0, none⟩) 1 1] 33))
 replace RI := Hd ((((RI.out.al (.cells #[.int .i64 0, .int .i64 0, .int .i64 0, .slice (some ⟨w12.heap.size + 1, 0, none⟩) 1 1] 24)).al (.cells #[.string ⟨#[48]⟩] 9)).al (.cells #[.int .i64 0, .int .i64 0, .int .i64 0, .slice (some ⟨w12.heap.size + 1, 0, none⟩) 1 1, .int .i64 0, .int .i64 0, .int .i64 0, .slice none 0 0, .bool true] 101)).al (.cells #[.slice (some ⟨w12.heap.size + 1 + 1, 0, none⟩) 1 1] 33))
 replace RD := Hd ((((RD.out.al (.cells #[.int .i64 0, .int .i64 0, .int .i64 0, .slice (some ⟨w12.heap.size + 1, 0, none⟩) 1 1] 24)).al (.cells #[.string ⟨#[48]⟩] 9)).al (.cells #[.int .i64 0, .int .i64 0, .int .i64 0, .slice (some ⟨w12.heap.size + 1, 0, none⟩) 1 1, .int .i64 0, .int .i64 0, .int .i64 0, .slice none 0 0, .bool true] 101)).al (.cells #[.slice (some ⟨w12.heap.size + 1 + 1, 0, none⟩) 1 1] 33))
 replace RP := Hd ((((RP.out.al (.cells #[.int .i64 0, .int .i64 0, .int .i64 0, .slice (some ⟨w12.heap.size + 1, 0, none⟩) 1 1] 24)).al (.cells #[.string ⟨#[48]⟩] 9)).al (.cells #[.int .i64 0, .int .i64 0, .int .i64 0, .slice (some ⟨w12.heap.size + 1, 0, none⟩) 1 1, .int .i64 0, .int .i64 0, .int .i64 0, .slice none 0 0, .bool true] 101)).al (.cells #[.slice (some ⟨w12.heap.size + 1 + 1, 0, none⟩) 1 1] 33))
 replace X := ((((X.alloc (.cells #[.int .i64 0, .int .i64 0, .int .i64 0, .slice (some ⟨w12.heap.size + 1, 0, none⟩) 1 1] 24)).alloc (.cells #[.string ⟨#[48]⟩] 9)).alloc (.cells #[.int .i64 0, .int .i64 0, .int .i64 0, .slice (some ⟨w12.heap.size + 1, 0, none⟩) 1 1, .int .i64 0, .int .i64 0, .int .i64 0, .slice none 0 0, .bool true] 101)).alloc (.cells #[.slice (some ⟨w12.heap.size + 1 + 1, 0, none⟩) 1 1] 33))
 replace U := ((((U.alloc (.cells #[.int .i64 0, .int .i64 0, .int .i64 0, .slice (some ⟨w12.heap.size + 1, 0, none⟩) 1 1] 24)).alloc (.cells #[.string ⟨#[48]⟩] 9)).alloc (.cells #[.int .i64 0, .int .i64 0, .int .i64 0, .slice (some ⟨w12.heap.size + 1, 0, none⟩) 1 1, .int .i64 0, .int .i64 0, .int .i64 0, .slice none 0 0, .bool true] 101)).alloc (.cells #[.slice (some ⟨w12.heap.size + 1 + 1, 0, none⟩) 1 1] 33))
 replace F1 := ((((F1.alloc (.cells #[.int .i64 0, .int .i64 0, .int .i64 0, .slice (some ⟨w12.heap.size + 1, 0, none⟩) 1 1] 24)).alloc (.cells #[.string ⟨#[48]⟩] 9)).alloc (.cells #[.int .i64 0, .int .i64 0, .int .i64 0, .slice (some ⟨w12.heap.size + 1, 0, none⟩) 1 1, .int .i64 0, .int .i64 0, .int .i64 0, .slice none 0 0, .bool true] 101)).alloc (.cells #[.slice (some ⟨w12.heap.size + 1 + 1, 0, none⟩) 1 1] 33))
 replace I := ((((I.alloc (.cells #[.int .i64 0, .int .i64 0, .int .i64 0, .slice (some ⟨w12.heap.size + 1, 0, none⟩) 1 1] 24)).alloc (.cells #[.string ⟨#[48]⟩] 9)).alloc (.cells #[.int .i64 0, .int .i64 0, .int .i64 0, .slice (some ⟨w12.heap.size + 1, 0, none⟩) 1 1, .int .i64 0, .int .i64 0, .int .i64 0, .slice none 0 0, .bool true] 101)).alloc (.cells #[.slice (some ⟨w12.heap.size + 1 + 1, 0, none⟩) 1 1] 33))
 replace F2 := ((((F2.alloc (.cells #[.int .i64 0, .int .i64 0, .int .i64 0, .slice (some ⟨w12.heap.size + 1, 0, none⟩) 1 1] 24)).alloc (.cells #[.string ⟨#[48]⟩] 9)).alloc (.cells #[.int .i64 0, .int .i64 0, .int .i64 0, .slice (some ⟨w12.heap.size + 1, 0, none⟩) 1 1, .int .i64 0, .int .i64 0, .int .i64 0, .slice none 0 0, .bool true] 101)).alloc (.cells #[.slice (some ⟨w12.heap.size + 1 + 1, 0, none⟩) 1 1] 33))
 replace D := ((((D.alloc (.cells #[.int .i64 0, .int .i64 0, .int .i64 0, .slice (some ⟨w12.heap.size + 1, 0, none⟩) 1 1] 24)).alloc (.cells #[.string ⟨#[48]⟩] 9)).alloc (.cells #[.int .i64 0, .int .i64 0, .int .i64 0, .slice (some ⟨w12.heap.size + 1, 0, none⟩) 1 1, .int .i64 0, .int .i64 0, .int .i64 0, .slice none 0 0, .bool true] 101)).alloc (.cells #[.slice (some ⟨w12.heap.size + 1 + 1, 0, none⟩) 1 1] 33))
 replace F3 := ((((F3.alloc (.cells #[.int .i64 0, .int .i64 0, .int .i64 0, .slice (some ⟨w12.heap.size + 1, 0, none⟩) 1 1] 24)).alloc (.cells #[.string ⟨#[48]⟩] 9)).alloc (.cells #[.int .i64 0, .int .i64 0, .int .i64 0, .slice (some ⟨w12.heap.size + 1, 0, none⟩) 1 1, .int .i64 0, .int .i64 0, .int .i64 0, .slice none 0 0, .bool true] 101)).alloc (.cells #[.slice (some ⟨w12.heap.size + 1 + 1, 0, none⟩) 1 1] 33))
 replace P := ((((P.alloc (.cells #[.int .i64 0, .int .i64 0, .int .i64 0, .slice (some ⟨w12.heap.size + 1, 0, none⟩) 1 1] 24)).alloc (.cells #[.string ⟨#[48]⟩] 9)).alloc (.cells #[.int .i64 0, .int .i64 0, .int .i64 0, .slice (some ⟨w12.heap.size + 1, 0, none⟩) 1 1, .int .i64 0, .int .i64 0, .int .i64 0, .slice none 0 0, .bool true] 101)).alloc (.cells #[.slice (some ⟨w12.heap.size + 1 + 1, 0, none⟩) 1 1] 33))
 replace F4 := ((((F4.alloc (.cells #[.int .i64 0, .int .i64 0, .int .i64 0, .slice (some ⟨w12.heap.size + 1, 0, none⟩) 1 1] 24)).alloc (.cells #[.string ⟨#[48]⟩] 9)).alloc (.cells #[.int .i64 0, .int .i64 0, .int .i64 0, .slice (some ⟨w12.heap.size + 1, 0, none⟩) 1 1, .int .i64 0, .int .i64 0, .int .i64 0, .slice none 0 0, .bool true] 101)).alloc (.cells #[.slice (some ⟨w12.heap.size + 1 + 1, 0, none⟩) 1 1] 33))
 replace F5 := ((((F5.alloc (.cells #[.int .i64 0, .int .i64 0, .int .i64 0, .slice (some ⟨w12.heap.size + 1, 0, none⟩) 1 1] 24)).alloc (.cells #[.string ⟨#[48]⟩] 9)).alloc (.cells #[.int .i64 0, .int .i64 0, .int .i64 0, .slice (some ⟨w12.heap.size + 1, 0, none⟩) 1 1, .int .i64 0, .int .i64 0, .int .i64 0, .slice none 0 0, .bool true] 101)).alloc (.cells #[.slice (some ⟨w12.heap.size + 1 + 1, 0, none⟩) 1 1] 33))
 have K := (((Bk.new (r := w12.heap.size + 1) (cs := [.string ⟨#[48]⟩]) (w12.alloc (.cells #[.int .i64 0, .int .i64 0, .int .i64 0, .slice (some ⟨w12.heap.size + 1, 0, none⟩) 1 1] 24)) 9 (by simp)).alloc (.cells #[.int .i64 0, .int .i64 0, .int .i64 0, .slice (some ⟨w12.heap.size + 1, 0, none⟩) 1 1, .int .i64 0, .int .i64 0, .int .i64 0, .slice none 0 0, .bool true] 101)).alloc (.cells #[.slice (some ⟨w12.heap.size + 1 + 1, 0, none⟩) 1 1] 33))
 have Z := ((Bk.new (r := w12.heap.size + 1 + 1) (cs := [.int .i64 0, .int .i64 0, .int .i64 0, .slice (some ⟨w12.heap.size + 1, 0, none⟩) 1 1, .int .i64 0, .int .i64 0, .int .i64 0, .slice none 0 0, .bool true]) ((w12.alloc (.cells #[.int .i64 0, .int .i64 0, .int .i64 0, .slice (some ⟨w12.heap.size + 1, 0, none⟩) 1 1] 24)).alloc (.cells #[.string ⟨#[48]⟩] 9)) 101 (by simp)).alloc (.cells #[.slice (some ⟨w12.heap.size + 1 + 1, 0, none⟩) 1 1] 33))
 have T := (Bk.new (r := w12.heap.size + 1 + 1 + 1) (cs := [.slice (some ⟨w12.heap.size + 1 + 1, 0, none⟩) 1 1]) (((w12.alloc (.cells #[.int .i64 0, .int .i64 0, .int .i64 0, .slice (some ⟨w12.heap.size + 1, 0, none⟩) 1 1] 24)).alloc (.cells #[.string ⟨#[48]⟩] 9)).alloc (.cells #[.int .i64 0, .int .i64 0, .int .i64 0, .slice (some ⟨w12.heap.size + 1, 0, none⟩) 1 1, .int .i64 0, .int .i64 0, .int .i64 0, .slice none 0 0, .bool true] 101)) 33 (by simp))
 clear Xc Xf Xl Uc Uf Ul F1c F1f F1l Ic If Il F2c F2f F2l Dc Df Dl F3c F3f F3l Pc Pf P_l F4c F4f F4l F5c F5f F5l
 generalize ((((w12.alloc (.cells #[.int .i64 0, .int .i64 0, .int .i64 0, .slice (some ⟨w12.heap.size + 1, 0, none⟩) 1 1] 24)).alloc (.cells #[.string ⟨#[48]⟩] 9)).alloc (.cells #[.int .i64 0, .int .i64 0, .int .i64 0, .slice (some ⟨w12.heap.size + 1, 0, none⟩) 1 1, .int .i64 0, .int .i64 0, .int .i64 0, .slice none 0 0, .bool true] 101)).alloc (.cells #[.slice (some ⟨w12.heap.size + 1 + 1, 0, none⟩) 1 1] 33)) = w13 at *
 have s13 := B13.size
 have ⟨Xc, Xf, Xl⟩ := X
 have ⟨Uc, Uf, Ul⟩ := U
 have ⟨F1c, F1f, F1l⟩ := F1
 have ⟨Ic, If, Il⟩ := I
 have ⟨F2c, F2f, F2l⟩ := F2
 have ⟨Dc, Df, Dl⟩ := D
 have ⟨F3c, F3f, F3l⟩ := F3
 have ⟨Pc, Pf, P_l⟩ := P
 have ⟨F4c, F4f, F4l⟩ := F4
 have ⟨F5c, F5f, F5l⟩ := F5
 have ⟨Kc, Kf, Kl⟩ := K
 have ⟨Zc, Zf, Zl⟩ := Z
 have ⟨Tc, Tf, Tl⟩ := T
 have RT : RIn w13 (Pl.upR Pl.lowV) (some ⟨w12.heap.size + 1 + 1, 0, none⟩) 1 := RIn.lit Z ⟨some ⟨w12.heap.size + 1, 0, none⟩, none, 1, 0, rfl, VIn.lit (by decide) K, VIn.zero _⟩
 replace RT := Hd RT
 refine wp_region_ord [0, 1, 2, 3, 4, 5, 6, 7, 8, 9, 10, 11, 12, 13, 14, 15, 16, 17, 18, 19, 20, 21, 22, 23, 24, 25, 26, 27, 28, 29, 30, 31] (by kernel_rfl) (by kernel_rfl) ?_
 have B14 : Below w.heap.size w w13.drew := by go_grown
 have q14 : w13.heap.size ≤ w13.drew.heap.size := by simp only [World.size_drew]; omega
 replace RA := Hd (RA.out.bl (Below.refl _ _).drew)
 replace RU := Hd (RU.out.bl (Below.refl _ _).drew)
 replace RI := Hd (RI.out.bl (Below.refl _ _).drew)
 replace RD := Hd (RD.out.bl (Below.refl _ _).drew)
 replace RP := Hd (RP.out.bl (Below.refl _ _).drew)
 replace RT := Hd (RT.out.bl (Below.refl _ _).drew)
 replace X := X.drew
 replace U := U.drew
 replace F1 := F1.drew
 replace I := I.drew
 replace F2 := F2.drew
 replace D := D.drew
 replace F3 := F3.drew
 replace P := P.drew
 replace F4 := F4.drew
 replace F5 := F5.drew
 replace K := K.drew
 replace Z := Z.drew
 replace T := T.drew
 clear Xc Xf Xl Uc Uf Ul F1c F1f F1l Ic If Il F2c F2f F2l Dc Df Dl F3c F3f F3l Pc Pf P_l F4c F4f F4l F5c F5f F5l Kc Kf Kl Zc Zf Zl Tc Tf Tl
 generalize w13.drew = w14 at *
 have s14 := B14.size
 have ⟨Xc, Xf, Xl⟩ := X
 have ⟨Uc, Uf, Ul⟩ := U
 have ⟨F1c, F1f, F1l⟩ := F1
 have ⟨Ic, If, Il⟩ := I
 have ⟨F2c, F2f, F2l⟩ := F2
 have ⟨Dc, Df, Dl⟩ := D
 have ⟨F3c, F3f, F3l⟩ := F3
 have ⟨Pc, Pf, P_l⟩ := P
 have ⟨F4c, F4f, F4l⟩ := F4
 have ⟨F5c, F5f, F5l⟩ := F5
 have ⟨Kc, Kf, Kl⟩ := K
 have ⟨Zc, Zf, Zl⟩ := Z
 have ⟨Tc, Tf, Tl⟩ := T
 repeat (first | (refine wpI_rd rfl rfl ?_; go_big_quiet_step (fail); refine wpQuiet_nil ?_) | (refine wpI_skip rfl rfl ?_; try simp only [pts]))
 try simp only [pts]
 refine wpI_call (f := 70) (args := #[.int .i64 1, .int .i64 0, .int .i64 0]) rfl rfl rfl (by simp [go_sem]) ?_
 refine (ver_at _ _ _ _).mono ?_
 rintro e w15 ⟨rfl, he15⟩
 have hb : Below w14.heap.size w14 w15 := by rw [he15]; exact (Below.refl _ _).alloc nle _
 clear he15
 refine ⟨_, rfl, hb, ?_⟩
 skip
 have B15 := bcm w hb
 have q15 : w14.heap.size ≤ w15.heap.size := qle hb
 replace RA := Hd (RA.out.bl hb)
 replace RU := Hd (RU.out.bl hb)
 replace RI := Hd (RI.out.bl hb)
 replace RD := Hd (RD.out.bl hb)
 replace RP := Hd (RP.out.bl hb)
 replace RT := Hd (RT.out.bl hb)
 replace X := X.bw hb
 replace U := U.bw hb
 replace F1 := F1.bw hb
 replace I := I.bw hb
 replace F2 := F2.bw hb
 replace D := D.bw hb
 replace F3 := F3.bw hb
 replace P := P.bw hb
 replace F4 := F4.bw hb
 replace F5 := F5.bw hb
 replace K := K.bw hb
 replace Z := Z.bw hb
 replace T := T.bw hb
 clear hb
 have s15 := B15.size
 clear Xc Xf Xl Uc Uf Ul F1c F1f F1l Ic If Il F2c F2f F2l Dc Df Dl F3c F3f F3l Pc Pf P_l F4c F4f F4l F5c F5f F5l Kc Kf Kl Zc Zf Zl Tc Tf Tl
 have ⟨Xc, Xf, Xl⟩ := X
 have ⟨Uc, Uf, Ul⟩ := U
 have ⟨F1c, F1f, F1l⟩ := F1
 have ⟨Ic, If, Il⟩ := I
 have ⟨F2c, F2f, F2l⟩ := F2
 have ⟨Dc, Df, Dl⟩ := D
 have ⟨F3c, F3f, F3l⟩ := F3
 have ⟨Pc, Pf, P_l⟩ := P
 have ⟨F4c, F4f, F4l⟩ := F4
 have ⟨F5c, F5f, F5l⟩ := F5
 have ⟨Kc, Kf, Kl⟩ := K
 have ⟨Zc, Zf, Zl⟩ := Z
 have ⟨Tc, Tf, Tl⟩ := T
 try simp only [pts]
 refine wpI_call (f := 70) (args := #[.int .i64 4, .int .i64 0, .int .i64 0]) rfl rfl rfl (by simp [go_sem]) ?_
 refine (ver_at _ _ _ _).mono ?_
 rintro e w16 ⟨rfl, he16⟩
 have hb : Below w15.heap.size w15 w16 := by rw [he16]; exact (Below.refl _ _).alloc nle _
 clear he16
 refine ⟨_, rfl, hb, ?_⟩
 skip
 have B16 := bcm w hb
 have q16 : w15.heap.size ≤ w16.heap.size := qle hb
 replace RA := Hd (RA.out.bl hb)
 replace RU := Hd (RU.out.bl hb)
 replace RI := Hd (RI.out.bl hb)
 replace RD := Hd (RD.out.bl hb)
 replace RP := Hd (RP.out.bl hb)
 replace RT := Hd (RT.out.bl hb)
 replace X := X.bw hb
 replace U := U.bw hb
 replace F1 := F1.bw hb
 replace I := I.bw hb
 replace F2 := F2.bw hb
 replace D := D.bw hb
 replace F3 := F3.bw hb
 replace P := P.bw hb
 replace F4 := F4.bw hb
 replace F5 := F5.bw hb
 replace K := K.bw hb
 replace Z := Z.bw hb
 replace T := T.bw hb
 clear hb
 have s16 := B16.size
 clear Xc Xf Xl Uc Uf Ul F1c F1f F1l Ic If Il F2c F2f F2l Dc Df Dl F3c F3f F3l Pc Pf P_l F4c F4f F4l F5c F5f F5l Kc Kf Kl Zc Zf Zl Tc Tf Tl
 have ⟨Xc, Xf, Xl⟩ := X
 have ⟨Uc, Uf, Ul⟩ := U
 have ⟨F1c, F1f, F1l⟩ := F1
 have ⟨Ic, If, Il⟩ := I
 have ⟨F2c, F2f, F2l⟩ := F2
 have ⟨Dc, Df, Dl⟩ := D
 have ⟨F3c, F3f, F3l⟩ := F3
 have ⟨Pc, Pf, P_l⟩ := P
 have ⟨F4c, F4f, F4l⟩ := F4
 have ⟨F5c, F5f, F5l⟩ := F5
 have ⟨Kc, Kf, Kl⟩ := K
 have ⟨Zc, Zf, Zl⟩ := Z
 have ⟨Tc, Tf, Tl⟩ := T
 try simp only [pts]
 refine wpI_call (f := 69) rfl rfl rfl (by simp [go_sem]; rfl) ?_
 refine (HC.out.d1 _).mono ?_
 rintro e w17 ⟨o1, k1, rfl, S1, hb⟩
 replace S1 := Hd S1
 refine ⟨_, rfl, hb, ?_⟩
 skip
 have B17 := bcm w hb
 have q17 : w16.heap.size ≤ w17.heap.size := qle hb
 replace RA := Hd (RA.out.bl hb)
 replace RU := Hd (RU.out.bl hb)
 replace RI := Hd (RI.out.bl hb)
 replace RD := Hd (RD.out.bl hb)
 replace RP := Hd (RP.out.bl hb)
 replace RT := Hd (RT.out.bl hb)
 replace X := X.bw hb
 replace U := U.bw hb
 replace F1 := F1.bw hb
 replace I := I.bw hb
 replace F2 := F2.bw hb
 replace D := D.bw hb
 replace F3 := F3.bw hb
 replace P := P.bw hb
 replace F4 := F4.bw hb
 replace F5 := F5.bw hb
 replace K := K.bw hb
 replace Z := Z.bw hb
 replace T := T.bw hb
 clear hb
 have s17 := B17.size
 clear Xc Xf Xl Uc Uf Ul F1c F1f F1l Ic If Il F2c F2f F2l Dc Df Dl F3c F3f F3l Pc Pf P_l F4c F4f F4l F5c F5f F5l Kc Kf Kl Zc Zf Zl Tc Tf Tl
 have ⟨Xc, Xf, Xl⟩ := X
 have ⟨Uc, Uf, Ul⟩ := U
 have ⟨F1c, F1f, F1l⟩ := F1
 have ⟨Ic, If, Il⟩ := I
 have ⟨F2c, F2f, F2l⟩ := F2
 have ⟨Dc, Df, Dl⟩ := D
 have ⟨F3c, F3f, F3l⟩ := F3
 have ⟨Pc, Pf, P_l⟩ := P
 have ⟨F4c, F4f, F4l⟩ := F4
 have ⟨F5c, F5f, F5l⟩ := F5
 have ⟨Kc, Kf, Kl⟩ := K
 have ⟨Zc, Zf, Zl⟩ := Z
 have ⟨Tc, Tf, Tl⟩ := T
 try simp only [pts]
 refine wpI_call (f := 27) rfl rfl rfl (by simp [go_sem]; rfl) ?_
 refine (same_self lu _ _ _ _ _ RU.out S1.out).mono ?_
 rintro e w18 ⟨rfl, hb⟩
 refine ⟨_, rfl, hb, ?_⟩
 skip
 have B18 := bcm w hb
 have q18 : w17.heap.size ≤ w18.heap.size := qle hb
 replace RA := Hd (RA.out.bl hb)
 replace RU := Hd (RU.out.bl hb)
 replace RI := Hd (RI.out.bl hb)
 replace RD := Hd (RD.out.bl hb)
 replace RP := Hd (RP.out.bl hb)
 replace RT := Hd (RT.out.bl hb)
 replace S1 := Hd (S1.out.bl hb)
 replace X := X.bw hb
 replace U := U.bw hb
 replace F1 := F1.bw hb
 replace I := I.bw hb
 replace F2 := F2.bw hb
 replace D := D.bw hb
 replace F3 := F3.bw hb
 replace P := P.bw hb
 replace F4 := F4.bw hb
 replace F5 := F5.bw hb
 replace K := K.bw hb
 replace Z := Z.bw hb
 replace T := T.bw hb
 clear hb
 have s18 := B18.size
 clear Xc Xf Xl Uc Uf Ul F1c F1f F1l Ic If Il F2c F2f F2l Dc Df Dl F3c F3f F3l Pc Pf P_l F4c F4f F4l F5c F5f F5l Kc Kf Kl Zc Zf Zl Tc Tf Tl
 have ⟨Xc, Xf, Xl⟩ := X
 have ⟨Uc, Uf, Ul⟩ := U
 have ⟨F1c, F1f, F1l⟩ := F1
 have ⟨Ic, If, Il⟩ := I
 have ⟨F2c, F2f, F2l⟩ := F2
 have ⟨Dc, Df, Dl⟩ := D
 have ⟨F3c, F3f, F3l⟩ := F3
 have ⟨Pc, Pf, P_l⟩ := P
 have ⟨F4c, F4f, F4l⟩ := F4
 have ⟨F5c, F5f, F5l⟩ := F5
 have ⟨Kc, Kf, Kl⟩ := K
 have ⟨Zc, Zf, Zl⟩ := Z
 have ⟨Tc, Tf, Tl⟩ := T
 try simp only [pts]
 clear RU S1 U
 repeat (first | (refine wpI_rd rfl rfl ?_; go_big_quiet_step (fail); refine wpQuiet_nil ?_) | (refine wpI_skip rfl rfl ?_; try simp only [pts]))
 try simp only [pts]
 refine wpI_call (f := 70) (args := #[.int .i64 2, .int .i64 0, .int .i64 0]) rfl rfl rfl (by simp [go_sem]) ?_
 refine (ver_at _ _ _ _).mono ?_
 rintro e w19 ⟨rfl, he19⟩
 have hb : Below w18.heap.size w18 w19 := by rw [he19]; exact (Below.refl _ _).alloc nle _
 clear he19
 refine ⟨_, rfl, hb, ?_⟩
 skip
 have B19 := bcm w hb
 have q19 : w18.heap.size ≤ w19.heap.size := qle hb
 replace RA := Hd (RA.out.bl hb)
 replace RI := Hd (RI.out.bl hb)
 replace RD := Hd (RD.out.bl hb)
 replace RP := Hd (RP.out.bl hb)
 replace RT := Hd (RT.out.bl hb)
 replace X := X.bw hb
 replace F1 := F1.bw hb
 replace I := I.bw hb
 replace F2 := F2.bw hb
 replace D := D.bw hb
 replace F3 := F3.bw hb
 replace P := P.bw hb
 replace F4 := F4.bw hb
 replace F5 := F5.bw hb
 replace K := K.bw hb
 replace Z := Z.bw hb
 replace T := T.bw hb
 clear hb
 have s19 := B19.size
 clear Xc Xf Xl Uc Uf Ul F1c F1f F1l Ic If Il F2c F2f F2l Dc Df Dl F3c F3f F3l Pc Pf P_l F4c F4f F4l F5c F5f F5l Kc Kf Kl Zc Zf Zl Tc Tf Tl
 have ⟨Xc, Xf, Xl⟩ := X
 have ⟨F1c, F1f, F1l⟩ := F1
 have ⟨Ic, If, Il⟩ := I
 have ⟨F2c, F2f, F2l⟩ := F2
 have ⟨Dc, Df, Dl⟩ := D
 have ⟨F3c, F3f, F3l⟩ := F3
 have ⟨Pc, Pf, P_l⟩ := P
 have ⟨F4c, F4f, F4l⟩ := F4
 have ⟨F5c, F5f, F5l⟩ := F5
 have ⟨Kc, Kf, Kl⟩ := K
 have ⟨Zc, Zf, Zl⟩ := Z
 have ⟨Tc, Tf, Tl⟩ := T
 try simp only [pts]
 refine wpI_call (f := 70) (args := #[.int .i64 3, .int .i64 0, .int .i64 0]) rfl rfl rfl (by simp [go_sem]) ?_
 refine (ver_at _ _ _ _).mono ?_
 rintro e w20 ⟨rfl, he20⟩
 have hb : Below w19.heap.size w19 w20 := by rw [he20]; exact (Below.refl _ _).alloc nle _
 clear he20
 refine ⟨_, rfl, hb, ?_⟩
 skip
 have B20 := bcm w hb
 have q20 : w19.heap.size ≤ w20.heap.size := qle hb
 replace RA := Hd (RA.out.bl hb)
 replace RI := Hd (RI.out.bl hb)
 replace RD := Hd (RD.out.bl hb)
 replace RP := Hd (RP.out.bl hb)
 replace RT := Hd (RT.out.bl hb)
 replace X := X.bw hb
 replace F1 := F1.bw hb
 replace I := I.bw hb
 replace F2 := F2.bw hb
 replace D := D.bw hb
 replace F3 := F3.bw hb
 replace P := P.bw hb
 replace F4 := F4.bw hb
 replace F5 := F5.bw hb
 replace K := K.bw hb
 replace Z := Z.bw hb
 replace T := T.bw hb
 clear hb
 have s20 := B20.size
 clear Xc Xf Xl F1c F1f F1l Ic If Il F2c F2f F2l Dc Df Dl F3c F3f F3l Pc Pf P_l F4c F4f F4l F5c F5f F5l Kc Kf Kl Zc Zf Zl Tc Tf Tl
 have ⟨Xc, Xf, Xl⟩ := X
 have ⟨F1c, F1f, F1l⟩ := F1
 have ⟨Ic, If, Il⟩ := I
 have ⟨F2c, F2f, F2l⟩ := F2
 have ⟨Dc, Df, Dl⟩ := D
 have ⟨F3c, F3f, F3l⟩ := F3
 have ⟨Pc, Pf, P_l⟩ := P
 have ⟨F4c, F4f, F4l⟩ := F4
 have ⟨F5c, F5f, F5l⟩ := F5
 have ⟨Kc, Kf, Kl⟩ := K
 have ⟨Zc, Zf, Zl⟩ := Z
 have ⟨Tc, Tf, Tl⟩ := T
 try simp only [pts]
 refine wpI_call (f := 69) rfl rfl rfl (by simp [go_sem]; rfl) ?_
 refine (HC.out.d2 _).mono ?_
 rintro e w21 ⟨o2, k2, rfl, S2, hb⟩
 replace S2 := Hd S2
 refine ⟨_, rfl, hb, ?_⟩
 skip
 have B21 := bcm w hb
 have q21 : w20.heap.size ≤ w21.heap.size := qle hb
 replace RA := Hd (RA.out.bl hb)
 replace RI := Hd (RI.out.bl hb)
 replace RD := Hd (RD.out.bl hb)
 replace RP := Hd (RP.out.bl hb)
 replace RT := Hd (RT.out.bl hb)
 replace X := X.bw hb
 replace F1 := F1.bw hb
 replace I := I.bw hb
 replace F2 := F2.bw hb
 replace D := D.bw hb
 replace F3 := F3.bw hb
 replace P := P.bw hb
 replace F4 := F4.bw hb
 replace F5 := F5.bw hb
 replace K := K.bw hb
 replace Z := Z.bw hb
 replace T := T.bw hb
 clear hb
 have s21 := B21.size
 clear Xc Xf Xl F1c F1f F1l Ic If Il F2c F2f F2l Dc Df Dl F3c F3f F3l Pc Pf P_l F4c F4f F4l F5c F5f F5l Kc Kf Kl Zc Zf Zl Tc Tf Tl
 have ⟨Xc, Xf, Xl⟩ := X
 have ⟨F1c, F1f, F1l⟩ := F1
 have ⟨Ic, If, Il⟩ := I
 have ⟨F2c, F2f, F2l⟩ := F2
 have ⟨Dc, Df, Dl⟩ := D
 have ⟨F3c, F3f, F3l⟩ := F3
 have ⟨Pc, Pf, P_l⟩ := P
 have ⟨F4c, F4f, F4l⟩ := F4
 have ⟨F5c, F5f, F5l⟩ := F5
 have ⟨Kc, Kf, Kl⟩ := K
 have ⟨Zc, Zf, Zl⟩ := Z
 have ⟨Tc, Tf, Tl⟩ := T
 try simp only [pts]
 refine wpI_call (f := 27) rfl rfl rfl (by simp [go_sem]; rfl) ?_
 refine (same_self li _ _ _ _ _ RI.out S2.out).mono ?_
 rintro e w22 ⟨rfl, hb⟩
 refine ⟨_, rfl, hb, ?_⟩
 skip
 have B22 := bcm w hb
 have q22 : w21.heap.size ≤ w22.heap.size := qle hb
 replace RA := Hd (RA.out.bl hb)
 replace RI := Hd (RI.out.bl hb)
 replace RD := Hd (RD.out.bl hb)
 replace RP := Hd (RP.out.bl hb)
 replace RT := Hd (RT.out.bl hb)
 replace S2 := Hd (S2.out.bl hb)
 replace X := X.bw hb
 replace F1 := F1.bw hb
 replace I := I.bw hb
 replace F2 := F2.bw hb
 replace D := D.bw hb
 replace F3 := F3.bw hb
 replace P := P.bw hb
 replace F4 := F4.bw hb
 replace F5 := F5.bw hb
 replace K := K.bw hb
 replace Z := Z.bw hb
 replace T := T.bw hb
 clear hb
 have s22 := B22.size
 clear Xc Xf Xl F1c F1f F1l Ic If Il F2c F2f F2l Dc Df Dl F3c F3f F3l Pc Pf P_l F4c F4f F4l F5c F5f F5l Kc Kf Kl Zc Zf Zl Tc Tf Tl
 have ⟨Xc, Xf, Xl⟩ := X
 have ⟨F1c, F1f, F1l⟩ := F1
 have ⟨Ic, If, Il⟩ := I
 have ⟨F2c, F2f, F2l⟩ := F2
 have ⟨Dc, Df, Dl⟩ := D
 have ⟨F3c, F3f, F3l⟩ := F3
 have ⟨Pc, Pf, P_l⟩ := P
 have ⟨F4c, F4f, F4l⟩ := F4
 have ⟨F5c, F5f, F5l⟩ := F5
 have ⟨Kc, Kf, Kl⟩ := K
 have ⟨Zc, Zf, Zl⟩ := Z
 have ⟨Tc, Tf, Tl⟩ := T
 try simp only [pts]
 clear RI S2 I
 repeat (first | (refine wpI_rd rfl rfl ?_; go_big_quiet_step (fail); refine wpQuiet_nil ?_) | (refine wpI_skip rfl rfl ?_; try simp only [pts]))
 try simp only [pts]
 refine wpI_call (f := 27) rfl rfl rfl (by simp [go_sem]; rfl) ?_
 refine (same_self (Pl.upR Pl.lowV) _ _ _ _ _ RD.out RT.out).mono ?_
 rintro e w23 ⟨rfl, hb⟩
 refine ⟨_, rfl, hb, ?_⟩
 skip
 have B23 := bcm w hb
 have q23 : w22.heap.size ≤ w23.heap.size := qle hb
 replace RA := Hd (RA.out.bl hb)
 replace RD := Hd (RD.out.bl hb)
 replace RP := Hd (RP.out.bl hb)
 replace RT := Hd (RT.out.bl hb)
 replace X := X.bw hb
 replace F1 := F1.bw hb
 replace F2 := F2.bw hb
 replace D := D.bw hb
 replace F3 := F3.bw hb
 replace P := P.bw hb
 replace F4 := F4.bw hb
 replace F5 := F5.bw hb
 replace K := K.bw hb
 replace Z := Z.bw hb
 replace T := T.bw hb
 clear hb
 have s23 := B23.size
 clear Xc Xf Xl F1c F1f F1l Ic If Il F2c F2f F2l Dc Df Dl F3c F3f F3l Pc Pf P_l F4c F4f F4l F5c F5f F5l Kc Kf Kl Zc Zf Zl Tc Tf Tl
 have ⟨Xc, Xf, Xl⟩ := X
 have ⟨F1c, F1f, F1l⟩ := F1
 have ⟨F2c, F2f, F2l⟩ := F2
 have ⟨Dc, Df, Dl⟩ := D
 have ⟨F3c, F3f, F3l⟩ := F3
 have ⟨Pc, Pf, P_l⟩ := P
 have ⟨F4c, F4f, F4l⟩ := F4
 have ⟨F5c, F5f, F5l⟩ := F5
 have ⟨Kc, Kf, Kl⟩ := K
 have ⟨Zc, Zf, Zl⟩ := Z
 have ⟨Tc, Tf, Tl⟩ := T
 try simp only [pts]
 repeat (first | (refine wpI_rd rfl rfl ?_; go_big_quiet_step (fail); refine wpQuiet_nil ?_) | (refine wpI_skip rfl rfl ?_; try simp only [pts]))
 try simp only [pts]
 refine wpI_call (f := 70) (args := #[.int .i64 1, .int .i64 2, .int .i64 0]) rfl rfl rfl (by simp [go_sem]) ?_
 refine (ver_at _ _ _ _).mono ?_
 rintro e w24 ⟨rfl, he24⟩
 have hb : Below w23.heap.size w23 w24 := by rw [he24]; exact (Below.refl _ _).alloc nle _
 clear he24
 refine ⟨_, rfl, hb, ?_⟩
 skip
 have B24 := bcm w hb
 have q24 : w23.heap.size ≤ w24.heap.size := qle hb
 replace RA := Hd (RA.out.bl hb)
 replace RD := Hd (RD.out.bl hb)
 replace RP := Hd (RP.out.bl hb)
 replace RT := Hd (RT.out.bl hb)
 replace X := X.bw hb
 replace F1 := F1.bw hb
 replace F2 := F2.bw hb
 replace D := D.bw hb
 replace F3 := F3.bw hb
 replace P := P.bw hb
 replace F4 := F4.bw hb
 replace F5 := F5.bw hb
 replace K := K.bw hb
 replace Z := Z.bw hb
 replace T := T.bw hb
 clear hb
 have s24 := B24.size
 clear Xc Xf Xl F1c F1f F1l F2c F2f F2l Dc Df Dl F3c F3f F3l Pc Pf P_l F4c F4f F4l F5c F5f F5l Kc Kf Kl Zc Zf Zl Tc Tf Tl
 have ⟨Xc, Xf, Xl⟩ := X
 have ⟨F1c, F1f, F1l⟩ := F1
 have ⟨F2c, F2f, F2l⟩ := F2
 have ⟨Dc, Df, Dl⟩ := D
 have ⟨F3c, F3f, F3l⟩ := F3
 have ⟨Pc, Pf, P_l⟩ := P
 have ⟨F4c, F4f, F4l⟩ := F4
 have ⟨F5c, F5f, F5l⟩ := F5
 have ⟨Kc, Kf, Kl⟩ := K
 have ⟨Zc, Zf, Zl⟩ := Z
 have ⟨Tc, Tf, Tl⟩ := T
 try simp only [pts]
 refine wpI_call (f := 71) (args := #[.int .i64 2, .int .i64 0, .int .i64 0, .string ⟨#[48]⟩]) rfl rfl rfl (by simp [go_sem]) ?_
 refine (pre_at _ _ _ _ _).mono ?_
 rintro e w25 ⟨rfl, he25⟩
 have hb : Below w24.heap.size w24 w25 := by rw [he25]; go_grown
 have VK : VIn w25 ⟨2, 0, 0, [⟨#[48]⟩]⟩ (some ⟨w24.heap.size + 1, 0, none⟩) 1 := by rw [he25]; exact VIn.lit (by decide) (Bk.new _ _ (by simp))
 clear he25
 replace VK := Hd VK
 refine ⟨_, rfl, hb, ?_⟩
 skip
 have B25 := bcm w hb
 have q25 : w24.heap.size ≤ w25.heap.size := qle hb
 replace RA := Hd (RA.out.bl hb)
 replace RD := Hd (RD.out.bl hb)
 replace RP := Hd (RP.out.bl hb)
 replace RT := Hd (RT.out.bl hb)
 replace X := X.bw hb
 replace F1 := F1.bw hb
 replace F2 := F2.bw hb
 replace D := D.bw hb
 replace F3 := F3.bw hb
 replace P := P.bw hb
 replace F4 := F4.bw hb
 replace F5 := F5.bw hb
 replace K := K.bw hb
 replace Z := Z.bw hb
 replace T := T.bw hb
 clear hb
 have s25 := B25.size
 clear Xc Xf Xl F1c F1f F1l F2c F2f F2l Dc Df Dl F3c F3f F3l Pc Pf P_l F4c F4f F4l F5c F5f F5l Kc Kf Kl Zc Zf Zl Tc Tf Tl
 have ⟨Xc, Xf, Xl⟩ := X
 have ⟨F1c, F1f, F1l⟩ := F1
 have ⟨F2c, F2f, F2l⟩ := F2
 have ⟨Dc, Df, Dl⟩ := D
 have ⟨F3c, F3f, F3l⟩ := F3
 have ⟨Pc, Pf, P_l⟩ := P
 have ⟨F4c, F4f, F4l⟩ := F4
 have ⟨F5c, F5f, F5l⟩ := F5
 have ⟨Kc, Kf, Kl⟩ := K
 have ⟨Zc, Zf, Zl⟩ := Z
 have ⟨Tc, Tf, Tl⟩ := T
 try simp only [pts]
 refine wpI_call (f := 69) rfl rfl rfl (by simp [go_sem]; rfl) ?_
 refine (HC.out.d4 _ _ VK.out).mono ?_
 rintro e w26 ⟨o4, k4, rfl, S4, hb⟩
 replace S4 := Hd S4
 refine ⟨_, rfl, hb, ?_⟩
 skip
 have B26 := bcm w hb
 have q26 : w25.heap.size ≤ w26.heap.size := qle hb
 replace RA := Hd (RA.out.bl hb)
 replace RD := Hd (RD.out.bl hb)
 replace RP := Hd (RP.out.bl hb)
 replace RT := Hd (RT.out.bl hb)
 replace VK := Hd (VK.out.bl hb)
 replace X := X.bw hb
 replace F1 := F1.bw hb
 replace F2 := F2.bw hb
 replace D := D.bw hb
 replace F3 := F3.bw hb
 replace P := P.bw hb
 replace F4 := F4.bw hb
 replace F5 := F5.bw hb
 replace K := K.bw hb
 replace Z := Z.bw hb
 replace T := T.bw hb
 clear hb
 have s26 := B26.size
 clear Xc Xf Xl F1c F1f F1l F2c F2f F2l Dc Df Dl F3c F3f F3l Pc Pf P_l F4c F4f F4l F5c F5f F5l Kc Kf Kl Zc Zf Zl Tc Tf Tl
 have ⟨Xc, Xf, Xl⟩ := X
 have ⟨F1c, F1f, F1l⟩ := F1
 have ⟨F2c, F2f, F2l⟩ := F2
 have ⟨Dc, Df, Dl⟩ := D
 have ⟨F3c, F3f, F3l⟩ := F3
 have ⟨Pc, Pf, P_l⟩ := P
 have ⟨F4c, F4f, F4l⟩ := F4
 have ⟨F5c, F5f, F5l⟩ := F5
 have ⟨Kc, Kf, Kl⟩ := K
 have ⟨Zc, Zf, Zl⟩ := Z
 have ⟨Tc, Tf, Tl⟩ := T
 try simp only [pts]
 refine wpI_call (f := 27) rfl rfl rfl (by simp [go_sem]; rfl) ?_
 refine (same_self lp _ _ _ _ _ RP.out S4.out).mono ?_
 rintro e w27 ⟨rfl, hb⟩
 refine ⟨_, rfl, hb, ?_⟩
 skip
 have B27 := bcm w hb
 have q27 : w26.heap.size ≤ w27.heap.size := qle hb
 replace RA := Hd (RA.out.bl hb)
 replace RD := Hd (RD.out.bl hb)
 replace RP := Hd (RP.out.bl hb)
 replace RT := Hd (RT.out.bl hb)
 replace VK := Hd (VK.out.bl hb)
 replace S4 := Hd (S4.out.bl hb)
 replace X := X.bw hb
 replace F1 := F1.bw hb
 replace F2 := F2.bw hb
 replace D := D.bw hb
 replace F3 := F3.bw hb
 replace P := P.bw hb
 replace F4 := F4.bw hb
 replace F5 := F5.bw hb
 replace K := K.bw hb
 replace Z := Z.bw hb
 replace T := T.bw hb
 clear hb
 have s27 := B27.size
 clear Xc Xf Xl F1c F1f F1l F2c F2f F2l Dc Df Dl F3c F3f F3l Pc Pf P_l F4c F4f F4l F5c F5f F5l Kc Kf Kl Zc Zf Zl Tc Tf Tl
 have ⟨Xc, Xf, Xl⟩ := X
 have ⟨F1c, F1f, F1l⟩ := F1
 have ⟨F2c, F2f, F2l⟩ := F2
 have ⟨Dc, Df, Dl⟩ := D
 have ⟨F3c, F3f, F3l⟩ := F3
 have ⟨Pc, Pf, P_l⟩ := P
 have ⟨F4c, F4f, F4l⟩ := F4
 have ⟨F5c, F5f, F5l⟩ := F5
 have ⟨Kc, Kf, Kl⟩ := K
 have ⟨Zc, Zf, Zl⟩ := Z
 have ⟨Tc, Tf, Tl⟩ := T
 try simp only [pts]
 have sx : ((⟨#[62, 61, 49, 46, 48, 46, 48, 32, 60, 51, 46, 48, 46, 48]⟩ : ByteArray).toList == (⟨#[62, 61, 49, 46, 48, 46, 48, 32, 60, 51, 46, 48, 46, 48]⟩ : ByteArray).toList) = true := (strB [62, 61, 49, 46, 48, 46, 48, 32, 60, 51, 46, 48, 46, 48] [62, 61, 49, 46, 48, 46, 48, 32, 60, 51, 46, 48, 46, 48]).trans (by decide)
 repeat (first | (refine wpI_rd rfl rfl ?_; go_big_quiet_step (fail); refine wpQuiet_nil ?_) | (refine wpI_skip rfl rfl ?_; try simp only [pts]))
 try simp only [pts]
 refine wpI_nil ?_
 try simp only [pts]
 go_wp2_with fail
 go_ret
 exact ⟨rfl, by go_grown⟩
def Pl.rngB (r t : List Pl.Ivl) : Bool := r.length == t.length && (r.zip t).all fun p => Pl.sameB p.1.lo p.2.lo && Pl.sameB p.1.hi p.2.hi && (p.1.un == p.2.un)
theorem Pl.rngB_eq : ∀ {r t : List Pl.Ivl}, Pl.rngB r t = true → r = t
 | [], [], _ => rfl
 | [], _ :: _, h => by simp [Pl.rngB] at h
 | _ :: _, [], h => by simp [Pl.rngB] at h
 | x :: r, y :: t, h => by
   have h1 : (Pl.sameB x.lo y.lo = true ∧ Pl.sameB x.hi y.hi = true ∧ x.un = y.un) ∧ Pl.rngB r t = true := by
    simp only [Pl.rngB, List.length_cons, List.zip_cons_cons, List.all_cons, Bool.and_eq_true, beq_iff_eq, Nat.add_right_cancel_iff] at h ⊢
    exact ⟨⟨h.2.1.1.1, h.2.1.1.2, h.2.1.2⟩, h.1, h.2.2⟩
   rw [Pl.rngB_eq h1.2, Pl.Ivl.ext' (Pl.sameB_iff.1 h1.1.1) (Pl.sameB_iff.1 h1.1.2.1) h1.1.2.2]
theorem caretTerms : TermsOf ⟨#[94, 49, 46, 50, 46, 48]⟩ := by
 intro al ha tt ht W EW
 rw [show Lib.split (Pl.bsl ⟨#[94, 49, 46, 50, 46, 48]⟩) Pl.barS = [[94, 49, 46, 50, 46, 48]] by decide +kernel] at ha
 obtain rfl := List.mem_singleton.1 ha
 rw [show Lib.split [94, 49, 46, 50, 46, 48] [32] = [[94, 49, 46, 50, 46, 48]] by decide +kernel] at ht
 obtain rfl := List.mem_singleton.1 ht
 have h := term_op5 (Pl.mkS [94, 49, 46, 50, 46, 48]) W EW (by decide +kernel) (by decide +kernel) (fun m hm hlt => by
  match m, hm with
  | 0, _ => exact (by decide +kernel : ¬ ([62, 61] : List UInt8) <+: Pl.bsl (Pl.mkS [94, 49, 46, 50, 46, 48]))
  | 1, _ => exact (by decide +kernel : ¬ ([60, 61] : List UInt8) <+: Pl.bsl (Pl.mkS [94, 49, 46, 50, 46, 48]))
  | 2, _ => exact (by decide +kernel : ¬ ([62] : List UInt8) <+: Pl.bsl (Pl.mkS [94, 49, 46, 50, 46, 48]))
  | 3, _ => exact (by decide +kernel : ¬ ([60] : List UInt8) <+: Pl.bsl (Pl.mkS [94, 49, 46, 50, 46, 48]))
  | 4, _ => exact (by decide +kernel : ¬ ([61] : List UInt8) <+: Pl.bsl (Pl.mkS [94, 49, 46, 50, 46, 48]))
  | n + 5, _ => omega) [49, 46, 50, 46, 48] (by decide +kernel)
 rw [Pl.term_same, Pl.bsl_mkS] at h
 exact h
theorem ranges_any (w : World) (E : Env w) : Calls Tryz.prog 19 #[] w fun e w' => e = .returned (.bool true) ∧ Below w.heap.size w w' := by
 refine ranges_core ([⟨⟨1, 0, 0, []⟩, ⟨3, 0, 0, []⟩, false⟩] : List Pl.Ivl) ([⟨⟨2, 0, 0, []⟩, ⟨4, 0, 0, []⟩, false⟩] : List Pl.Ivl) [⟨⟨1, 0, 0, []⟩, ⟨4, 0, 0, []⟩, false⟩] [⟨⟨2, 0, 0, []⟩, ⟨3, 0, 0, []⟩, false⟩] [⟨⟨1, 2, 0, []⟩, ⟨2, 0, 0, [⟨#[48]⟩]⟩, false⟩] w E ⟨?_, ?_, ?_, ?_, ?_, ?_, ?_, ?_, ?_, ?_, ?_, ?_⟩
 · exact fun W => lspan_any _ _ none none 0 0 W (VIn.rel _ _ _ _) (VIn.rel _ _ _ _)
 · exact fun W => lspan_any _ _ none none 0 0 W (VIn.rel _ _ _ _) (VIn.rel _ _ _ _)
 · intro W a c b d h1 h2
   have h := union_any _ _ a b c d W h1 h2
   rw [show Pl.opV (Pl.pairF ([⟨⟨1, 0, 0, []⟩, ⟨3, 0, 0, []⟩, false⟩] : List Pl.Ivl) ([⟨⟨2, 0, 0, []⟩, ⟨4, 0, 0, []⟩, false⟩] : List Pl.Ivl)) (Pl.unionR ([⟨⟨1, 0, 0, []⟩, ⟨3, 0, 0, []⟩, false⟩] : List Pl.Ivl) ([⟨⟨2, 0, 0, []⟩, ⟨4, 0, 0, []⟩, false⟩] : List Pl.Ivl)) = [⟨⟨1, 0, 0, []⟩, ⟨4, 0, 0, []⟩, false⟩] from Pl.rngB_eq (by decide +kernel), show Pl.opF (Pl.pairF ([⟨⟨1, 0, 0, []⟩, ⟨3, 0, 0, []⟩, false⟩] : List Pl.Ivl) ([⟨⟨2, 0, 0, []⟩, ⟨4, 0, 0, []⟩, false⟩] : List Pl.Ivl)) (Pl.unionR ([⟨⟨1, 0, 0, []⟩, ⟨3, 0, 0, []⟩, false⟩] : List Pl.Ivl) ([⟨⟨2, 0, 0, []⟩, ⟨4, 0, 0, []⟩, false⟩] : List Pl.Ivl)) = (0, 0) by decide +kernel] at h
   exact h
 · intro W a c b d h1 h2
   have h := inter_any _ _ a b c d W h1 h2
   rw [show Pl.opV (Pl.pairF ([⟨⟨1, 0, 0, []⟩, ⟨3, 0, 0, []⟩, false⟩] : List Pl.Ivl) ([⟨⟨2, 0, 0, []⟩, ⟨4, 0, 0, []⟩, false⟩] : List Pl.Ivl)) (Pl.commonR ([⟨⟨1, 0, 0, []⟩, ⟨3, 0, 0, []⟩, false⟩] : List Pl.Ivl) ([⟨⟨2, 0, 0, []⟩, ⟨4, 0, 0, []⟩, false⟩] : List Pl.Ivl)) = [⟨⟨2, 0, 0, []⟩, ⟨3, 0, 0, []⟩, false⟩] from Pl.rngB_eq (by decide +kernel), show Pl.opF (Pl.pairF ([⟨⟨1, 0, 0, []⟩, ⟨3, 0, 0, []⟩, false⟩] : List Pl.Ivl) ([⟨⟨2, 0, 0, []⟩, ⟨4, 0, 0, []⟩, false⟩] : List Pl.Ivl)) (Pl.commonR ([⟨⟨1, 0, 0, []⟩, ⟨3, 0, 0, []⟩, false⟩] : List Pl.Ivl) ([⟨⟨2, 0, 0, []⟩, ⟨4, 0, 0, []⟩, false⟩] : List Pl.Ivl)) = (0, 0) by decide +kernel] at h
   exact h
 · intro W
   have h := compl_any [] none 0 W (RIn.nil _)
   rw [show Pl.opV (Pl.rngF []) (Pl.invR []) = Pl.upR Pl.lowV from Pl.rngB_eq (by decide +kernel), show Pl.opF (Pl.rngF []) (Pl.invR []) = (0, 0) by decide +kernel] at h
   exact h
 · intro W E
   have h := rngParse_of ⟨#[94, 49, 46, 50, 46, 48]⟩ W (by decide) E caretTerms
   rw [show Pl.prsV ⟨#[94, 49, 46, 50, 46, 48]⟩ = [⟨⟨1, 2, 0, []⟩, ⟨2, 0, 0, [⟨#[48]⟩]⟩, false⟩] from Pl.rngB_eq (by decide +kernel), show Pl.prsF ⟨#[94, 49, 46, 50, 46, 48]⟩ = (0, 0) by decide +kernel] at h
   exact h
 · intro W a c h1 E
   have h := rngFormat_any _ a c W h1 E
   rw [show Pl.fmtR ([⟨⟨1, 0, 0, []⟩, ⟨3, 0, 0, []⟩, false⟩] : List Pl.Ivl) = ⟨#[62, 61, 49, 46, 48, 46, 48, 32, 60, 51, 46, 48, 46, 48]⟩ by decide +kernel, show Pl.rngF ([⟨⟨1, 0, 0, []⟩, ⟨3, 0, 0, []⟩, false⟩] : List Pl.Ivl) = (0, 0) by decide +kernel] at h
   exact h
 · intro W a c h1
   have h := Contains_any _ _ a none c 0 W h1 (VIn.rel 1 0 0 W)
   rw [show Pl.conB ([⟨⟨1, 0, 0, []⟩, ⟨3, 0, 0, []⟩, false⟩] : List Pl.Ivl) ⟨1, 0, 0, []⟩ = true by decide +kernel, show Pl.conF ([⟨⟨1, 0, 0, []⟩, ⟨3, 0, 0, []⟩, false⟩] : List Pl.Ivl) ⟨1, 0, 0, []⟩ = (0, 0) by decide +kernel] at h
   exact h
 · intro W a c h1
   have h := Contains_any _ _ a none c 0 W h1 (VIn.rel 3 0 0 W)
   rw [show Pl.conB ([⟨⟨1, 0, 0, []⟩, ⟨3, 0, 0, []⟩, false⟩] : List Pl.Ivl) ⟨3, 0, 0, []⟩ = false by decide +kernel, show Pl.conF ([⟨⟨1, 0, 0, []⟩, ⟨3, 0, 0, []⟩, false⟩] : List Pl.Ivl) ⟨3, 0, 0, []⟩ = (0, 0) by decide +kernel] at h
   exact h
 · exact fun W => lspan_any _ _ none none 0 0 W (VIn.rel _ _ _ _) (VIn.rel _ _ _ _)
 · exact fun W => lspan_any _ _ none none 0 0 W (VIn.rel _ _ _ _) (VIn.rel _ _ _ _)
 · exact fun W b hv => lspan_any _ _ none b 0 1 W (VIn.rel _ _ _ _) hv
end Go.Proofs.YtolfgcoalihmgaaGreatDoor
