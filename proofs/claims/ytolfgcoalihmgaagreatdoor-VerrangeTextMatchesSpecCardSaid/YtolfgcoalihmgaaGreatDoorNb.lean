/- The law VerrangeTextMatchesSpec: its walk. -/
import Derived.Test.YtolfgcoalihmgaaGreatDoorMEa
import Derived.Test.YtolfgcoalihmgaaGreatDoorMEs
import Derived.Test.YtolfgcoalihmgaaGreatDoorEt
import Derived.Test.YtolfgcoalihmgaaGreatDoorEc
namespace Go.Proofs.YtolfgcoalihmgaaGreatDoor
open Go.RowKit
set_option maxRecDepth 100000 in
set_option maxHeartbeats 16000000 in
theorem vtm_ok_long (r : List Pl.Ivl) (s : ByteArray) (a : Option Addr) (c : Nat) (w : World) (h : RIn w r a c) (hs : s.size ≤ 9223372036854775807) (EN : Env w) (er : Pl.rngF r = (0, 0)) (hl : 4096 < s.size) : Calls Tryz.prog 5 #[.agg #[.slice a r.length c], .string s] w fun e w' => e = .returned (.bool true) ∧ Below w.heap.size w w' := by
 have HE := Hd EN
 have H := Hd h
 have CF := Hd (fun (W : World) (g : RIn W r a c) => RangeFault_any r a c W g)
 have CS := Hd (fun (W : World) (g : RIn W r a c) (E : Env W) => rngFormat_any r a c W g E)
 rw [er] at CF CS
 have CT := Hd (fun (W : World) (g : RIn W r a c) => RangeText_any r a c W g (Pl.rng_ok (by rw [er])).2.ok (Pl.rng_ok (by rw [er])).1)
 have e1 : Pl.fmtR r = Pl.mkS (Pl.rngT r) := by unfold Pl.fmtR; rw [er]; rfl
 rw [e1] at CS
 generalize Pl.mkS (Pl.rngT r) = S at *
 obtain ⟨x1, x2⟩ := str_self S
 clear e1
 have CP := Hd (fun (W : World) => rngParse_long s W hs hl)
 rw [show Pl.prsV s = [] from if_pos hl, show Pl.prsF s = (2, -1) from if_pos hl] at CP
 have v1 : decide ((s.size : Int) > 4096) = true := decT (by omega)
 have v2 : decide ((4096 : Int) < (s.size : Int)) = true := decT (by omega)
 have v3 : decide (4096 < s.size) = true := decT hl
 delta RRngF at CP
 simp only [fltV] at CP
 delta RFmt at CS
 simp only [fltV] at CF CS
 clear h EN er hl
 go_enter Tryz.func5, Tryz.ntmps5
 have B0 := brl w
 go_wp2_with fail
 have B1 : Below w.heap.size w (w.alloc (.cells #[.slice a r.length c] 33)) := by go_grown
 have q1 : w.heap.size + 1 ≤ (w.alloc (.cells #[.slice a r.length c] 33)).heap.size := by simp only [World.size_alloc]; omega
 replace H := Hd (H.out.al (.cells #[.slice a r.length c] 33))
 have X := (Bk.new (r := w.heap.size) (cs := [.slice a r.length c]) w 33 (by simp))
 generalize (w.alloc (.cells #[.slice a r.length c] 33)) = w1 at *
 have s1 := B1.size
 have ⟨Xc, Xf, Xl⟩ := X
 refine (ranges_any _ (HE.out.bl B1)).mono ?_
 rintro e w2 ⟨rfl, hb⟩
 have B2 := bcm w hb
 have q2 : w1.heap.size ≤ w2.heap.size := qle hb
 replace H := Hd (H.out.bl hb)
 replace X := X.bw hb
 clear hb
 have s2 := B2.size
 clear Xc Xf Xl
 have ⟨Xc, Xf, Xl⟩ := X
 go_wp2_with fail
 refine (CF.out _ H.out).mono ?_
 rintro e w3 ⟨rfl, hb⟩
 have B3 := bcm w hb
 have q3 : w2.heap.size ≤ w3.heap.size := qle hb
 replace H := Hd (H.out.bl hb)
 replace X := X.bw hb
 clear hb
 have s3 := B3.size
 clear Xc Xf Xl
 have ⟨Xc, Xf, Xl⟩ := X
 go_wp2_with fail
 have B4 : Below w.heap.size w (w3.alloc (.cells #[.int .i64 0, .int .i64 0] 27)) := by go_grown
 have q4 : w3.heap.size + 1 ≤ (w3.alloc (.cells #[.int .i64 0, .int .i64 0] 27)).heap.size := by simp only [World.size_alloc]; omega
 replace H := Hd (H.out.al (.cells #[.int .i64 0, .int .i64 0] 27))
 replace X := (X.alloc (.cells #[.int .i64 0, .int .i64 0] 27))
 have F := (Bk.new (r := w3.heap.size) (cs := [.int .i64 0, .int .i64 0]) w3 27 (by simp))
 clear Xc Xf Xl
 generalize (w3.alloc (.cells #[.int .i64 0, .int .i64 0] 27)) = w4 at *
 have s4 := B4.size
 have ⟨Xc, Xf, Xl⟩ := X
 have ⟨Fc, Ff, Fl⟩ := F
 refine (CS.out _ H.out (HE.out.bl B4)).mono ?_
 rintro e w5 ⟨rfl, hb⟩
 have B5 := bcm w hb
 have q5 : w4.heap.size ≤ w5.heap.size := qle hb
 replace H := Hd (H.out.bl hb)
 replace X := X.bw hb
 replace F := F.bw hb
 clear hb
 have s5 := B5.size
 clear Xc Xf Xl Fc Ff Fl
 have ⟨Xc, Xf, Xl⟩ := X
 have ⟨Fc, Ff, Fl⟩ := F
 go_wp2_with fail
 have B6 : Below w.heap.size w (w5.alloc (.cells #[.int .i64 0, .int .i64 0] 27)) := by go_grown
 have q6 : w5.heap.size + 1 ≤ (w5.alloc (.cells #[.int .i64 0, .int .i64 0] 27)).heap.size := by simp only [World.size_alloc]; omega
 replace H := Hd (H.out.al (.cells #[.int .i64 0, .int .i64 0] 27))
 replace X := (X.alloc (.cells #[.int .i64 0, .int .i64 0] 27))
 replace F := (F.alloc (.cells #[.int .i64 0, .int .i64 0] 27))
 have Q := (Bk.new (r := w5.heap.size) (cs := [.int .i64 0, .int .i64 0]) w5 27 (by simp))
 clear Xc Xf Xl Fc Ff Fl
 generalize (w5.alloc (.cells #[.int .i64 0, .int .i64 0] 27)) = w6 at *
 have s6 := B6.size
 have ⟨Xc, Xf, Xl⟩ := X
 have ⟨Fc, Ff, Fl⟩ := F
 have ⟨Qc, Qf, Ql⟩ := Q
 refine (CT.out _ H.out).mono ?_
 rintro e w7 ⟨rfl, hb⟩
 have B7 := bcm w hb
 have q7 : w6.heap.size ≤ w7.heap.size := qle hb
 replace H := Hd (H.out.bl hb)
 replace X := X.bw hb
 replace F := F.bw hb
 replace Q := Q.bw hb
 clear hb
 have s7 := B7.size
 clear Xc Xf Xl Fc Ff Fl Qc Qf Ql
 have ⟨Xc, Xf, Xl⟩ := X
 have ⟨Fc, Ff, Fl⟩ := F
 have ⟨Qc, Qf, Ql⟩ := Q
 go_wp2_with fail
 refine (CP.out _).mono ?_
 rintro e w8 ⟨o5, k5, rfl, RA, hb⟩
 replace RA := Hd RA
 have B8 := bcm w hb
 have q8 : w7.heap.size ≤ w8.heap.size := qle hb
 replace H := Hd (H.out.bl hb)
 replace X := X.bw hb
 replace F := F.bw hb
 replace Q := Q.bw hb
 clear hb
 have s8 := B8.size
 clear Xc Xf Xl Fc Ff Fl Qc Qf Ql
 have ⟨Xc, Xf, Xl⟩ := X
 have ⟨Fc, Ff, Fl⟩ := F
 have ⟨Qc, Qf, Ql⟩ := Q
 go_wp2_with fail
 have B9 : Below w.heap.size w ((w8.alloc (.cells #[.slice o5 0 k5] 33)).alloc (.cells #[.int .i64 2, .int .i64 (-1)] 27)) := by go_grown
 have q9 : w8.heap.size + 2 ≤ ((w8.alloc (.cells #[.slice o5 0 k5] 33)).alloc (.cells #[.int .i64 2, .int .i64 (-1)] 27)).heap.size := by simp only [World.size_alloc]; omega
 replace H := Hd ((H.out.al (.cells #[.slice o5 0 k5] 33)).al (.cells #[.int .i64 2, .int .i64 (-1)] 27))
 replace RA := Hd ((RA.out.al (.cells #[.slice o5 0 k5] 33)).al (.cells #[.int .i64 2, .int .i64 (-1)] 27))
 replace X := ((X.alloc (.cells #[.slice o5 0 k5] 33)).alloc (.cells #[.int .i64 2, .int .i64 (-1)] 27))
 replace F := ((F.alloc (.cells #[.slice o5 0 k5] 33)).alloc (.cells #[.int .i64 2, .int .i64 (-1)] 27))
 replace Q := ((Q.alloc (.cells #[.slice o5 0 k5] 33)).alloc (.cells #[.int .i64 2, .int .i64 (-1)] 27))
 have P := ((Bk.new (r := w8.heap.size) (cs := [.slice o5 0 k5]) w8 33 (by simp)).alloc (.cells #[.int .i64 2, .int .i64 (-1)] 27))
 have G := (Bk.new (r := w8.heap.size + 1) (cs := [.int .i64 2, .int .i64 (-1)]) (w8.alloc (.cells #[.slice o5 0 k5] 33)) 27 (by simp))
 clear Xc Xf Xl Fc Ff Fl Qc Qf Ql
 generalize ((w8.alloc (.cells #[.slice o5 0 k5] 33)).alloc (.cells #[.int .i64 2, .int .i64 (-1)] 27)) = w9 at *
 have s9 := B9.size
 have ⟨Xc, Xf, Xl⟩ := X
 have ⟨Fc, Ff, Fl⟩ := F
 have ⟨Qc, Qf, Ql⟩ := Q
 have ⟨Pc, Pf, P_l⟩ := P
 have ⟨Gc, Gf, Gl⟩ := G
 refine wp_region_ord [0, 1, 2, 3, 4, 5, 6, 7, 8, 9] (by kernel_rfl) (by kernel_rfl) ?_
 have B10 : Below w.heap.size w w9.drew := by go_grown
 have q10 : w9.heap.size ≤ w9.drew.heap.size := by simp only [World.size_drew]; omega
 replace H := Hd (H.out.bl (Below.refl _ _).drew)
 replace RA := Hd (RA.out.bl (Below.refl _ _).drew)
 replace X := X.drew
 replace F := F.drew
 replace Q := Q.drew
 replace P := P.drew
 replace G := G.drew
 clear Xc Xf Xl Fc Ff Fl Qc Qf Ql Pc Pf P_l Gc Gf Gl
 generalize w9.drew = w10 at *
 have s10 := B10.size
 have ⟨Xc, Xf, Xl⟩ := X
 have ⟨Fc, Ff, Fl⟩ := F
 have ⟨Qc, Qf, Ql⟩ := Q
 have ⟨Pc, Pf, P_l⟩ := P
 have ⟨Gc, Gf, Gl⟩ := G
 repeat (first | (refine wpI_rd rfl rfl ?_; go_big_quiet_step (fail); refine wpQuiet_nil ?_) | (refine wpI_skip rfl rfl ?_; try simp only [pts]))
 try simp only [pts]
 refine wpI_call (f := 33) (args := #[.int .i64 2, .int .i64 (-1)]) rfl rfl rfl (by simp [go_sem]) ?_
 refine (lfault_at _ _ _).mono ?_
 rintro e w11 ⟨rfl, he11⟩
 have hb : Below w10.heap.size w10 w11 := by rw [he11]; exact (Below.refl _ _).alloc nle _
 clear he11
 refine ⟨_, rfl, hb, ?_⟩
 skip
 have B11 := bcm w hb
 have q11 : w10.heap.size ≤ w11.heap.size := qle hb
 replace H := Hd (H.out.bl hb)
 replace RA := Hd (RA.out.bl hb)
 replace X := X.bw hb
 replace F := F.bw hb
 replace Q := Q.bw hb
 replace P := P.bw hb
 replace G := G.bw hb
 clear hb
 have s11 := B11.size
 clear Xc Xf Xl Fc Ff Fl Qc Qf Ql Pc Pf P_l Gc Gf Gl
 have ⟨Xc, Xf, Xl⟩ := X
 have ⟨Fc, Ff, Fl⟩ := F
 have ⟨Qc, Qf, Ql⟩ := Q
 have ⟨Pc, Pf, P_l⟩ := P
 have ⟨Gc, Gf, Gl⟩ := G
 try simp only [pts]
 repeat (first | (refine wpI_rd rfl rfl ?_; go_big_quiet_step (fail); refine wpQuiet_nil ?_) | (refine wpI_skip rfl rfl ?_; try simp only [pts]))
 try simp only [pts]
 refine wpI_nil ?_
 try simp only [pts]
 go_wp2_with fail
 go_ret
 exact ⟨by first | rfl | simp, by go_grown⟩
set_option maxRecDepth 100000 in
set_option maxHeartbeats 16000000 in
theorem vtm_ok_short (r : List Pl.Ivl) (s : ByteArray) (a : Option Addr) (c : Nat) (w : World) (h : RIn w r a c) (hs : s.size ≤ 9223372036854775807) (EN : Env w) (er : Pl.rngF r = (0, 0)) (hl : s.size ≤ 4096) : Calls Tryz.prog 5 #[.agg #[.slice a r.length c], .string s] w fun e w' => e = .returned (.bool true) ∧ Below w.heap.size w w' := by
 have HE := Hd EN
 have H := Hd h
 have CF := Hd (fun (W : World) (g : RIn W r a c) => RangeFault_any r a c W g)
 have CS := Hd (fun (W : World) (g : RIn W r a c) (E : Env W) => rngFormat_any r a c W g E)
 rw [er] at CF CS
 have CT := Hd (fun (W : World) (g : RIn W r a c) => RangeText_any r a c W g (Pl.rng_ok (by rw [er])).2.ok (Pl.rng_ok (by rw [er])).1)
 have e1 : Pl.fmtR r = Pl.mkS (Pl.rngT r) := by unfold Pl.fmtR; rw [er]; rfl
 rw [e1] at CS
 generalize Pl.mkS (Pl.rngT r) = S at *
 obtain ⟨x1, x2⟩ := str_self S
 clear e1
 have CP := Hd (fun (W : World) (E : Env W) => rngParse_any s W hl E)
 have CO := Hd (fun (W : World) => RangeOf_any s W hl)
 have v1 : decide ((s.size : Int) > 4096) = false := decF (by omega)
 have v2 : decide ((4096 : Int) < (s.size : Int)) = false := decF (by omega)
 have v3 : decide (4096 < s.size) = false := decF (by omega)
 generalize Pl.prsV s = y at *
 obtain ⟨G, hG⟩ : ∃ G, Pl.prsF s = G := ⟨_, rfl⟩
 rw [hG] at CP CO
 obtain ⟨g1, g2⟩ := G
 delta RRngF at CP CO
 simp only [fltV] at CP CO
 delta RFmt at CS
 simp only [fltV] at CF CS
 clear h EN er hl hG
 go_enter Tryz.func5, Tryz.ntmps5
 have B0 := brl w
 go_wp2_with fail
 have B1 : Below w.heap.size w (w.alloc (.cells #[.slice a r.length c] 33)) := by go_grown
 have q1 : w.heap.size + 1 ≤ (w.alloc (.cells #[.slice a r.length c] 33)).heap.size := by simp only [World.size_alloc]; omega
 replace H := Hd (H.out.al (.cells #[.slice a r.length c] 33))
 have X := (Bk.new (r := w.heap.size) (cs := [.slice a r.length c]) w 33 (by simp))
 generalize (w.alloc (.cells #[.slice a r.length c] 33)) = w1 at *
 have s1 := B1.size
 have ⟨Xc, Xf, Xl⟩ := X
 refine (ranges_any _ (HE.out.bl B1)).mono ?_
 rintro e w2 ⟨rfl, hb⟩
 have B2 := bcm w hb
 have q2 : w1.heap.size ≤ w2.heap.size := qle hb
 replace H := Hd (H.out.bl hb)
 replace X := X.bw hb
 clear hb
 have s2 := B2.size
 clear Xc Xf Xl
 have ⟨Xc, Xf, Xl⟩ := X
 go_wp2_with fail
 refine (CF.out _ H.out).mono ?_
 rintro e w3 ⟨rfl, hb⟩
 have B3 := bcm w hb
 have q3 : w2.heap.size ≤ w3.heap.size := qle hb
 replace H := Hd (H.out.bl hb)
 replace X := X.bw hb
 clear hb
 have s3 := B3.size
 clear Xc Xf Xl
 have ⟨Xc, Xf, Xl⟩ := X
 go_wp2_with fail
 have B4 : Below w.heap.size w (w3.alloc (.cells #[.int .i64 0, .int .i64 0] 27)) := by go_grown
 have q4 : w3.heap.size + 1 ≤ (w3.alloc (.cells #[.int .i64 0, .int .i64 0] 27)).heap.size := by simp only [World.size_alloc]; omega
 replace H := Hd (H.out.al (.cells #[.int .i64 0, .int .i64 0] 27))
 replace X := (X.alloc (.cells #[.int .i64 0, .int .i64 0] 27))
 have F := (Bk.new (r := w3.heap.size) (cs := [.int .i64 0, .int .i64 0]) w3 27 (by simp))
 clear Xc Xf Xl
 generalize (w3.alloc (.cells #[.int .i64 0, .int .i64 0] 27)) = w4 at *
 have s4 := B4.size
 have ⟨Xc, Xf, Xl⟩ := X
 have ⟨Fc, Ff, Fl⟩ := F
 refine (CS.out _ H.out (HE.out.bl B4)).mono ?_
 rintro e w5 ⟨rfl, hb⟩
 have B5 := bcm w hb
 have q5 : w4.heap.size ≤ w5.heap.size := qle hb
 replace H := Hd (H.out.bl hb)
 replace X := X.bw hb
 replace F := F.bw hb
 clear hb
 have s5 := B5.size
 clear Xc Xf Xl Fc Ff Fl
 have ⟨Xc, Xf, Xl⟩ := X
 have ⟨Fc, Ff, Fl⟩ := F
 go_wp2_with fail
 have B6 : Below w.heap.size w (w5.alloc (.cells #[.int .i64 0, .int .i64 0] 27)) := by go_grown
 have q6 : w5.heap.size + 1 ≤ (w5.alloc (.cells #[.int .i64 0, .int .i64 0] 27)).heap.size := by simp only [World.size_alloc]; omega
 replace H := Hd (H.out.al (.cells #[.int .i64 0, .int .i64 0] 27))
 replace X := (X.alloc (.cells #[.int .i64 0, .int .i64 0] 27))
 replace F := (F.alloc (.cells #[.int .i64 0, .int .i64 0] 27))
 have Q := (Bk.new (r := w5.heap.size) (cs := [.int .i64 0, .int .i64 0]) w5 27 (by simp))
 clear Xc Xf Xl Fc Ff Fl
 generalize (w5.alloc (.cells #[.int .i64 0, .int .i64 0] 27)) = w6 at *
 have s6 := B6.size
 have ⟨Xc, Xf, Xl⟩ := X
 have ⟨Fc, Ff, Fl⟩ := F
 have ⟨Qc, Qf, Ql⟩ := Q
 refine (CT.out _ H.out).mono ?_
 rintro e w7 ⟨rfl, hb⟩
 have B7 := bcm w hb
 have q7 : w6.heap.size ≤ w7.heap.size := qle hb
 replace H := Hd (H.out.bl hb)
 replace X := X.bw hb
 replace F := F.bw hb
 replace Q := Q.bw hb
 clear hb
 have s7 := B7.size
 clear Xc Xf Xl Fc Ff Fl Qc Qf Ql
 have ⟨Xc, Xf, Xl⟩ := X
 have ⟨Fc, Ff, Fl⟩ := F
 have ⟨Qc, Qf, Ql⟩ := Q
 go_wp2_with fail
 refine (CP.out _ (HE.out.bl B7)).mono ?_
 rintro e w8 ⟨o5, k5, rfl, RA, hb⟩
 replace RA := Hd RA
 have B8 := bcm w hb
 have q8 : w7.heap.size ≤ w8.heap.size := qle hb
 replace H := Hd (H.out.bl hb)
 replace X := X.bw hb
 replace F := F.bw hb
 replace Q := Q.bw hb
 clear hb
 have s8 := B8.size
 clear Xc Xf Xl Fc Ff Fl Qc Qf Ql
 have ⟨Xc, Xf, Xl⟩ := X
 have ⟨Fc, Ff, Fl⟩ := F
 have ⟨Qc, Qf, Ql⟩ := Q
 go_wp2_with fail
 have B9 : Below w.heap.size w ((w8.alloc (.cells #[.slice o5 y.length k5] 33)).alloc (.cells #[.int .i64 g1, .int .i64 g2] 27)) := by go_grown
 have q9 : w8.heap.size + 2 ≤ ((w8.alloc (.cells #[.slice o5 y.length k5] 33)).alloc (.cells #[.int .i64 g1, .int .i64 g2] 27)).heap.size := by simp only [World.size_alloc]; omega
 replace H := Hd ((H.out.al (.cells #[.slice o5 y.length k5] 33)).al (.cells #[.int .i64 g1, .int .i64 g2] 27))
 replace RA := Hd ((RA.out.al (.cells #[.slice o5 y.length k5] 33)).al (.cells #[.int .i64 g1, .int .i64 g2] 27))
 replace X := ((X.alloc (.cells #[.slice o5 y.length k5] 33)).alloc (.cells #[.int .i64 g1, .int .i64 g2] 27))
 replace F := ((F.alloc (.cells #[.slice o5 y.length k5] 33)).alloc (.cells #[.int .i64 g1, .int .i64 g2] 27))
 replace Q := ((Q.alloc (.cells #[.slice o5 y.length k5] 33)).alloc (.cells #[.int .i64 g1, .int .i64 g2] 27))
 have P := ((Bk.new (r := w8.heap.size) (cs := [.slice o5 y.length k5]) w8 33 (by simp)).alloc (.cells #[.int .i64 g1, .int .i64 g2] 27))
 have G := (Bk.new (r := w8.heap.size + 1) (cs := [.int .i64 g1, .int .i64 g2]) (w8.alloc (.cells #[.slice o5 y.length k5] 33)) 27 (by simp))
 clear Xc Xf Xl Fc Ff Fl Qc Qf Ql
 generalize ((w8.alloc (.cells #[.slice o5 y.length k5] 33)).alloc (.cells #[.int .i64 g1, .int .i64 g2] 27)) = w9 at *
 have s9 := B9.size
 have ⟨Xc, Xf, Xl⟩ := X
 have ⟨Fc, Ff, Fl⟩ := F
 have ⟨Qc, Qf, Ql⟩ := Q
 have ⟨Pc, Pf, P_l⟩ := P
 have ⟨Gc, Gf, Gl⟩ := G
 refine (CO.out _).mono ?_
 rintro e w10 ⟨o6, k6, rfl, RB, hb⟩
 replace RB := Hd RB
 have B10 := bcm w hb
 have q10 : w9.heap.size ≤ w10.heap.size := qle hb
 replace H := Hd (H.out.bl hb)
 replace RA := Hd (RA.out.bl hb)
 replace X := X.bw hb
 replace F := F.bw hb
 replace Q := Q.bw hb
 replace P := P.bw hb
 replace G := G.bw hb
 clear hb
 have s10 := B10.size
 clear Xc Xf Xl Fc Ff Fl Qc Qf Ql Pc Pf P_l Gc Gf Gl
 have ⟨Xc, Xf, Xl⟩ := X
 have ⟨Fc, Ff, Fl⟩ := F
 have ⟨Qc, Qf, Ql⟩ := Q
 have ⟨Pc, Pf, P_l⟩ := P
 have ⟨Gc, Gf, Gl⟩ := G
 go_wp2_with fail
 have B11 : Below w.heap.size w (((w10.setCell ⟨w3.heap.size, 0, none⟩ (.int .i64 g1)).setCell ⟨w3.heap.size, 1, none⟩ (.int .i64 g2)).alloc (.cells #[.slice o6 y.length k6] 33)) := by go_grown
 have q11 : w10.heap.size + 1 ≤ (((w10.setCell ⟨w3.heap.size, 0, none⟩ (.int .i64 g1)).setCell ⟨w3.heap.size, 1, none⟩ (.int .i64 g2)).alloc (.cells #[.slice o6 y.length k6] 33)).heap.size := by simp only [World.size_alloc, World.size_setCell]; omega
 replace H := Hd (((H.out.setBk F (by simp) (j := 0) rfl (by nofun) (.int .i64 g1)).setBk (F.st 0 (.int .i64 g1)) (by simp) (j := 1) rfl (by nofun) (.int .i64 g2)).al (.cells #[.slice o6 y.length k6] 33))
 replace RA := Hd (((RA.out.setBk F (by simp) (j := 0) rfl (by nofun) (.int .i64 g1)).setBk (F.st 0 (.int .i64 g1)) (by simp) (j := 1) rfl (by nofun) (.int .i64 g2)).al (.cells #[.slice o6 y.length k6] 33))
 replace RB := Hd (((RB.out.setBk F (by simp) (j := 0) rfl (by nofun) (.int .i64 g1)).setBk (F.st 0 (.int .i64 g1)) (by simp) (j := 1) rfl (by nofun) (.int .i64 g2)).al (.cells #[.slice o6 y.length k6] 33))
 replace X := (((X.fr w3.heap.size 0 (by omega) (.int .i64 g1)).fr w3.heap.size 1 (by omega) (.int .i64 g2)).alloc (.cells #[.slice o6 y.length k6] 33))
 replace F := (((F.st 0 (.int .i64 g1)).st 1 (.int .i64 g2)).alloc (.cells #[.slice o6 y.length k6] 33))
 replace Q := (((Q.fr w3.heap.size 0 (by omega) (.int .i64 g1)).fr w3.heap.size 1 (by omega) (.int .i64 g2)).alloc (.cells #[.slice o6 y.length k6] 33))
 replace P := (((P.fr w3.heap.size 0 (by omega) (.int .i64 g1)).fr w3.heap.size 1 (by omega) (.int .i64 g2)).alloc (.cells #[.slice o6 y.length k6] 33))
 replace G := (((G.fr w3.heap.size 0 (by omega) (.int .i64 g1)).fr w3.heap.size 1 (by omega) (.int .i64 g2)).alloc (.cells #[.slice o6 y.length k6] 33))
 have Y := (Bk.new (r := w10.heap.size) (cs := [.slice o6 y.length k6]) ((w10.setCell ⟨w3.heap.size, 0, none⟩ (.int .i64 g1)).setCell ⟨w3.heap.size, 1, none⟩ (.int .i64 g2)) 33 (by simp))
 clear Xc Xf Xl Fc Ff Fl Qc Qf Ql Pc Pf P_l Gc Gf Gl
 generalize (((w10.setCell ⟨w3.heap.size, 0, none⟩ (.int .i64 g1)).setCell ⟨w3.heap.size, 1, none⟩ (.int .i64 g2)).alloc (.cells #[.slice o6 y.length k6] 33)) = w11 at *
 have s11 := B11.size
 have ⟨Xc, Xf, Xl⟩ := X
 have ⟨Fc, Ff, Fl⟩ := F
 have ⟨Qc, Qf, Ql⟩ := Q
 have ⟨Pc, Pf, P_l⟩ := P
 have ⟨Gc, Gf, Gl⟩ := G
 have ⟨Yc, Yf, Yl⟩ := Y
 refine (same_self y _ _ _ _ _ RA.out RB.out).mono ?_
 rintro e w12 ⟨rfl, hb⟩
 have B12 := bcm w hb
 have q12 : w11.heap.size ≤ w12.heap.size := qle hb
 replace H := Hd (H.out.bl hb)
 replace RA := Hd (RA.out.bl hb)
 replace RB := Hd (RB.out.bl hb)
 replace X := X.bw hb
 replace F := F.bw hb
 replace Q := Q.bw hb
 replace P := P.bw hb
 replace G := G.bw hb
 replace Y := Y.bw hb
 clear hb
 have s12 := B12.size
 clear Xc Xf Xl Fc Ff Fl Qc Qf Ql Pc Pf P_l Gc Gf Gl Yc Yf Yl
 have ⟨Xc, Xf, Xl⟩ := X
 have ⟨Fc, Ff, Fl⟩ := F
 have ⟨Qc, Qf, Ql⟩ := Q
 have ⟨Pc, Pf, P_l⟩ := P
 have ⟨Gc, Gf, Gl⟩ := G
 have ⟨Yc, Yf, Yl⟩ := Y
 go_wp2_with fail
 go_ret
 exact ⟨by first | rfl | simp, by go_grown⟩
set_option maxRecDepth 100000 in
set_option maxHeartbeats 16000000 in
theorem vtm_bad_long (r : List Pl.Ivl) (s : ByteArray) (a : Option Addr) (c : Nat) (w : World) (h : RIn w r a c) (hs : s.size ≤ 9223372036854775807) (EN : Env w) (f1 f2 : Int) (er : Pl.rngF r = (f1, f2)) (hf : f1 ≠ 0) (hl : 4096 < s.size) : Calls Tryz.prog 5 #[.agg #[.slice a r.length c], .string s] w fun e w' => e = .returned (.bool true) ∧ Below w.heap.size w w' := by
 have HE := Hd EN
 have H := Hd h
 have CF := Hd (fun (W : World) (g : RIn W r a c) => RangeFault_any r a c W g)
 have CS := Hd (fun (W : World) (g : RIn W r a c) (E : Env W) => rngFormat_any r a c W g E)
 rw [er] at CF CS
 have e1 : Pl.fmtR r = ⟨#[]⟩ := by unfold Pl.fmtR; rw [er, if_pos hf]; rfl
 rw [e1] at CS
 have u1 : (f1 == 0) = false := beqF hf
 have u2 : (f1 != 0) = true := bneT hf
 obtain ⟨x1, x2⟩ := str_self ⟨#[]⟩
 obtain ⟨x3, x4⟩ := str_none (X := (⟨#[]⟩ : ByteArray)) (l := []) rfl rfl
 have x5 : ((⟨#[]⟩ : ByteArray).toList != []) = false := by rw [x3]; rfl
 clear e1 hf
 have CP := Hd (fun (W : World) => rngParse_long s W hs hl)
 rw [show Pl.prsV s = [] from if_pos hl, show Pl.prsF s = (2, -1) from if_pos hl] at CP
 have v1 : decide ((s.size : Int) > 4096) = true := decT (by omega)
 have v2 : decide ((4096 : Int) < (s.size : Int)) = true := decT (by omega)
 have v3 : decide (4096 < s.size) = true := decT hl
 delta RRngF at CP
 simp only [fltV] at CP
 delta RFmt at CS
 simp only [fltV] at CF CS
 clear h EN er hl
 go_enter Tryz.func5, Tryz.ntmps5
 have B0 := brl w
 go_wp2_with fail
 have B1 : Below w.heap.size w (w.alloc (.cells #[.slice a r.length c] 33)) := by go_grown
 have q1 : w.heap.size + 1 ≤ (w.alloc (.cells #[.slice a r.length c] 33)).heap.size := by simp only [World.size_alloc]; omega
 replace H := Hd (H.out.al (.cells #[.slice a r.length c] 33))
 have X := (Bk.new (r := w.heap.size) (cs := [.slice a r.length c]) w 33 (by simp))
 generalize (w.alloc (.cells #[.slice a r.length c] 33)) = w1 at *
 have s1 := B1.size
 have ⟨Xc, Xf, Xl⟩ := X
 refine (ranges_any _ (HE.out.bl B1)).mono ?_
 rintro e w2 ⟨rfl, hb⟩
 have B2 := bcm w hb
 have q2 : w1.heap.size ≤ w2.heap.size := qle hb
 replace H := Hd (H.out.bl hb)
 replace X := X.bw hb
 clear hb
 have s2 := B2.size
 clear Xc Xf Xl
 have ⟨Xc, Xf, Xl⟩ := X
 go_wp2_with fail
 refine (CF.out _ H.out).mono ?_
 rintro e w3 ⟨rfl, hb⟩
 have B3 := bcm w hb
 have q3 : w2.heap.size ≤ w3.heap.size := qle hb
 replace H := Hd (H.out.bl hb)
 replace X := X.bw hb
 clear hb
 have s3 := B3.size
 clear Xc Xf Xl
 have ⟨Xc, Xf, Xl⟩ := X
 go_wp2_with fail
 have B4 : Below w.heap.size w (w3.alloc (.cells #[.int .i64 f1, .int .i64 f2] 27)) := by go_grown
 have q4 : w3.heap.size + 1 ≤ (w3.alloc (.cells #[.int .i64 f1, .int .i64 f2] 27)).heap.size := by simp only [World.size_alloc]; omega
 replace H := Hd (H.out.al (.cells #[.int .i64 f1, .int .i64 f2] 27))
 replace X := (X.alloc (.cells #[.int .i64 f1, .int .i64 f2] 27))
 have F := (Bk.new (r := w3.heap.size) (cs := [.int .i64 f1, .int .i64 f2]) w3 27 (by simp))
 clear Xc Xf Xl
 generalize (w3.alloc (.cells #[.int .i64 f1, .int .i64 f2] 27)) = w4 at *
 have s4 := B4.size
 have ⟨Xc, Xf, Xl⟩ := X
 have ⟨Fc, Ff, Fl⟩ := F
 refine (CS.out _ H.out (HE.out.bl B4)).mono ?_
 rintro e w5 ⟨rfl, hb⟩
 have B5 := bcm w hb
 have q5 : w4.heap.size ≤ w5.heap.size := qle hb
 replace H := Hd (H.out.bl hb)
 replace X := X.bw hb
 replace F := F.bw hb
 clear hb
 have s5 := B5.size
 clear Xc Xf Xl Fc Ff Fl
 have ⟨Xc, Xf, Xl⟩ := X
 have ⟨Fc, Ff, Fl⟩ := F
 go_wp2_with fail
 have B6 : Below w.heap.size w (w5.alloc (.cells #[.int .i64 f1, .int .i64 f2] 27)) := by go_grown
 have q6 : w5.heap.size + 1 ≤ (w5.alloc (.cells #[.int .i64 f1, .int .i64 f2] 27)).heap.size := by simp only [World.size_alloc]; omega
 replace H := Hd (H.out.al (.cells #[.int .i64 f1, .int .i64 f2] 27))
 replace X := (X.alloc (.cells #[.int .i64 f1, .int .i64 f2] 27))
 replace F := (F.alloc (.cells #[.int .i64 f1, .int .i64 f2] 27))
 have Q := (Bk.new (r := w5.heap.size) (cs := [.int .i64 f1, .int .i64 f2]) w5 27 (by simp))
 clear Xc Xf Xl Fc Ff Fl
 generalize (w5.alloc (.cells #[.int .i64 f1, .int .i64 f2] 27)) = w6 at *
 have s6 := B6.size
 have ⟨Xc, Xf, Xl⟩ := X
 have ⟨Fc, Ff, Fl⟩ := F
 have ⟨Qc, Qf, Ql⟩ := Q
 refine (CP.out _).mono ?_
 rintro e w7 ⟨o5, k5, rfl, RA, hb⟩
 replace RA := Hd RA
 have B7 := bcm w hb
 have q7 : w6.heap.size ≤ w7.heap.size := qle hb
 replace H := Hd (H.out.bl hb)
 replace X := X.bw hb
 replace F := F.bw hb
 replace Q := Q.bw hb
 clear hb
 have s7 := B7.size
 clear Xc Xf Xl Fc Ff Fl Qc Qf Ql
 have ⟨Xc, Xf, Xl⟩ := X
 have ⟨Fc, Ff, Fl⟩ := F
 have ⟨Qc, Qf, Ql⟩ := Q
 go_wp2_with fail
 have B8 : Below w.heap.size w ((w7.alloc (.cells #[.slice o5 0 k5] 33)).alloc (.cells #[.int .i64 2, .int .i64 (-1)] 27)) := by go_grown
 have q8 : w7.heap.size + 2 ≤ ((w7.alloc (.cells #[.slice o5 0 k5] 33)).alloc (.cells #[.int .i64 2, .int .i64 (-1)] 27)).heap.size := by simp only [World.size_alloc]; omega
 replace H := Hd ((H.out.al (.cells #[.slice o5 0 k5] 33)).al (.cells #[.int .i64 2, .int .i64 (-1)] 27))
 replace RA := Hd ((RA.out.al (.cells #[.slice o5 0 k5] 33)).al (.cells #[.int .i64 2, .int .i64 (-1)] 27))
 replace X := ((X.alloc (.cells #[.slice o5 0 k5] 33)).alloc (.cells #[.int .i64 2, .int .i64 (-1)] 27))
 replace F := ((F.alloc (.cells #[.slice o5 0 k5] 33)).alloc (.cells #[.int .i64 2, .int .i64 (-1)] 27))
 replace Q := ((Q.alloc (.cells #[.slice o5 0 k5] 33)).alloc (.cells #[.int .i64 2, .int .i64 (-1)] 27))
 have P := ((Bk.new (r := w7.heap.size) (cs := [.slice o5 0 k5]) w7 33 (by simp)).alloc (.cells #[.int .i64 2, .int .i64 (-1)] 27))
 have G := (Bk.new (r := w7.heap.size + 1) (cs := [.int .i64 2, .int .i64 (-1)]) (w7.alloc (.cells #[.slice o5 0 k5] 33)) 27 (by simp))
 clear Xc Xf Xl Fc Ff Fl Qc Qf Ql
 generalize ((w7.alloc (.cells #[.slice o5 0 k5] 33)).alloc (.cells #[.int .i64 2, .int .i64 (-1)] 27)) = w8 at *
 have s8 := B8.size
 have ⟨Xc, Xf, Xl⟩ := X
 have ⟨Fc, Ff, Fl⟩ := F
 have ⟨Qc, Qf, Ql⟩ := Q
 have ⟨Pc, Pf, P_l⟩ := P
 have ⟨Gc, Gf, Gl⟩ := G
 refine wp_region_ord [0, 1, 2, 3, 4, 5, 6, 7, 8, 9] (by kernel_rfl) (by kernel_rfl) ?_
 have B9 : Below w.heap.size w w8.drew := by go_grown
 have q9 : w8.heap.size ≤ w8.drew.heap.size := by simp only [World.size_drew]; omega
 replace H := Hd (H.out.bl (Below.refl _ _).drew)
 replace RA := Hd (RA.out.bl (Below.refl _ _).drew)
 replace X := X.drew
 replace F := F.drew
 replace Q := Q.drew
 replace P := P.drew
 replace G := G.drew
 clear Xc Xf Xl Fc Ff Fl Qc Qf Ql Pc Pf P_l Gc Gf Gl
 generalize w8.drew = w9 at *
 have s9 := B9.size
 have ⟨Xc, Xf, Xl⟩ := X
 have ⟨Fc, Ff, Fl⟩ := F
 have ⟨Qc, Qf, Ql⟩ := Q
 have ⟨Pc, Pf, P_l⟩ := P
 have ⟨Gc, Gf, Gl⟩ := G
 repeat (first | (refine wpI_rd rfl rfl ?_; go_big_quiet_step (fail); refine wpQuiet_nil ?_) | (refine wpI_skip rfl rfl ?_; try simp only [pts]))
 try simp only [pts]
 refine wpI_call (f := 33) (args := #[.int .i64 2, .int .i64 (-1)]) rfl rfl rfl (by simp [go_sem]) ?_
 refine (lfault_at _ _ _).mono ?_
 rintro e w10 ⟨rfl, he10⟩
 have hb : Below w9.heap.size w9 w10 := by rw [he10]; exact (Below.refl _ _).alloc nle _
 clear he10
 refine ⟨_, rfl, hb, ?_⟩
 skip
 have B10 := bcm w hb
 have q10 : w9.heap.size ≤ w10.heap.size := qle hb
 replace H := Hd (H.out.bl hb)
 replace RA := Hd (RA.out.bl hb)
 replace X := X.bw hb
 replace F := F.bw hb
 replace Q := Q.bw hb
 replace P := P.bw hb
 replace G := G.bw hb
 clear hb
 have s10 := B10.size
 clear Xc Xf Xl Fc Ff Fl Qc Qf Ql Pc Pf P_l Gc Gf Gl
 have ⟨Xc, Xf, Xl⟩ := X
 have ⟨Fc, Ff, Fl⟩ := F
 have ⟨Qc, Qf, Ql⟩ := Q
 have ⟨Pc, Pf, P_l⟩ := P
 have ⟨Gc, Gf, Gl⟩ := G
 try simp only [pts]
 repeat (first | (refine wpI_rd rfl rfl ?_; go_big_quiet_step (fail); refine wpQuiet_nil ?_) | (refine wpI_skip rfl rfl ?_; try simp only [pts]))
 try simp only [pts]
 refine wpI_nil ?_
 try simp only [pts]
 go_wp2_with fail
 go_ret
 exact ⟨by first | rfl | simp, by go_grown⟩
set_option maxRecDepth 100000 in
set_option maxHeartbeats 16000000 in
theorem vtm_bad_short (r : List Pl.Ivl) (s : ByteArray) (a : Option Addr) (c : Nat) (w : World) (h : RIn w r a c) (hs : s.size ≤ 9223372036854775807) (EN : Env w) (f1 f2 : Int) (er : Pl.rngF r = (f1, f2)) (hf : f1 ≠ 0) (hl : s.size ≤ 4096) : Calls Tryz.prog 5 #[.agg #[.slice a r.length c], .string s] w fun e w' => e = .returned (.bool true) ∧ Below w.heap.size w w' := by
 have HE := Hd EN
 have H := Hd h
 have CF := Hd (fun (W : World) (g : RIn W r a c) => RangeFault_any r a c W g)
 have CS := Hd (fun (W : World) (g : RIn W r a c) (E : Env W) => rngFormat_any r a c W g E)
 rw [er] at CF CS
 have e1 : Pl.fmtR r = ⟨#[]⟩ := by unfold Pl.fmtR; rw [er, if_pos hf]; rfl
 rw [e1] at CS
 have u1 : (f1 == 0) = false := beqF hf
 have u2 : (f1 != 0) = true := bneT hf
 obtain ⟨x1, x2⟩ := str_self ⟨#[]⟩
 obtain ⟨x3, x4⟩ := str_none (X := (⟨#[]⟩ : ByteArray)) (l := []) rfl rfl
 have x5 : ((⟨#[]⟩ : ByteArray).toList != []) = false := by rw [x3]; rfl
 clear e1 hf
 have CP := Hd (fun (W : World) (E : Env W) => rngParse_any s W hl E)
 have CO := Hd (fun (W : World) => RangeOf_any s W hl)
 have v1 : decide ((s.size : Int) > 4096) = false := decF (by omega)
 have v2 : decide ((4096 : Int) < (s.size : Int)) = false := decF (by omega)
 have v3 : decide (4096 < s.size) = false := decF (by omega)
 generalize Pl.prsV s = y at *
 obtain ⟨G, hG⟩ : ∃ G, Pl.prsF s = G := ⟨_, rfl⟩
 rw [hG] at CP CO
 obtain ⟨g1, g2⟩ := G
 delta RRngF at CP CO
 simp only [fltV] at CP CO
 delta RFmt at CS
 simp only [fltV] at CF CS
 clear h EN er hl hG
 go_enter Tryz.func5, Tryz.ntmps5
 have B0 := brl w
 go_wp2_with fail
 have B1 : Below w.heap.size w (w.alloc (.cells #[.slice a r.length c] 33)) := by go_grown
 have q1 : w.heap.size + 1 ≤ (w.alloc (.cells #[.slice a r.length c] 33)).heap.size := by simp only [World.size_alloc]; omega
 replace H := Hd (H.out.al (.cells #[.slice a r.length c] 33))
 have X := (Bk.new (r := w.heap.size) (cs := [.slice a r.length c]) w 33 (by simp))
 generalize (w.alloc (.cells #[.slice a r.length c] 33)) = w1 at *
 have s1 := B1.size
 have ⟨Xc, Xf, Xl⟩ := X
 refine (ranges_any _ (HE.out.bl B1)).mono ?_
 rintro e w2 ⟨rfl, hb⟩
 have B2 := bcm w hb
 have q2 : w1.heap.size ≤ w2.heap.size := qle hb
 replace H := Hd (H.out.bl hb)
 replace X := X.bw hb
 clear hb
 have s2 := B2.size
 clear Xc Xf Xl
 have ⟨Xc, Xf, Xl⟩ := X
 go_wp2_with fail
 refine (CF.out _ H.out).mono ?_
 rintro e w3 ⟨rfl, hb⟩
 have B3 := bcm w hb
 have q3 : w2.heap.size ≤ w3.heap.size := qle hb
 replace H := Hd (H.out.bl hb)
 replace X := X.bw hb
 clear hb
 have s3 := B3.size
 clear Xc Xf Xl
 have ⟨Xc, Xf, Xl⟩ := X
 go_wp2_with fail
 have B4 : Below w.heap.size w (w3.alloc (.cells #[.int .i64 f1, .int .i64 f2] 27)) := by go_grown
 have q4 : w3.heap.size + 1 ≤ (w3.alloc (.cells #[.int .i64 f1, .int .i64 f2] 27)).heap.size := by simp only [World.size_alloc]; omega
 replace H := Hd (H.out.al (.cells #[.int .i64 f1, .int .i64 f2] 27))
 replace X := (X.alloc (.cells #[.int .i64 f1, .int .i64 f2] 27))
 have F := (Bk.new (r := w3.heap.size) (cs := [.int .i64 f1, .int .i64 f2]) w3 27 (by simp))
 clear Xc Xf Xl
 generalize (w3.alloc (.cells #[.int .i64 f1, .int .i64 f2] 27)) = w4 at *
 have s4 := B4.size
 have ⟨Xc, Xf, Xl⟩ := X
 have ⟨Fc, Ff, Fl⟩ := F
 refine (CS.out _ H.out (HE.out.bl B4)).mono ?_
 rintro e w5 ⟨rfl, hb⟩
 have B5 := bcm w hb
 have q5 : w4.heap.size ≤ w5.heap.size := qle hb
 replace H := Hd (H.out.bl hb)
 replace X := X.bw hb
 replace F := F.bw hb
 clear hb
 have s5 := B5.size
 clear Xc Xf Xl Fc Ff Fl
 have ⟨Xc, Xf, Xl⟩ := X
 have ⟨Fc, Ff, Fl⟩ := F
 go_wp2_with fail
 have B6 : Below w.heap.size w (w5.alloc (.cells #[.int .i64 f1, .int .i64 f2] 27)) := by go_grown
 have q6 : w5.heap.size + 1 ≤ (w5.alloc (.cells #[.int .i64 f1, .int .i64 f2] 27)).heap.size := by simp only [World.size_alloc]; omega
 replace H := Hd (H.out.al (.cells #[.int .i64 f1, .int .i64 f2] 27))
 replace X := (X.alloc (.cells #[.int .i64 f1, .int .i64 f2] 27))
 replace F := (F.alloc (.cells #[.int .i64 f1, .int .i64 f2] 27))
 have Q := (Bk.new (r := w5.heap.size) (cs := [.int .i64 f1, .int .i64 f2]) w5 27 (by simp))
 clear Xc Xf Xl Fc Ff Fl
 generalize (w5.alloc (.cells #[.int .i64 f1, .int .i64 f2] 27)) = w6 at *
 have s6 := B6.size
 have ⟨Xc, Xf, Xl⟩ := X
 have ⟨Fc, Ff, Fl⟩ := F
 have ⟨Qc, Qf, Ql⟩ := Q
 refine (CP.out _ (HE.out.bl B6)).mono ?_
 rintro e w7 ⟨o5, k5, rfl, RA, hb⟩
 replace RA := Hd RA
 have B7 := bcm w hb
 have q7 : w6.heap.size ≤ w7.heap.size := qle hb
 replace H := Hd (H.out.bl hb)
 replace X := X.bw hb
 replace F := F.bw hb
 replace Q := Q.bw hb
 clear hb
 have s7 := B7.size
 clear Xc Xf Xl Fc Ff Fl Qc Qf Ql
 have ⟨Xc, Xf, Xl⟩ := X
 have ⟨Fc, Ff, Fl⟩ := F
 have ⟨Qc, Qf, Ql⟩ := Q
 go_wp2_with fail
 have B8 : Below w.heap.size w ((w7.alloc (.cells #[.slice o5 y.length k5] 33)).alloc (.cells #[.int .i64 g1, .int .i64 g2] 27)) := by go_grown
 have q8 : w7.heap.size + 2 ≤ ((w7.alloc (.cells #[.slice o5 y.length k5] 33)).alloc (.cells #[.int .i64 g1, .int .i64 g2] 27)).heap.size := by simp only [World.size_alloc]; omega
 replace H := Hd ((H.out.al (.cells #[.slice o5 y.length k5] 33)).al (.cells #[.int .i64 g1, .int .i64 g2] 27))
 replace RA := Hd ((RA.out.al (.cells #[.slice o5 y.length k5] 33)).al (.cells #[.int .i64 g1, .int .i64 g2] 27))
 replace X := ((X.alloc (.cells #[.slice o5 y.length k5] 33)).alloc (.cells #[.int .i64 g1, .int .i64 g2] 27))
 replace F := ((F.alloc (.cells #[.slice o5 y.length k5] 33)).alloc (.cells #[.int .i64 g1, .int .i64 g2] 27))
 replace Q := ((Q.alloc (.cells #[.slice o5 y.length k5] 33)).alloc (.cells #[.int .i64 g1, .int .i64 g2] 27))
 have P := ((Bk.new (r := w7.heap.size) (cs := [.slice o5 y.length k5]) w7 33 (by simp)).alloc (.cells #[.int .i64 g1, .int .i64 g2] 27))
 have G := (Bk.new (r := w7.heap.size + 1) (cs := [.int .i64 g1, .int .i64 g2]) (w7.alloc (.cells #[.slice o5 y.length k5] 33)) 27 (by simp))
 clear Xc Xf Xl Fc Ff Fl Qc Qf Ql
 generalize ((w7.alloc (.cells #[.slice o5 y.length k5] 33)).alloc (.cells #[.int .i64 g1, .int .i64 g2] 27)) = w8 at *
 have s8 := B8.size
 have ⟨Xc, Xf, Xl⟩ := X
 have ⟨Fc, Ff, Fl⟩ := F
 have ⟨Qc, Qf, Ql⟩ := Q
 have ⟨Pc, Pf, P_l⟩ := P
 have ⟨Gc, Gf, Gl⟩ := G
 refine (CO.out _).mono ?_
 rintro e w9 ⟨o6, k6, rfl, RB, hb⟩
 replace RB := Hd RB
 have B9 := bcm w hb
 have q9 : w8.heap.size ≤ w9.heap.size := qle hb
 replace H := Hd (H.out.bl hb)
 replace RA := Hd (RA.out.bl hb)
 replace X := X.bw hb
 replace F := F.bw hb
 replace Q := Q.bw hb
 replace P := P.bw hb
 replace G := G.bw hb
 clear hb
 have s9 := B9.size
 clear Xc Xf Xl Fc Ff Fl Qc Qf Ql Pc Pf P_l Gc Gf Gl
 have ⟨Xc, Xf, Xl⟩ := X
 have ⟨Fc, Ff, Fl⟩ := F
 have ⟨Qc, Qf, Ql⟩ := Q
 have ⟨Pc, Pf, P_l⟩ := P
 have ⟨Gc, Gf, Gl⟩ := G
 go_wp2_with fail
 have B10 : Below w.heap.size w (((w9.setCell ⟨w3.heap.size, 0, none⟩ (.int .i64 g1)).setCell ⟨w3.heap.size, 1, none⟩ (.int .i64 g2)).alloc (.cells #[.slice o6 y.length k6] 33)) := by go_grown
 have q10 : w9.heap.size + 1 ≤ (((w9.setCell ⟨w3.heap.size, 0, none⟩ (.int .i64 g1)).setCell ⟨w3.heap.size, 1, none⟩ (.int .i64 g2)).alloc (.cells #[.slice o6 y.length k6] 33)).heap.size := by simp only [World.size_alloc, World.size_setCell]; omega
 replace H := Hd (((H.out.setBk F (by simp) (j := 0) rfl (by nofun) (.int .i64 g1)).setBk (F.st 0 (.int .i64 g1)) (by simp) (j := 1) rfl (by nofun) (.int .i64 g2)).al (.cells #[.slice o6 y.length k6] 33))
 replace RA := Hd (((RA.out.setBk F (by simp) (j := 0) rfl (by nofun) (.int .i64 g1)).setBk (F.st 0 (.int .i64 g1)) (by simp) (j := 1) rfl (by nofun) (.int .i64 g2)).al (.cells #[.slice o6 y.length k6] 33))
 replace RB := Hd (((RB.out.setBk F (by simp) (j := 0) rfl (by nofun) (.int .i64 g1)).setBk (F.st 0 (.int .i64 g1)) (by simp) (j := 1) rfl (by nofun) (.int .i64 g2)).al (.cells #[.slice o6 y.length k6] 33))
 replace X := (((X.fr w3.heap.size 0 (by omega) (.int .i64 g1)).fr w3.heap.size 1 (by omega) (.int .i64 g2)).alloc (.cells #[.slice o6 y.length k6] 33))
 replace F := (((F.st 0 (.int .i64 g1)).st 1 (.int .i64 g2)).alloc (.cells #[.slice o6 y.length k6] 33))
 replace Q := (((Q.fr w3.heap.size 0 (by omega) (.int .i64 g1)).fr w3.heap.size 1 (by omega) (.int .i64 g2)).alloc (.cells #[.slice o6 y.length k6] 33))
 replace P := (((P.fr w3.heap.size 0 (by omega) (.int .i64 g1)).fr w3.heap.size 1 (by omega) (.int .i64 g2)).alloc (.cells #[.slice o6 y.length k6] 33))
 replace G := (((G.fr w3.heap.size 0 (by omega) (.int .i64 g1)).fr w3.heap.size 1 (by omega) (.int .i64 g2)).alloc (.cells #[.slice o6 y.length k6] 33))
 have Y := (Bk.new (r := w9.heap.size) (cs := [.slice o6 y.length k6]) ((w9.setCell ⟨w3.heap.size, 0, none⟩ (.int .i64 g1)).setCell ⟨w3.heap.size, 1, none⟩ (.int .i64 g2)) 33 (by simp))
 clear Xc Xf Xl Fc Ff Fl Qc Qf Ql Pc Pf P_l Gc Gf Gl
 generalize (((w9.setCell ⟨w3.heap.size, 0, none⟩ (.int .i64 g1)).setCell ⟨w3.heap.size, 1, none⟩ (.int .i64 g2)).alloc (.cells #[.slice o6 y.length k6] 33)) = w10 at *
 have s10 := B10.size
 have ⟨Xc, Xf, Xl⟩ := X
 have ⟨Fc, Ff, Fl⟩ := F
 have ⟨Qc, Qf, Ql⟩ := Q
 have ⟨Pc, Pf, P_l⟩ := P
 have ⟨Gc, Gf, Gl⟩ := G
 have ⟨Yc, Yf, Yl⟩ := Y
 refine (same_self y _ _ _ _ _ RA.out RB.out).mono ?_
 rintro e w11 ⟨rfl, hb⟩
 have B11 := bcm w hb
 have q11 : w10.heap.size ≤ w11.heap.size := qle hb
 replace H := Hd (H.out.bl hb)
 replace RA := Hd (RA.out.bl hb)
 replace RB := Hd (RB.out.bl hb)
 replace X := X.bw hb
 replace F := F.bw hb
 replace Q := Q.bw hb
 replace P := P.bw hb
 replace G := G.bw hb
 replace Y := Y.bw hb
 clear hb
 have s11 := B11.size
 clear Xc Xf Xl Fc Ff Fl Qc Qf Ql Pc Pf P_l Gc Gf Gl Yc Yf Yl
 have ⟨Xc, Xf, Xl⟩ := X
 have ⟨Fc, Ff, Fl⟩ := F
 have ⟨Qc, Qf, Ql⟩ := Q
 have ⟨Pc, Pf, P_l⟩ := P
 have ⟨Gc, Gf, Gl⟩ := G
 have ⟨Yc, Yf, Yl⟩ := Y
 go_wp2_with fail
 go_ret
 exact ⟨by first | rfl | simp, by go_grown⟩
theorem VerrangeTextMatchesSpec_any (r : List Pl.Ivl) (s : ByteArray) (a : Option Addr) (c : Nat) (w : World) (h : RIn w r a c) (hs : s.size ≤ 9223372036854775807) (EN : Env w) : Calls Tryz.prog 5 #[.agg #[.slice a r.length c], .string s] w fun e w' => e = .returned (.bool true) ∧ Below w.heap.size w w' := by
 by_cases hl : 4096 < s.size
 · by_cases f1 : (Pl.rngF r).1 = 0
   · exact vtm_ok_long r s a c w h hs EN (Pl.rng_zero f1) hl
   · exact vtm_bad_long r s a c w h hs EN _ _ rfl f1 hl
 · by_cases f1 : (Pl.rngF r).1 = 0
   · exact vtm_ok_short r s a c w h hs EN (Pl.rng_zero f1) (by omega)
   · exact vtm_bad_short r s a c w h hs EN _ _ rfl f1 (by omega)
end Go.Proofs.YtolfgcoalihmgaaGreatDoor
