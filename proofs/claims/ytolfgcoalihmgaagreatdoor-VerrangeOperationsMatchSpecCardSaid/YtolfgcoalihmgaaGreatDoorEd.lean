/- Contract of the reference: the fault of two ranges. -/
import Derived.Test.YtolfgcoalihmgaaGreatDoorEc
import Derived.Test.YtolfgcoalihmgaaGreatDoorDh
namespace Go.Proofs.YtolfgcoalihmgaaGreatDoor
open Go.RowKit
theorem field_flt (x y : Int) (w : World) : (Instr.field 27 (.agg #[.int .i64 x, .int .i64 y]) 0).run Tryz.prog w = .ok (.int .i64 x) w := by kernel_rfl
set_option maxRecDepth 100000 in
set_option maxHeartbeats 2000000 in
theorem pair_a (r t : List Pl.Ivl) (a b : Option Addr) (c d : Nat) (w : World) (h1 : RIn w r a c) (h2 : RIn w t b d) (f1 f2 : Int) (hf : f1 ≠ 0) (e1 : Pl.rngF r = (f1, f2)) :
 Calls Tryz.prog 21 #[.agg #[.slice a r.length c], .agg #[.slice b t.length d]] w fun e w' => e = .returned (fltV (f1, f2)) ∧ Below w.heap.size w w' := by
 have CA := Hd (fun (W : World) (g1 : RIn W r a c) => RangeFault_any r a c W g1)
 have CB := Hd (fun (W : World) (g1 : RIn W t b d) => RangeFault_any t b d W g1)
 have H := Hd h1
 have K := Hd h2
 rw [e1] at CA
 have u1 := bneT hf
 have u2 := beqF hf
 clear e1 hf
 simp only [fltV] at CA CB ⊢
 clear h1 h2
 have fld := field_flt
 go_enter Tryz.func21, Tryz.ntmps21
 have B0 := brl w
 go_wp2_with fail
 refine (CA.out _ (H.out.bl (by go_grown))).mono ?_
 rintro e w1 ⟨rfl, hb⟩
 have B1 := bcm w hb
 have q1 : w.heap.size + 3 ≤ w1.heap.size := qle hb
 replace H := Hd ((((H.out.al _).al _).al _).bl hb)
 replace K := Hd ((((K.out.al _).al _).al _).bl hb)
 have X := ((((bkn w.heap.size [.slice a r.length c] 33).alloc _).alloc _)).bw hb
 have Y := (((bkn (w.heap.size + 1) [.slice b t.length d] 33).alloc _)).bw hb
 have R := ((bkn (w.heap.size + 1 + 1) [.int .i64 0, .int .i64 0] 27)).bw hb
 clear hb
 have s1 := B1.size
 have ⟨Xc, Xf, Xl⟩ := X
 have ⟨Yc, Yf, Yl⟩ := Y
 have ⟨Rc, Rf, Rl⟩ := R
 go_wp2_with fail
 have RN := (((R.st 0 (.int .i64 f1)).st 1 (.int .i64 f2)).alloc (.cells #[.int .i64 f1, .int .i64 f2] 27))
 obtain ⟨RNc, RNf, RNl⟩ := RN
 refine bodyPost_ret (v := .agg #[.int .i64 f1, .int .i64 f2]) (by simp [results, Tryz.results21, go_sem, RNc]) rfl ⟨rfl, by go_grown⟩
set_option maxRecDepth 100000 in
set_option maxHeartbeats 2000000 in
theorem pair_b (r t : List Pl.Ivl) (a b : Option Addr) (c d : Nat) (w : World) (h1 : RIn w r a c) (h2 : RIn w t b d) (f1 f2 : Int) (hf : f1 ≠ 0) (e1 : Pl.rngF r = (0, 0)) (e2 : Pl.rngF t = (f1, f2)) :
 Calls Tryz.prog 21 #[.agg #[.slice a r.length c], .agg #[.slice b t.length d]] w fun e w' => e = .returned (fltV (f1, -2)) ∧ Below w.heap.size w w' := by
 have CA := Hd (fun (W : World) (g1 : RIn W r a c) => RangeFault_any r a c W g1)
 have CB := Hd (fun (W : World) (g1 : RIn W t b d) => RangeFault_any t b d W g1)
 have H := Hd h1
 have K := Hd h2
 rw [e1] at CA
 rw [e2] at CB
 have u1 := bneT hf
 have u2 := beqF hf
 clear e1 e2 hf
 simp only [fltV] at CA CB ⊢
 clear h1 h2
 have fld := field_flt
 go_enter Tryz.func21, Tryz.ntmps21
 have B0 := brl w
 go_wp2_with fail
 refine (CA.out _ (H.out.bl (by go_grown))).mono ?_
 rintro e w1 ⟨rfl, hb⟩
 have B1 := bcm w hb
 have q1 : w.heap.size + 3 ≤ w1.heap.size := qle hb
 replace H := Hd ((((H.out.al _).al _).al _).bl hb)
 replace K := Hd ((((K.out.al _).al _).al _).bl hb)
 have X := ((((bkn w.heap.size [.slice a r.length c] 33).alloc _).alloc _)).bw hb
 have Y := (((bkn (w.heap.size + 1) [.slice b t.length d] 33).alloc _)).bw hb
 have R := ((bkn (w.heap.size + 1 + 1) [.int .i64 0, .int .i64 0] 27)).bw hb
 clear hb
 have s1 := B1.size
 have ⟨Xc, Xf, Xl⟩ := X
 have ⟨Yc, Yf, Yl⟩ := Y
 have ⟨Rc, Rf, Rl⟩ := R
 go_wp2_with fail
 refine (CB.out _ (K.out.bl (by go_grown))).mono ?_
 rintro e w2 ⟨rfl, hb⟩
 have B2 := bcm w hb
 have q2 : w1.heap.size + 1 ≤ w2.heap.size := qle hb
 replace H := Hd ((H.out.al _).bl hb)
 replace K := Hd ((K.out.al _).bl hb)
 replace X := ((X.alloc _)).bw hb
 replace Y := ((Y.alloc _)).bw hb
 replace R := ((R.alloc _)).bw hb
 have Z := ((bkn w1.heap.size [.int .i64 0, .int .i64 0] 27)).bw hb
 clear hb
 have s2 := B2.size
 clear Xc Xf Xl Yc Yf Yl Rc Rf Rl
 have ⟨Xc, Xf, Xl⟩ := X
 have ⟨Yc, Yf, Yl⟩ := Y
 have ⟨Rc, Rf, Rl⟩ := R
 have ⟨Zc, Zf, Zl⟩ := Z
 go_wp2_with fail
 refine (CB.out _ K.out).mono ?_
 rintro e w3 ⟨rfl, hb⟩
 have B3 := bcm w hb
 have q3 : w2.heap.size ≤ w3.heap.size := qle hb
 replace H := Hd (H.out.bl hb)
 replace K := Hd (K.out.bl hb)
 replace X := X.bw hb
 replace Y := Y.bw hb
 replace R := R.bw hb
 replace Z := Z.bw hb
 clear hb
 have s3 := B3.size
 clear Xc Xf Xl Yc Yf Yl Rc Rf Rl Zc Zf Zl
 have ⟨Xc, Xf, Xl⟩ := X
 have ⟨Yc, Yf, Yl⟩ := Y
 have ⟨Rc, Rf, Rl⟩ := R
 have ⟨Zc, Zf, Zl⟩ := Z
 go_wp2_with fail
 refine (rfault_any f1 (-2) _).mono ?_
 rintro e w4 ⟨rfl, hb⟩
 have B4 := bcm w hb
 have q4 : w3.heap.size ≤ w4.heap.size := qle hb
 replace H := Hd (H.out.bl hb)
 replace K := Hd (K.out.bl hb)
 replace X := X.bw hb
 replace Y := Y.bw hb
 replace R := R.bw hb
 replace Z := Z.bw hb
 clear hb
 have s4 := B4.size
 clear Xc Xf Xl Yc Yf Yl Rc Rf Rl Zc Zf Zl
 have ⟨Xc, Xf, Xl⟩ := X
 have ⟨Yc, Yf, Yl⟩ := Y
 have ⟨Rc, Rf, Rl⟩ := R
 have ⟨Zc, Zf, Zl⟩ := Z
 go_wp2_with fail
 have RN := ((((R.fr w1.heap.size 0 (by omega) (.int .i64 f1)).fr w1.heap.size 1 (by omega) (.int .i64 (-2))).st 0 (.int .i64 f1)).st 1 (.int .i64 (-2)))
 obtain ⟨RNc, RNf, RNl⟩ := RN
 refine bodyPost_ret (v := .agg #[.int .i64 f1, .int .i64 (-2)]) (by simp [results, Tryz.results21, go_sem, RNc]) rfl ⟨rfl, by go_grown⟩
set_option maxRecDepth 100000 in
set_option maxHeartbeats 2000000 in
theorem pair_c (r t : List Pl.Ivl) (a b : Option Addr) (c d : Nat) (w : World) (h1 : RIn w r a c) (h2 : RIn w t b d) (e1 : Pl.rngF r = (0, 0)) (e2 : Pl.rngF t = (0, 0)) :
 Calls Tryz.prog 21 #[.agg #[.slice a r.length c], .agg #[.slice b t.length d]] w fun e w' => e = .returned (fltV (0, 0)) ∧ Below w.heap.size w w' := by
 have CA := Hd (fun (W : World) (g1 : RIn W r a c) => RangeFault_any r a c W g1)
 have CB := Hd (fun (W : World) (g1 : RIn W t b d) => RangeFault_any t b d W g1)
 have H := Hd h1
 have K := Hd h2
 rw [e1] at CA
 rw [e2] at CB
 clear e1 e2
 simp only [fltV] at CA CB ⊢
 clear h1 h2
 have fld := field_flt
 go_enter Tryz.func21, Tryz.ntmps21
 have B0 := brl w
 go_wp2_with fail
 refine (CA.out _ (H.out.bl (by go_grown))).mono ?_
 rintro e w1 ⟨rfl, hb⟩
 have B1 := bcm w hb
 have q1 : w.heap.size + 3 ≤ w1.heap.size := qle hb
 replace H := Hd ((((H.out.al _).al _).al _).bl hb)
 replace K := Hd ((((K.out.al _).al _).al _).bl hb)
 have X := ((((bkn w.heap.size [.slice a r.length c] 33).alloc _).alloc _)).bw hb
 have Y := (((bkn (w.heap.size + 1) [.slice b t.length d] 33).alloc _)).bw hb
 have R := ((bkn (w.heap.size + 1 + 1) [.int .i64 0, .int .i64 0] 27)).bw hb
 clear hb
 have s1 := B1.size
 have ⟨Xc, Xf, Xl⟩ := X
 have ⟨Yc, Yf, Yl⟩ := Y
 have ⟨Rc, Rf, Rl⟩ := R
 go_wp2_with fail
 refine (CB.out _ (K.out.bl (by go_grown))).mono ?_
 rintro e w2 ⟨rfl, hb⟩
 have B2 := bcm w hb
 have q2 : w1.heap.size + 1 ≤ w2.heap.size := qle hb
 replace H := Hd ((H.out.al _).bl hb)
 replace K := Hd ((K.out.al _).bl hb)
 replace X := ((X.alloc _)).bw hb
 replace Y := ((Y.alloc _)).bw hb
 replace R := ((R.alloc _)).bw hb
 have Z := ((bkn w1.heap.size [.int .i64 0, .int .i64 0] 27)).bw hb
 clear hb
 have s2 := B2.size
 clear Xc Xf Xl Yc Yf Yl Rc Rf Rl
 have ⟨Xc, Xf, Xl⟩ := X
 have ⟨Yc, Yf, Yl⟩ := Y
 have ⟨Rc, Rf, Rl⟩ := R
 have ⟨Zc, Zf, Zl⟩ := Z
 go_wp2_with fail
 have RN := ((R.st 0 (.int .i64 0)).st 1 (.int .i64 0))
 obtain ⟨RNc, RNf, RNl⟩ := RN
 refine bodyPost_ret (v := .agg #[.int .i64 0, .int .i64 0]) (by simp [results, Tryz.results21, go_sem, RNc]) rfl ⟨rfl, by go_grown⟩
theorem PairFault_any (r t : List Pl.Ivl) (a b : Option Addr) (c d : Nat) (w : World) (h1 : RIn w r a c) (h2 : RIn w t b d) :
 Calls Tryz.prog 21 #[.agg #[.slice a r.length c], .agg #[.slice b t.length d]] w fun e w' => e = .returned (fltV (Pl.pairF r t)) ∧ Below w.heap.size w w' := by
 unfold Pl.pairF
 by_cases f1 : (Pl.rngF r).1 = 0
 · rw [if_neg (fun h => h f1)]
   by_cases f2 : (Pl.rngF t).1 = 0
   · rw [if_neg (fun h => h f2)]
     exact pair_c r t a b c d w h1 h2 (Pl.rng_zero f1) (Pl.rng_zero f2)
   · rw [if_pos f2]
     exact pair_b r t a b c d w h1 h2 _ _ f2 (Pl.rng_zero f1) rfl
 · rw [if_pos f1]
   exact pair_a r t a b c d w h1 h2 _ _ f1 rfl
end Go.Proofs.YtolfgcoalihmgaaGreatDoor
