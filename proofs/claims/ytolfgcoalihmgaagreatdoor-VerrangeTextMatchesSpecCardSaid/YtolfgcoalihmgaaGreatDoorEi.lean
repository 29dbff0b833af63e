/- Contract of the reference: what two intervals have in common. -/
import Derived.Test.YtolfgcoalihmgaaGreatDoorMKy
namespace Go.Proofs.YtolfgcoalihmgaaGreatDoor
open Go.RowKit
theorem VIn.s4 {v : Pl.Ver} {a : Option Addr} {c g : Nat} (j0 : Nat) (x0 : Value) (j1 : Nat) (x1 : Value) (j2 : Nat) (x2 : Value) (j3 : Nat) (x3 : Value) {w : World} {cs : List Value} (h : VIn w v a c) (O : Bk w g cs) (h1 : cs.all nstr = true := by rfl) (h2 : ([(j0, x0), (j1, x1), (j2, x2), (j3, x3)].all fun p => decide (p.1 < cs.length) && nstr p.2) = true := by rfl) : VIn ((((w.setCell ⟨g, j0, none⟩ x0).setCell ⟨g, j1, none⟩ x1).setCell ⟨g, j2, none⟩ x2).setCell ⟨g, j3, none⟩ x3) v a c := VIn.sets [(j0, x0), (j1, x1), (j2, x2), (j3, x3)] h O h1 h2
theorem Bk.f4 {r : Nat} {cs : List Value} (g : Nat) (j0 : Nat) (x0 : Value) (j1 : Nat) (x1 : Value) (j2 : Nat) (x2 : Value) (j3 : Nat) (x3 : Value) {w : World} (h : Bk w r cs) (hne : g ≠ r := by omega) : Bk ((((w.setCell ⟨g, j0, none⟩ x0).setCell ⟨g, j1, none⟩ x1).setCell ⟨g, j2, none⟩ x2).setCell ⟨g, j3, none⟩ x3) r cs := Bk.frs g [(j0, x0), (j1, x1), (j2, x2), (j3, x3)] h hne
theorem VIn.s5 {v : Pl.Ver} {a : Option Addr} {c g : Nat} (j0 : Nat) (x0 : Value) (j1 : Nat) (x1 : Value) (j2 : Nat) (x2 : Value) (j3 : Nat) (x3 : Value) (j4 : Nat) (x4 : Value) {w : World} {cs : List Value} (h : VIn w v a c) (O : Bk w g cs) (h1 : cs.all nstr = true := by rfl) (h2 : ([(j0, x0), (j1, x1), (j2, x2), (j3, x3), (j4, x4)].all fun p => decide (p.1 < cs.length) && nstr p.2) = true := by rfl) : VIn (((((w.setCell ⟨g, j0, none⟩ x0).setCell ⟨g, j1, none⟩ x1).setCell ⟨g, j2, none⟩ x2).setCell ⟨g, j3, none⟩ x3).setCell ⟨g, j4, none⟩ x4) v a c := VIn.sets [(j0, x0), (j1, x1), (j2, x2), (j3, x3), (j4, x4)] h O h1 h2
theorem Bk.f5 {r : Nat} {cs : List Value} (g : Nat) (j0 : Nat) (x0 : Value) (j1 : Nat) (x1 : Value) (j2 : Nat) (x2 : Value) (j3 : Nat) (x3 : Value) (j4 : Nat) (x4 : Value) {w : World} (h : Bk w r cs) (hne : g ≠ r := by omega) : Bk (((((w.setCell ⟨g, j0, none⟩ x0).setCell ⟨g, j1, none⟩ x1).setCell ⟨g, j2, none⟩ x2).setCell ⟨g, j3, none⟩ x3).setCell ⟨g, j4, none⟩ x4) r cs := Bk.frs g [(j0, x0), (j1, x1), (j2, x2), (j3, x3), (j4, x4)] h hne
theorem VIn.s9 {v : Pl.Ver} {a : Option Addr} {c g : Nat} (j0 : Nat) (x0 : Value) (j1 : Nat) (x1 : Value) (j2 : Nat) (x2 : Value) (j3 : Nat) (x3 : Value) (j4 : Nat) (x4 : Value) (j5 : Nat) (x5 : Value) (j6 : Nat) (x6 : Value) (j7 : Nat) (x7 : Value) (j8 : Nat) (x8 : Value) {w : World} {cs : List Value} (h : VIn w v a c) (O : Bk w g cs) (h1 : cs.all nstr = true := by rfl) (h2 : ([(j0, x0), (j1, x1), (j2, x2), (j3, x3), (j4, x4), (j5, x5), (j6, x6), (j7, x7), (j8, x8)].all fun p => decide (p.1 < cs.length) && nstr p.2) = true := by rfl) : VIn (((((((((w.setCell ⟨g, j0, none⟩ x0).setCell ⟨g, j1, none⟩ x1).setCell ⟨g, j2, none⟩ x2).setCell ⟨g, j3, none⟩ x3).setCell ⟨g, j4, none⟩ x4).setCell ⟨g, j5, none⟩ x5).setCell ⟨g, j6, none⟩ x6).setCell ⟨g, j7, none⟩ x7).setCell ⟨g, j8, none⟩ x8) v a c := VIn.sets [(j0, x0), (j1, x1), (j2, x2), (j3, x3), (j4, x4), (j5, x5), (j6, x6), (j7, x7), (j8, x8)] h O h1 h2
theorem Bk.f9 {r : Nat} {cs : List Value} (g : Nat) (j0 : Nat) (x0 : Value) (j1 : Nat) (x1 : Value) (j2 : Nat) (x2 : Value) (j3 : Nat) (x3 : Value) (j4 : Nat) (x4 : Value) (j5 : Nat) (x5 : Value) (j6 : Nat) (x6 : Value) (j7 : Nat) (x7 : Value) (j8 : Nat) (x8 : Value) {w : World} (h : Bk w r cs) (hne : g ≠ r := by omega) : Bk (((((((((w.setCell ⟨g, j0, none⟩ x0).setCell ⟨g, j1, none⟩ x1).setCell ⟨g, j2, none⟩ x2).setCell ⟨g, j3, none⟩ x3).setCell ⟨g, j4, none⟩ x4).setCell ⟨g, j5, none⟩ x5).setCell ⟨g, j6, none⟩ x6).setCell ⟨g, j7, none⟩ x7).setCell ⟨g, j8, none⟩ x8) r cs := Bk.frs g [(j0, x0), (j1, x1), (j2, x2), (j3, x3), (j4, x4), (j5, x5), (j6, x6), (j7, x7), (j8, x8)] h hne
set_option maxRecDepth 100000 in
set_option maxHeartbeats 4000000 in
theorem com_lt_t_t (lo hi ly hy : Pl.Ver) (a b a2 b2 : Option Addr) (c d c2 d2 : Nat) (w : World) (h1 : VIn w lo a c) (h2 : VIn w hi b d) (h3 : VIn w ly a2 c2) (h4 : VIn w hy b2 d2) (o1 : lo.Ok) (_o2 : hi.Ok) (o3 : ly.Ok) (_o4 : hy.Ok) (k : Int) (e1 : Pl.verCmp lo ly = k) (hk : k < 0) :
 Calls Tryz.prog 76 #[ivV ⟨lo, hi, true⟩ a b c d, ivV ⟨ly, hy, true⟩ a2 b2 c2 d2] w fun e w' => e = .returned (.tuple #[ivV ⟨ly, hy, true⟩ a2 b2 c2 d2, .bool true]) ∧ Below w.heap.size w w' := by
 have H := Hd h1
 have K := Hd h2
 have L := Hd h3
 have M := Hd h4
 have C1 := Hd (fun (W : World) (g1 : VIn W lo a c) (g2 : VIn W ly a2 c2) => VersionOrder_any lo ly a a2 c c2 W (VOk.of g1 o1) (VOk.of g2 o3))
 rw [e1] at C1
 have t1 := decT hk
 clear e1 hk
 clear h1 h2 h3 h4 o1 _o2 o3 _o4
 go_enter Tryz.func76, Tryz.ntmps76
 have B0 := brl w
 go_wp2_with fail
 refine (C1.out _ (H.out.bl (by go_grown)) (L.out.bl (by go_grown))).mono ?_
 rintro e w1 ⟨rfl, hb⟩
 have B1 := bcm w hb
 have q1 : w.heap.size + 4 ≤ w1.heap.size := qle hb
 replace H := Hd (((((H.out.al _).al _).al _).al _).bl hb)
 replace K := Hd (((((K.out.al _).al _).al _).al _).bl hb)
 replace L := Hd (((((L.out.al _).al _).al _).al _).bl hb)
 replace M := Hd (((((M.out.al _).al _).al _).al _).bl hb)
 have X := (((((bkn w.heap.size [.int .i64 lo.maj, .int .i64 lo.min, .int .i64 lo.pat, .slice a lo.pre.length c, .int .i64 hi.maj, .int .i64 hi.min, .int .i64 hi.pat, .slice b hi.pre.length d, .bool true] 101).alloc _).alloc _).alloc _)).bw hb
 have Y := ((((bkn (w.heap.size + 1) [.int .i64 ly.maj, .int .i64 ly.min, .int .i64 ly.pat, .slice a2 ly.pre.length c2, .int .i64 hy.maj, .int .i64 hy.min, .int .i64 hy.pat, .slice b2 hy.pre.length d2, .bool true] 101).alloc _).alloc _)).bw hb
 have R := (((bkn (w.heap.size + 1 + 1) [.int .i64 0, .int .i64 0, .int .i64 0, .slice none 0 0, .int .i64 0, .int .i64 0, .int .i64 0, .slice none 0 0, .bool false] 101).alloc _)).bw hb
 have O := ((bkn (w.heap.size + 1 + 1 + 1) [.int .i64 lo.maj, .int .i64 lo.min, .int .i64 lo.pat, .slice a lo.pre.length c, .int .i64 hi.maj, .int .i64 hi.min, .int .i64 hi.pat, .slice b hi.pre.length d, .bool true] 101)).bw hb
 clear hb
 have s1 := B1.size
 have ⟨Xc, Xf, Xl⟩ := X
 have ⟨Yc, Yf, Yl⟩ := Y
 have ⟨Rc, Rf, Rl⟩ := R
 have ⟨Oc, Of, Ol⟩ := O
 go_wp2_with fail
 refine wp_region_ordD [(11, w.heap.size + 1 + 1)] [0, 1, 2, 3, 4, 5, 6, 7, 8, 9, 10, 11, 12] (by kernel_rfl) (by kernel_rfl) ?_
 replace H := Hd ((VIn.s9 0 (.int .i64 ly.maj) 1 (.int .i64 ly.min) 2 (.int .i64 ly.pat) 3 (.slice a2 ly.pre.length c2) 4 (.int .i64 hy.maj) 5 (.int .i64 hy.min) 6 (.int .i64 hy.pat) 7 (.slice b2 hy.pre.length d2) 8 (.bool true) H.out O).bl (Below.refl _ _).drew)
 replace K := Hd ((VIn.s9 0 (.int .i64 ly.maj) 1 (.int .i64 ly.min) 2 (.int .i64 ly.pat) 3 (.slice a2 ly.pre.length c2) 4 (.int .i64 hy.maj) 5 (.int .i64 hy.min) 6 (.int .i64 hy.pat) 7 (.slice b2 hy.pre.length d2) 8 (.bool true) K.out O).bl (Below.refl _ _).drew)
 replace L := Hd ((VIn.s9 0 (.int .i64 ly.maj) 1 (.int .i64 ly.min) 2 (.int .i64 ly.pat) 3 (.slice a2 ly.pre.length c2) 4 (.int .i64 hy.maj) 5 (.int .i64 hy.min) 6 (.int .i64 hy.pat) 7 (.slice b2 hy.pre.length d2) 8 (.bool true) L.out O).bl (Below.refl _ _).drew)
 replace M := Hd ((VIn.s9 0 (.int .i64 ly.maj) 1 (.int .i64 ly.min) 2 (.int .i64 ly.pat) 3 (.slice a2 ly.pre.length c2) 4 (.int .i64 hy.maj) 5 (.int .i64 hy.min) 6 (.int .i64 hy.pat) 7 (.slice b2 hy.pre.length d2) 8 (.bool true) M.out O).bl (Below.refl _ _).drew)
 replace X := (Bk.f9 (w.heap.size + 1 + 1 + 1) 0 (.int .i64 ly.maj) 1 (.int .i64 ly.min) 2 (.int .i64 ly.pat) 3 (.slice a2 ly.pre.length c2) 4 (.int .i64 hy.maj) 5 (.int .i64 hy.min) 6 (.int .i64 hy.pat) 7 (.slice b2 hy.pre.length d2) 8 (.bool true) X).drew
 replace Y := (Bk.f9 (w.heap.size + 1 + 1 + 1) 0 (.int .i64 ly.maj) 1 (.int .i64 ly.min) 2 (.int .i64 ly.pat) 3 (.slice a2 ly.pre.length c2) 4 (.int .i64 hy.maj) 5 (.int .i64 hy.min) 6 (.int .i64 hy.pat) 7 (.slice b2 hy.pre.length d2) 8 (.bool true) Y).drew
 replace R := (Bk.f9 (w.heap.size + 1 + 1 + 1) 0 (.int .i64 ly.maj) 1 (.int .i64 ly.min) 2 (.int .i64 ly.pat) 3 (.slice a2 ly.pre.length c2) 4 (.int .i64 hy.maj) 5 (.int .i64 hy.min) 6 (.int .i64 hy.pat) 7 (.slice b2 hy.pre.length d2) 8 (.bool true) R).drew
 replace O := (((((((((O.st 0 (.int .i64 ly.maj)).st 1 (.int .i64 ly.min)).st 2 (.int .i64 ly.pat)).st 3 (.slice a2 ly.pre.length c2)).st 4 (.int .i64 hy.maj)).st 5 (.int .i64 hy.min)).st 6 (.int .i64 hy.pat)).st 7 (.slice b2 hy.pre.length d2)).st 8 (.bool true)).drew
 clear Xc Xf Xl Yc Yf Yl Rc Rf Rl Oc Of Ol
 generalize hW : (((((((((w1.setCell ⟨w.heap.size + 1 + 1 + 1, 0, none⟩ (.int .i64 ly.maj)).setCell ⟨w.heap.size + 1 + 1 + 1, 1, none⟩ (.int .i64 ly.min)).setCell ⟨w.heap.size + 1 + 1 + 1, 2, none⟩ (.int .i64 ly.pat)).setCell ⟨w.heap.size + 1 + 1 + 1, 3, none⟩ (.slice a2 ly.pre.length c2)).setCell ⟨w.heap.size + 1 + 1 + 1, 4, none⟩ (.int .i64 hy.maj)).setCell ⟨w.heap.size + 1 + 1 + 1, 5, none⟩ (.int .i64 hy.min)).setCell ⟨w.heap.size + 1 + 1 + 1, 6, none⟩ (.int .i64 hy.pat)).setCell ⟨w.heap.size + 1 + 1 + 1, 7, none⟩ (.slice b2 hy.pre.length d2)).setCell ⟨w.heap.size + 1 + 1 + 1, 8, none⟩ (.bool true)).drew = w2 at *
 have B2 : Below w.heap.size w w2 := by rw [← hW]; go_grown
 have q2 : w1.heap.size ≤ w2.heap.size := by rw [← hW]; go_size
 clear hW
 have s2 := B2.size
 have ⟨Xc, Xf, Xl⟩ := X
 have ⟨Yc, Yf, Yl⟩ := Y
 have ⟨Rc, Rf, Rl⟩ := R
 have ⟨Oc, Of, Ol⟩ := O
 repeat (first | (refine wpD_skip rfl rfl ?_; try simp only [pts]) | (refine wpD_pure rfl rfl ?_; go_big_quiet_step (fail); refine wpQuiet_nil ?_) | (refine wpD_rd [] (by kernel_rfl) rfl rfl ?_; go_big_quiet_step (fail); refine wpQuiet_nil ?_))
 try simp only [pts]
 refine wpD_st rfl rfl rfl (w' := (((((((((w2.setCell ⟨w.heap.size + 1 + 1, 0, none⟩ (.int .i64 ly.maj)).setCell ⟨w.heap.size + 1 + 1, 1, none⟩ (.int .i64 ly.min)).setCell ⟨w.heap.size + 1 + 1, 2, none⟩ (.int .i64 ly.pat)).setCell ⟨w.heap.size + 1 + 1, 3, none⟩ (.slice a2 ly.pre.length c2)).setCell ⟨w.heap.size + 1 + 1, 4, none⟩ (.int .i64 hy.maj)).setCell ⟨w.heap.size + 1 + 1, 5, none⟩ (.int .i64 hy.min)).setCell ⟨w.heap.size + 1 + 1, 6, none⟩ (.int .i64 hy.pat)).setCell ⟨w.heap.size + 1 + 1, 7, none⟩ (.slice b2 hy.pre.length d2)).setCell ⟨w.heap.size + 1 + 1, 8, none⟩ (.bool true))) (by simp [go_sem, Rc, Rf]) ((((((((((ExtD.refl _ _).s1).s1).s1).s1).s1).s1).s1).s1).s1) ?_
 try simp only [pts]
 repeat (first | (refine wpD_skip rfl rfl ?_; try simp only [pts]) | (refine wpD_pure rfl rfl ?_; go_big_quiet_step (fail); refine wpQuiet_nil ?_) | (refine wpD_rd [] (by kernel_rfl) rfl rfl ?_; go_big_quiet_step (fail); refine wpQuiet_nil ?_))
 try simp only [pts]
 have RN := (((((((((R.st 0 (.int .i64 ly.maj)).st 1 (.int .i64 ly.min)).st 2 (.int .i64 ly.pat)).st 3 (.slice a2 ly.pre.length c2)).st 4 (.int .i64 hy.maj)).st 5 (.int .i64 hy.min)).st 6 (.int .i64 hy.pat)).st 7 (.slice b2 hy.pre.length d2)).st 8 (.bool true))
 obtain ⟨RNc, RNf, RNl⟩ := RN
 refine wpD_nil ?_
 try simp only [pts]
 go_wp2_with fail
 refine bodyPost_ret (v := .tuple #[.agg #[.int .i64 ly.maj, .int .i64 ly.min, .int .i64 ly.pat, .slice a2 ly.pre.length c2, .int .i64 hy.maj, .int .i64 hy.min, .int .i64 hy.pat, .slice b2 hy.pre.length d2, .bool true], .bool true]) (by simp [results, Tryz.results76, go_sem, RNc]) rfl ⟨rfl, by go_grown⟩
set_option maxRecDepth 100000 in
set_option maxHeartbeats 4000000 in
theorem com_lt_t_f (lo hi ly hy : Pl.Ver) (a b a2 b2 : Option Addr) (c d c2 d2 : Nat) (w : World) (h1 : VIn w lo a c) (h2 : VIn w hi b d) (h3 : VIn w ly a2 c2) (h4 : VIn w hy b2 d2) (o1 : lo.Ok) (_o2 : hi.Ok) (o3 : ly.Ok) (o4 : hy.Ok) (k : Int) (e1 : Pl.verCmp lo ly = k) (hk : k < 0) (n : Int) (e3 : Pl.verCmp ly hy = n) (g : Bool) (e4 : decide (n < 0) = g) :
 Calls Tryz.prog 76 #[ivV ⟨lo, hi, true⟩ a b c d, ivV ⟨ly, hy, false⟩ a2 b2 c2 d2] w fun e w' => e = .returned (.tuple #[ivV ⟨ly, hy, false⟩ a2 b2 c2 d2, .bool g]) ∧ Below w.heap.size w w' := by
 have H := Hd h1
 have K := Hd h2
 have L := Hd h3
 have M := Hd h4
 have C1 := Hd (fun (W : World) (g1 : VIn W lo a c) (g2 : VIn W ly a2 c2) => VersionOrder_any lo ly a a2 c c2 W (VOk.of g1 o1) (VOk.of g2 o3))
 rw [e1] at C1
 have t1 := decT hk
 clear e1 hk
 have C3 := Hd (fun (W : World) (g1 : VIn W ly a2 c2) (g2 : VIn W hy b2 d2) => VersionOrder_any ly hy a2 b2 c2 d2 W (VOk.of g1 o3) (VOk.of g2 o4))
 rw [e3] at C3
 clear e3
 clear h1 h2 h3 h4 o1 _o2 o3 o4
 go_enter Tryz.func76, Tryz.ntmps76
 have B0 := brl w
 go_wp2_with fail
 refine (C1.out _ (H.out.bl (by go_grown)) (L.out.bl (by go_grown))).mono ?_
 rintro e w1 ⟨rfl, hb⟩
 have B1 := bcm w hb
 have q1 : w.heap.size + 4 ≤ w1.heap.size := qle hb
 replace H := Hd (((((H.out.al _).al _).al _).al _).bl hb)
 replace K := Hd (((((K.out.al _).al _).al _).al _).bl hb)
 replace L := Hd (((((L.out.al _).al _).al _).al _).bl hb)
 replace M := Hd (((((M.out.al _).al _).al _).al _).bl hb)
 have X := (((((bkn w.heap.size [.int .i64 lo.maj, .int .i64 lo.min, .int .i64 lo.pat, .slice a lo.pre.length c, .int .i64 hi.maj, .int .i64 hi.min, .int .i64 hi.pat, .slice b hi.pre.length d, .bool true] 101).alloc _).alloc _).alloc _)).bw hb
 have Y := ((((bkn (w.heap.size + 1) [.int .i64 ly.maj, .int .i64 ly.min, .int .i64 ly.pat, .slice a2 ly.pre.length c2, .int .i64 hy.maj, .int .i64 hy.min, .int .i64 hy.pat, .slice b2 hy.pre.length d2, .bool false] 101).alloc _).alloc _)).bw hb
 have R := (((bkn (w.heap.size + 1 + 1) [.int .i64 0, .int .i64 0, .int .i64 0, .slice none 0 0, .int .i64 0, .int .i64 0, .int .i64 0, .slice none 0 0, .bool false] 101).alloc _)).bw hb
 have O := ((bkn (w.heap.size + 1 + 1 + 1) [.int .i64 lo.maj, .int .i64 lo.min, .int .i64 lo.pat, .slice a lo.pre.length c, .int .i64 hi.maj, .int .i64 hi.min, .int .i64 hi.pat, .slice b hi.pre.length d, .bool true] 101)).bw hb
 clear hb
 have s1 := B1.size
 have ⟨Xc, Xf, Xl⟩ := X
 have ⟨Yc, Yf, Yl⟩ := Y
 have ⟨Rc, Rf, Rl⟩ := R
 have ⟨Oc, Of, Ol⟩ := O
 go_wp2_with fail
 refine wp_region_ordD [(11, w.heap.size + 1 + 1)] [0, 1, 2, 3, 4, 5, 6, 7, 8, 9, 10, 11, 12] (by kernel_rfl) (by kernel_rfl) ?_
 replace H := Hd ((VIn.s9 0 (.int .i64 ly.maj) 1 (.int .i64 ly.min) 2 (.int .i64 ly.pat) 3 (.slice a2 ly.pre.length c2) 4 (.int .i64 hy.maj) 5 (.int .i64 hy.min) 6 (.int .i64 hy.pat) 7 (.slice b2 hy.pre.length d2) 8 (.bool false) H.out O).bl (Below.refl _ _).drew)
 replace K := Hd ((VIn.s9 0 (.int .i64 ly.maj) 1 (.int .i64 ly.min) 2 (.int .i64 ly.pat) 3 (.slice a2 ly.pre.length c2) 4 (.int .i64 hy.maj) 5 (.int .i64 hy.min) 6 (.int .i64 hy.pat) 7 (.slice b2 hy.pre.length d2) 8 (.bool false) K.out O).bl (Below.refl _ _).drew)
 replace L := Hd ((VIn.s9 0 (.int .i64 ly.maj) 1 (.int .i64 ly.min) 2 (.int .i64 ly.pat) 3 (.slice a2 ly.pre.length c2) 4 (.int .i64 hy.maj) 5 (.int .i64 hy.min) 6 (.int .i64 hy.pat) 7 (.slice b2 hy.pre.length d2) 8 (.bool false) L.out O).bl (Below.refl _ _).drew)
 replace M := Hd ((VIn.s9 0 (.int .i64 ly.maj) 1 (.int .i64 ly.min) 2 (.int .i64 ly.pat) 3 (.slice a2 ly.pre.length c2) 4 (.int .i64 hy.maj) 5 (.int .i64 hy.min) 6 (.int .i64 hy.pat) 7 (.slice b2 hy.pre.length d2) 8 (.bool false) M.out O).bl (Below.refl _ _).drew)
 replace X := (Bk.f9 (w.heap.size + 1 + 1 + 1) 0 (.int .i64 ly.maj) 1 (.int .i64 ly.min) 2 (.int .i64 ly.pat) 3 (.slice a2 ly.pre.length c2) 4 (.int .i64 hy.maj) 5 (.int .i64 hy.min) 6 (.int .i64 hy.pat) 7 (.slice b2 hy.pre.length d2) 8 (.bool false) X).drew
 replace Y := (Bk.f9 (w.heap.size + 1 + 1 + 1) 0 (.int .i64 ly.maj) 1 (.int .i64 ly.min) 2 (.int .i64 ly.pat) 3 (.slice a2 ly.pre.length c2) 4 (.int .i64 hy.maj) 5 (.int .i64 hy.min) 6 (.int .i64 hy.pat) 7 (.slice b2 hy.pre.length d2) 8 (.bool false) Y).drew
 replace R := (Bk.f9 (w.heap.size + 1 + 1 + 1) 0 (.int .i64 ly.maj) 1 (.int .i64 ly.min) 2 (.int .i64 ly.pat) 3 (.slice a2 ly.pre.length c2) 4 (.int .i64 hy.maj) 5 (.int .i64 hy.min) 6 (.int .i64 hy.pat) 7 (.slice b2 hy.pre.length d2) 8 (.bool false) R).drew
 replace O := (((((((((O.st 0 (.int .i64 ly.maj)).st 1 (.int .i64 ly.min)).st 2 (.int .i64 ly.pat)).st 3 (.slice a2 ly.pre.length c2)).st 4 (.int .i64 hy.maj)).st 5 (.int .i64 hy.min)).st 6 (.int .i64 hy.pat)).st 7 (.slice b2 hy.pre.length d2)).st 8 (.bool false)).drew
 clear Xc Xf Xl Yc Yf Yl Rc Rf Rl Oc Of Ol
 generalize hW : (((((((((w1.setCell ⟨w.heap.size + 1 + 1 + 1, 0, none⟩ (.int .i64 ly.maj)).setCell ⟨w.heap.size + 1 + 1 + 1, 1, none⟩ (.int .i64 ly.min)).setCell ⟨w.heap.size + 1 + 1 + 1, 2, none⟩ (.int .i64 ly.pat)).setCell ⟨w.heap.size + 1 + 1 + 1, 3, none⟩ (.slice a2 ly.pre.length c2)).setCell ⟨w.heap.size + 1 + 1 + 1, 4, none⟩ (.int .i64 hy.maj)).setCell ⟨w.heap.size + 1 + 1 + 1, 5, none⟩ (.int .i64 hy.min)).setCell ⟨w.heap.size + 1 + 1 + 1, 6, none⟩ (.int .i64 hy.pat)).setCell ⟨w.heap.size + 1 + 1 + 1, 7, none⟩ (.slice b2 hy.pre.length d2)).setCell ⟨w.heap.size + 1 + 1 + 1, 8, none⟩ (.bool false)).drew = w2 at *
 have B2 : Below w.heap.size w w2 := by rw [← hW]; go_grown
 have q2 : w1.heap.size ≤ w2.heap.size := by rw [← hW]; go_size
 clear hW
 have s2 := B2.size
 have ⟨Xc, Xf, Xl⟩ := X
 have ⟨Yc, Yf, Yl⟩ := Y
 have ⟨Rc, Rf, Rl⟩ := R
 have ⟨Oc, Of, Ol⟩ := O
 repeat (first | (refine wpD_skip rfl rfl ?_; try simp only [pts]) | (refine wpD_pure rfl rfl ?_; go_big_quiet_step (fail); refine wpQuiet_nil ?_) | (refine wpD_rd [] (by kernel_rfl) rfl rfl ?_; go_big_quiet_step (fail); refine wpQuiet_nil ?_))
 try simp only [pts]
 refine wpD_call (f := 77) rfl rfl rfl (by simp [go_sem]; rfl) ?_
 refine (C3.out _ L.out M.out).mono ?_
 rintro e w3 ⟨rfl, hb⟩
 refine ⟨_, rfl, hb, ?_⟩
 skip
 have B3 := bcm w hb
 have q3 : w2.heap.size ≤ w3.heap.size := qle hb
 replace H := Hd (H.out.bl hb)
 replace K := Hd (K.out.bl hb)
 replace L := Hd (L.out.bl hb)
 replace M := Hd (M.out.bl hb)
 replace X := X.bw hb
 replace Y := Y.bw hb
 replace R := R.bw hb
 replace O := O.bw hb
 clear hb
 have s3 := B3.size
 clear Xc Xf Xl Yc Yf Yl Rc Rf Rl Oc Of Ol
 have ⟨Xc, Xf, Xl⟩ := X
 have ⟨Yc, Yf, Yl⟩ := Y
 have ⟨Rc, Rf, Rl⟩ := R
 have ⟨Oc, Of, Ol⟩ := O
 try simp only [pts]
 repeat (first | (refine wpD_skip rfl rfl ?_; try simp only [pts]) | (refine wpD_pure rfl rfl ?_; go_big_quiet_step (fail); refine wpQuiet_nil ?_) | (refine wpD_rd [] (by kernel_rfl) rfl rfl ?_; go_big_quiet_step (fail); refine wpQuiet_nil ?_))
 try simp only [pts]
 refine wpD_st rfl rfl rfl (w' := (((((((((w3.setCell ⟨w.heap.size + 1 + 1, 0, none⟩ (.int .i64 ly.maj)).setCell ⟨w.heap.size + 1 + 1, 1, none⟩ (.int .i64 ly.min)).setCell ⟨w.heap.size + 1 + 1, 2, none⟩ (.int .i64 ly.pat)).setCell ⟨w.heap.size + 1 + 1, 3, none⟩ (.slice a2 ly.pre.length c2)).setCell ⟨w.heap.size + 1 + 1, 4, none⟩ (.int .i64 hy.maj)).setCell ⟨w.heap.size + 1 + 1, 5, none⟩ (.int .i64 hy.min)).setCell ⟨w.heap.size + 1 + 1, 6, none⟩ (.int .i64 hy.pat)).setCell ⟨w.heap.size + 1 + 1, 7, none⟩ (.slice b2 hy.pre.length d2)).setCell ⟨w.heap.size + 1 + 1, 8, none⟩ (.bool false))) (by simp [go_sem, Rc, Rf]) ((((((((((ExtD.refl _ _).s1).s1).s1).s1).s1).s1).s1).s1).s1) ?_
 try simp only [pts]
 repeat (first | (refine wpD_skip rfl rfl ?_; try simp only [pts]) | (refine wpD_pure rfl rfl ?_; go_big_quiet_step (fail); refine wpQuiet_nil ?_) | (refine wpD_rd [] (by kernel_rfl) rfl rfl ?_; go_big_quiet_step (fail); refine wpQuiet_nil ?_))
 try simp only [pts]
 have RN := (((((((((R.st 0 (.int .i64 ly.maj)).st 1 (.int .i64 ly.min)).st 2 (.int .i64 ly.pat)).st 3 (.slice a2 ly.pre.length c2)).st 4 (.int .i64 hy.maj)).st 5 (.int .i64 hy.min)).st 6 (.int .i64 hy.pat)).st 7 (.slice b2 hy.pre.length d2)).st 8 (.bool false))
 obtain ⟨RNc, RNf, RNl⟩ := RN
 refine wpD_nil ?_
 try simp only [pts]
 go_wp2_with fail
 refine bodyPost_ret (v := .tuple #[.agg #[.int .i64 ly.maj, .int .i64 ly.min, .int .i64 ly.pat, .slice a2 ly.pre.length c2, .int .i64 hy.maj, .int .i64 hy.min, .int .i64 hy.pat, .slice b2 hy.pre.length d2, .bool false], .bool g]) (by simp [results, Tryz.results76, go_sem, RNc]) rfl ⟨rfl, by go_grown⟩
set_option maxRecDepth 100000 in
set_option maxHeartbeats 4000000 in
theorem com_lt_f_t (lo hi ly hy : Pl.Ver) (a b a2 b2 : Option Addr) (c d c2 d2 : Nat) (w : World) (h1 : VIn w lo a c) (h2 : VIn w hi b d) (h3 : VIn w ly a2 c2) (h4 : VIn w hy b2 d2) (o1 : lo.Ok) (o2 : hi.Ok) (o3 : ly.Ok) (_o4 : hy.Ok) (k : Int) (e1 : Pl.verCmp lo ly = k) (hk : k < 0) (n : Int) (e3 : Pl.verCmp ly hi = n) (g : Bool) (e4 : decide (n < 0) = g) :
 Calls Tryz.prog 76 #[ivV ⟨lo, hi, false⟩ a b c d, ivV ⟨ly, hy, true⟩ a2 b2 c2 d2] w fun e w' => e = .returned (.tuple #[ivV ⟨ly, hi, false⟩ a2 b c2 d, .bool g]) ∧ Below w.heap.size w w' := by
 have H := Hd h1
 have K := Hd h2
 have L := Hd h3
 have M := Hd h4
 have C1 := Hd (fun (W : World) (g1 : VIn W lo a c) (g2 : VIn W ly a2 c2) => VersionOrder_any lo ly a a2 c c2 W (VOk.of g1 o1) (VOk.of g2 o3))
 rw [e1] at C1
 have t1 := decT hk
 clear e1 hk
 have C3 := Hd (fun (W : World) (g1 : VIn W ly a2 c2) (g2 : VIn W hi b d) => VersionOrder_any ly hi a2 b c2 d W (VOk.of g1 o3) (VOk.of g2 o2))
 rw [e3] at C3
 clear e3
 clear h1 h2 h3 h4 o1 o2 o3 _o4
 go_enter Tryz.func76, Tryz.ntmps76
 have B0 := brl w
 go_wp2_with fail
 refine (C1.out _ (H.out.bl (by go_grown)) (L.out.bl (by go_grown))).mono ?_
 rintro e w1 ⟨rfl, hb⟩
 have B1 := bcm w hb
 have q1 : w.heap.size + 4 ≤ w1.heap.size := qle hb
 replace H := Hd (((((H.out.al _).al _).al _).al _).bl hb)
 replace K := Hd (((((K.out.al _).al _).al _).al _).bl hb)
 replace L := Hd (((((L.out.al _).al _).al _).al _).bl hb)
 replace M := Hd (((((M.out.al _).al _).al _).al _).bl hb)
 have X := (((((bkn w.heap.size [.int .i64 lo.maj, .int .i64 lo.min, .int .i64 lo.pat, .slice a lo.pre.length c, .int .i64 hi.maj, .int .i64 hi.min, .int .i64 hi.pat, .slice b hi.pre.length d, .bool false] 101).alloc _).alloc _).alloc _)).bw hb
 have Y := ((((bkn (w.heap.size + 1) [.int .i64 ly.maj, .int .i64 ly.min, .int .i64 ly.pat, .slice a2 ly.pre.length c2, .int .i64 hy.maj, .int .i64 hy.min, .int .i64 hy.pat, .slice b2 hy.pre.length d2, .bool true] 101).alloc _).alloc _)).bw hb
 have R := (((bkn (w.heap.size + 1 + 1) [.int .i64 0, .int .i64 0, .int .i64 0, .slice none 0 0, .int .i64 0, .int .i64 0, .int .i64 0, .slice none 0 0, .bool false] 101).alloc _)).bw hb
 have O := ((bkn (w.heap.size + 1 + 1 + 1) [.int .i64 lo.maj, .int .i64 lo.min, .int .i64 lo.pat, .slice a lo.pre.length c, .int .i64 hi.maj, .int .i64 hi.min, .int .i64 hi.pat, .slice b hi.pre.length d, .bool false] 101)).bw hb
 clear hb
 have s1 := B1.size
 have ⟨Xc, Xf, Xl⟩ := X
 have ⟨Yc, Yf, Yl⟩ := Y
 have ⟨Rc, Rf, Rl⟩ := R
 have ⟨Oc, Of, Ol⟩ := O
 go_wp2_with fail
 refine wp_region_ordD [(11, w.heap.size + 1 + 1)] [0, 1, 2, 3, 4, 5, 6, 7, 8, 9, 10, 11, 12] (by kernel_rfl) (by kernel_rfl) ?_
 replace H := Hd ((VIn.s4 0 (.int .i64 ly.maj) 1 (.int .i64 ly.min) 2 (.int .i64 ly.pat) 3 (.slice a2 ly.pre.length c2) H.out O).bl (Below.refl _ _).drew)
 replace K := Hd ((VIn.s4 0 (.int .i64 ly.maj) 1 (.int .i64 ly.min) 2 (.int .i64 ly.pat) 3 (.slice a2 ly.pre.length c2) K.out O).bl (Below.refl _ _).drew)
 replace L := Hd ((VIn.s4 0 (.int .i64 ly.maj) 1 (.int .i64 ly.min) 2 (.int .i64 ly.pat) 3 (.slice a2 ly.pre.length c2) L.out O).bl (Below.refl _ _).drew)
 replace M := Hd ((VIn.s4 0 (.int .i64 ly.maj) 1 (.int .i64 ly.min) 2 (.int .i64 ly.pat) 3 (.slice a2 ly.pre.length c2) M.out O).bl (Below.refl _ _).drew)
 replace X := (Bk.f4 (w.heap.size + 1 + 1 + 1) 0 (.int .i64 ly.maj) 1 (.int .i64 ly.min) 2 (.int .i64 ly.pat) 3 (.slice a2 ly.pre.length c2) X).drew
 replace Y := (Bk.f4 (w.heap.size + 1 + 1 + 1) 0 (.int .i64 ly.maj) 1 (.int .i64 ly.min) 2 (.int .i64 ly.pat) 3 (.slice a2 ly.pre.length c2) Y).drew
 replace R := (Bk.f4 (w.heap.size + 1 + 1 + 1) 0 (.int .i64 ly.maj) 1 (.int .i64 ly.min) 2 (.int .i64 ly.pat) 3 (.slice a2 ly.pre.length c2) R).drew
 replace O := ((((O.st 0 (.int .i64 ly.maj)).st 1 (.int .i64 ly.min)).st 2 (.int .i64 ly.pat)).st 3 (.slice a2 ly.pre.length c2)).drew
 clear Xc Xf Xl Yc Yf Yl Rc Rf Rl Oc Of Ol
 generalize hW : ((((w1.setCell ⟨w.heap.size + 1 + 1 + 1, 0, none⟩ (.int .i64 ly.maj)).setCell ⟨w.heap.size + 1 + 1 + 1, 1, none⟩ (.int .i64 ly.min)).setCell ⟨w.heap.size + 1 + 1 + 1, 2, none⟩ (.int .i64 ly.pat)).setCell ⟨w.heap.size + 1 + 1 + 1, 3, none⟩ (.slice a2 ly.pre.length c2)).drew = w2 at *
 have B2 : Below w.heap.size w w2 := by rw [← hW]; go_grown
 have q2 : w1.heap.size ≤ w2.heap.size := by rw [← hW]; go_size
 clear hW
 have s2 := B2.size
 have ⟨Xc, Xf, Xl⟩ := X
 have ⟨Yc, Yf, Yl⟩ := Y
 have ⟨Rc, Rf, Rl⟩ := R
 have ⟨Oc, Of, Ol⟩ := O
 repeat (first | (refine wpD_skip rfl rfl ?_; try simp only [pts]) | (refine wpD_pure rfl rfl ?_; go_big_quiet_step (fail); refine wpQuiet_nil ?_) | (refine wpD_rd [] (by kernel_rfl) rfl rfl ?_; go_big_quiet_step (fail); refine wpQuiet_nil ?_))
 try simp only [pts]
 refine wpD_call (f := 77) rfl rfl rfl (by simp [go_sem]; rfl) ?_
 refine (C3.out _ L.out K.out).mono ?_
 rintro e w3 ⟨rfl, hb⟩
 refine ⟨_, rfl, hb, ?_⟩
 skip
 have B3 := bcm w hb
 have q3 : w2.heap.size ≤ w3.heap.size := qle hb
 replace H := Hd (H.out.bl hb)
 replace K := Hd (K.out.bl hb)
 replace L := Hd (L.out.bl hb)
 replace M := Hd (M.out.bl hb)
 replace X := X.bw hb
 replace Y := Y.bw hb
 replace R := R.bw hb
 replace O := O.bw hb
 clear hb
 have s3 := B3.size
 clear Xc Xf Xl Yc Yf Yl Rc Rf Rl Oc Of Ol
 have ⟨Xc, Xf, Xl⟩ := X
 have ⟨Yc, Yf, Yl⟩ := Y
 have ⟨Rc, Rf, Rl⟩ := R
 have ⟨Oc, Of, Ol⟩ := O
 try simp only [pts]
 repeat (first | (refine wpD_skip rfl rfl ?_; try simp only [pts]) | (refine wpD_pure rfl rfl ?_; go_big_quiet_step (fail); refine wpQuiet_nil ?_) | (refine wpD_rd [] (by kernel_rfl) rfl rfl ?_; go_big_quiet_step (fail); refine wpQuiet_nil ?_))
 try simp only [pts]
 refine wpD_st rfl rfl rfl (w' := (((((((((w3.setCell ⟨w.heap.size + 1 + 1, 0, none⟩ (.int .i64 ly.maj)).setCell ⟨w.heap.size + 1 + 1, 1, none⟩ (.int .i64 ly.min)).setCell ⟨w.heap.size + 1 + 1, 2, none⟩ (.int .i64 ly.pat)).setCell ⟨w.heap.size + 1 + 1, 3, none⟩ (.slice a2 ly.pre.length c2)).setCell ⟨w.heap.size + 1 + 1, 4, none⟩ (.int .i64 hi.maj)).setCell ⟨w.heap.size + 1 + 1, 5, none⟩ (.int .i64 hi.min)).setCell ⟨w.heap.size + 1 + 1, 6, none⟩ (.int .i64 hi.pat)).setCell ⟨w.heap.size + 1 + 1, 7, none⟩ (.slice b hi.pre.length d)).setCell ⟨w.heap.size + 1 + 1, 8, none⟩ (.bool false))) (by simp [go_sem, Rc, Rf]) ((((((((((ExtD.refl _ _).s1).s1).s1).s1).s1).s1).s1).s1).s1) ?_
 try simp only [pts]
 repeat (first | (refine wpD_skip rfl rfl ?_; try simp only [pts]) | (refine wpD_pure rfl rfl ?_; go_big_quiet_step (fail); refine wpQuiet_nil ?_) | (refine wpD_rd [] (by kernel_rfl) rfl rfl ?_; go_big_quiet_step (fail); refine wpQuiet_nil ?_))
 try simp only [pts]
 have RN := (((((((((R.st 0 (.int .i64 ly.maj)).st 1 (.int .i64 ly.min)).st 2 (.int .i64 ly.pat)).st 3 (.slice a2 ly.pre.length c2)).st 4 (.int .i64 hi.maj)).st 5 (.int .i64 hi.min)).st 6 (.int .i64 hi.pat)).st 7 (.slice b hi.pre.length d)).st 8 (.bool false))
 obtain ⟨RNc, RNf, RNl⟩ := RN
 refine wpD_nil ?_
 try simp only [pts]
 go_wp2_with fail
 refine bodyPost_ret (v := .tuple #[.agg #[.int .i64 ly.maj, .int .i64 ly.min, .int .i64 ly.pat, .slice a2 ly.pre.length c2, .int .i64 hi.maj, .int .i64 hi.min, .int .i64 hi.pat, .slice b hi.pre.length d, .bool false], .bool g]) (by simp [results, Tryz.results76, go_sem, RNc]) rfl ⟨rfl, by go_grown⟩
set_option maxRecDepth 100000 in
set_option maxHeartbeats 4000000 in
theorem com_lt_f_f_lt (lo hi ly hy : Pl.Ver) (a b a2 b2 : Option Addr) (c d c2 d2 : Nat) (w : World) (h1 : VIn w lo a c) (h2 : VIn w hi b d) (h3 : VIn w ly a2 c2) (h4 : VIn w hy b2 d2) (o1 : lo.Ok) (o2 : hi.Ok) (o3 : ly.Ok) (o4 : hy.Ok) (k : Int) (e1 : Pl.verCmp lo ly = k) (hk : k < 0) (m : Int) (e2 : Pl.verCmp hy hi = m) (hm : m < 0) (n : Int) (e3 : Pl.verCmp ly hy = n) (g : Bool) (e4 : decide (n < 0) = g) :
 Calls Tryz.prog 76 #[ivV ⟨lo, hi, false⟩ a b c d, ivV ⟨ly, hy, false⟩ a2 b2 c2 d2] w fun e w' => e = .returned (.tuple #[ivV ⟨ly, hy, false⟩ a2 b2 c2 d2, .bool g]) ∧ Below w.heap.size w w' := by
 have H := Hd h1
 have K := Hd h2
 have L := Hd h3
 have M := Hd h4
 have C1 := Hd (fun (W : World) (g1 : VIn W lo a c) (g2 : VIn W ly a2 c2) => VersionOrder_any lo ly a a2 c c2 W (VOk.of g1 o1) (VOk.of g2 o3))
 rw [e1] at C1
 have t1 := decT hk
 clear e1 hk
 have C2 := Hd (fun (W : World) (g1 : VIn W hy b2 d2) (g2 : VIn W hi b d) => VersionOrder_any hy hi b2 b d2 d W (VOk.of g1 o4) (VOk.of g2 o2))
 rw [e2] at C2
 have t2 := decT hm
 clear e2 hm
 have C3 := Hd (fun (W : World) (g1 : VIn W ly a2 c2) (g2 : VIn W hy b2 d2) => VersionOrder_any ly hy a2 b2 c2 d2 W (VOk.of g1 o3) (VOk.of g2 o4))
 rw [e3] at C3
 clear e3
 clear h1 h2 h3 h4 o1 o2 o3 o4
 go_enter Tryz.func76, Tryz.ntmps76
 have B0 := brl w
 go_wp2_with fail
 refine (C1.out _ (H.out.bl (by go_grown)) (L.out.bl (by go_grown))).mono ?_
 rintro e w1 ⟨rfl, hb⟩
 have B1 := bcm w hb
 have q1 : w.heap.size + 4 ≤ w1.heap.size := qle hb
 replace H := Hd (((((H.out.al _).al _).al _).al _).bl hb)
 replace K := Hd (((((K.out.al _).al _).al _).al _).bl hb)
 replace L := Hd (((((L.out.al _).al _).al _).al _).bl hb)
 replace M := Hd (((((M.out.al _).al _).al _).al _).bl hb)
 have X := (((((bkn w.heap.size [.int .i64 lo.maj, .int .i64 lo.min, .int .i64 lo.pat, .slice a lo.pre.length c, .int .i64 hi.maj, .int .i64 hi.min, .int .i64 hi.pat, .slice b hi.pre.length d, .bool false] 101).alloc _).alloc _).alloc _)).bw hb
 have Y := ((((bkn (w.heap.size + 1) [.int .i64 ly.maj, .int .i64 ly.min, .int .i64 ly.pat, .slice a2 ly.pre.length c2, .int .i64 hy.maj, .int .i64 hy.min, .int .i64 hy.pat, .slice b2 hy.pre.length d2, .bool false] 101).alloc _).alloc _)).bw hb
 have R := (((bkn (w.heap.size + 1 + 1) [.int .i64 0, .int .i64 0, .int .i64 0, .slice none 0 0, .int .i64 0, .int .i64 0, .int .i64 0, .slice none 0 0, .bool false] 101).alloc _)).bw hb
 have O := ((bkn (w.heap.size + 1 + 1 + 1) [.int .i64 lo.maj, .int .i64 lo.min, .int .i64 lo.pat, .slice a lo.pre.length c, .int .i64 hi.maj, .int .i64 hi.min, .int .i64 hi.pat, .slice b hi.pre.length d, .bool false] 101)).bw hb
 clear hb
 have s1 := B1.size
 have ⟨Xc, Xf, Xl⟩ := X
 have ⟨Yc, Yf, Yl⟩ := Y
 have ⟨Rc, Rf, Rl⟩ := R
 have ⟨Oc, Of, Ol⟩ := O
 go_wp2_with fail
 refine (C2.out _ ((VIn.s4 0 (.int .i64 ly.maj) 1 (.int .i64 ly.min) 2 (.int .i64 ly.pat) 3 (.slice a2 ly.pre.length c2) M.out O)) ((VIn.s4 0 (.int .i64 ly.maj) 1 (.int .i64 ly.min) 2 (.int .i64 ly.pat) 3 (.slice a2 ly.pre.length c2) K.out O))).mono ?_
 rintro e w2 ⟨rfl, hb⟩
 have B2 := bcm w hb
 have q2 : w1.heap.size ≤ w2.heap.size := qle hb
 replace H := Hd ((VIn.s4 0 (.int .i64 ly.maj) 1 (.int .i64 ly.min) 2 (.int .i64 ly.pat) 3 (.slice a2 ly.pre.length c2) H.out O).bl hb)
 replace K := Hd ((VIn.s4 0 (.int .i64 ly.maj) 1 (.int .i64 ly.min) 2 (.int .i64 ly.pat) 3 (.slice a2 ly.pre.length c2) K.out O).bl hb)
 replace L := Hd ((VIn.s4 0 (.int .i64 ly.maj) 1 (.int .i64 ly.min) 2 (.int .i64 ly.pat) 3 (.slice a2 ly.pre.length c2) L.out O).bl hb)
 replace M := Hd ((VIn.s4 0 (.int .i64 ly.maj) 1 (.int .i64 ly.min) 2 (.int .i64 ly.pat) 3 (.slice a2 ly.pre.length c2) M.out O).bl hb)
 replace X := ((Bk.f4 (w.heap.size + 1 + 1 + 1) 0 (.int .i64 ly.maj) 1 (.int .i64 ly.min) 2 (.int .i64 ly.pat) 3 (.slice a2 ly.pre.length c2) X)).bw hb
 replace Y := ((Bk.f4 (w.heap.size + 1 + 1 + 1) 0 (.int .i64 ly.maj) 1 (.int .i64 ly.min) 2 (.int .i64 ly.pat) 3 (.slice a2 ly.pre.length c2) Y)).bw hb
 replace R := ((Bk.f4 (w.heap.size + 1 + 1 + 1) 0 (.int .i64 ly.maj) 1 (.int .i64 ly.min) 2 (.int .i64 ly.pat) 3 (.slice a2 ly.pre.length c2) R)).bw hb
 replace O := (((((O.st 0 (.int .i64 ly.maj)).st 1 (.int .i64 ly.min)).st 2 (.int .i64 ly.pat)).st 3 (.slice a2 ly.pre.length c2))).bw hb
 clear hb
 have s2 := B2.size
 clear Xc Xf Xl Yc Yf Yl Rc Rf Rl Oc Of Ol
 have ⟨Xc, Xf, Xl⟩ := X
 have ⟨Yc, Yf, Yl⟩ := Y
 have ⟨Rc, Rf, Rl⟩ := R
 have ⟨Oc, Of, Ol⟩ := O
 go_wp2_with fail
 refine wp_region_ordD [(11, w.heap.size + 1 + 1)] [0, 1, 2, 3, 4, 5, 6, 7, 8, 9, 10, 11, 12] (by kernel_rfl) (by kernel_rfl) ?_
 replace H := Hd ((VIn.s5 4 (.int .i64 hy.maj) 5 (.int .i64 hy.min) 6 (.int .i64 hy.pat) 7 (.slice b2 hy.pre.length d2) 8 (.bool false) H.out O).bl (Below.refl _ _).drew)
 replace K := Hd ((VIn.s5 4 (.int .i64 hy.maj) 5 (.int .i64 hy.min) 6 (.int .i64 hy.pat) 7 (.slice b2 hy.pre.length d2) 8 (.bool false) K.out O).bl (Below.refl _ _).drew)
 replace L := Hd ((VIn.s5 4 (.int .i64 hy.maj) 5 (.int .i64 hy.min) 6 (.int .i64 hy.pat) 7 (.slice b2 hy.pre.length d2) 8 (.bool false) L.out O).bl (Below.refl _ _).drew)
 replace M := Hd ((VIn.s5 4 (.int .i64 hy.maj) 5 (.int .i64 hy.min) 6 (.int .i64 hy.pat) 7 (.slice b2 hy.pre.length d2) 8 (.bool false) M.out O).bl (Below.refl _ _).drew)
 replace X := (Bk.f5 (w.heap.size + 1 + 1 + 1) 4 (.int .i64 hy.maj) 5 (.int .i64 hy.min) 6 (.int .i64 hy.pat) 7 (.slice b2 hy.pre.length d2) 8 (.bool false) X).drew
 replace Y := (Bk.f5 (w.heap.size + 1 + 1 + 1) 4 (.int .i64 hy.maj) 5 (.int .i64 hy.min) 6 (.int .i64 hy.pat) 7 (.slice b2 hy.pre.length d2) 8 (.bool false) Y).drew
 replace R := (Bk.f5 (w.heap.size + 1 + 1 + 1) 4 (.int .i64 hy.maj) 5 (.int .i64 hy.min) 6 (.int .i64 hy.pat) 7 (.slice b2 hy.pre.length d2) 8 (.bool false) R).drew
 replace O := (((((O.st 4 (.int .i64 hy.maj)).st 5 (.int .i64 hy.min)).st 6 (.int .i64 hy.pat)).st 7 (.slice b2 hy.pre.length d2)).st 8 (.bool false)).drew
 clear Xc Xf Xl Yc Yf Yl Rc Rf Rl Oc Of Ol
 generalize hW : (((((w2.setCell ⟨w.heap.size + 1 + 1 + 1, 4, none⟩ (.int .i64 hy.maj)).setCell ⟨w.heap.size + 1 + 1 + 1, 5, none⟩ (.int .i64 hy.min)).setCell ⟨w.heap.size + 1 + 1 + 1, 6, none⟩ (.int .i64 hy.pat)).setCell ⟨w.heap.size + 1 + 1 + 1, 7, none⟩ (.slice b2 hy.pre.length d2)).setCell ⟨w.heap.size + 1 + 1 + 1, 8, none⟩ (.bool false)).drew = w3 at *
 have B3 : Below w.heap.size w w3 := by rw [← hW]; go_grown
 have q3 : w2.heap.size ≤ w3.heap.size := by rw [← hW]; go_size
 clear hW
 have s3 := B3.size
 have ⟨Xc, Xf, Xl⟩ := X
 have ⟨Yc, Yf, Yl⟩ := Y
 have ⟨Rc, Rf, Rl⟩ := R
 have ⟨Oc, Of, Ol⟩ := O
 repeat (first | (refine wpD_skip rfl rfl ?_; try simp only [pts]) | (refine wpD_pure rfl rfl ?_; go_big_quiet_step (fail); refine wpQuiet_nil ?_) | (refine wpD_rd [] (by kernel_rfl) rfl rfl ?_; go_big_quiet_step (fail); refine wpQuiet_nil ?_))
 try simp only [pts]
 refine wpD_call (f := 77) rfl rfl rfl (by simp [go_sem]; rfl) ?_
 refine (C3.out _ L.out M.out).mono ?_
 rintro e w4 ⟨rfl, hb⟩
 refine ⟨_, rfl, hb, ?_⟩
 skip
 have B4 := bcm w hb
 have q4 : w3.heap.size ≤ w4.heap.size := qle hb
 replace H := Hd (H.out.bl hb)
 replace K := Hd (K.out.bl hb)
 replace L := Hd (L.out.bl hb)
 replace M := Hd (M.out.bl hb)
 replace X := X.bw hb
 replace Y := Y.bw hb
 replace R := R.bw hb
 replace O := O.bw hb
 clear hb
 have s4 := B4.size
 clear Xc Xf Xl Yc Yf Yl Rc Rf Rl Oc Of Ol
 have ⟨Xc, Xf, Xl⟩ := X
 have ⟨Yc, Yf, Yl⟩ := Y
 have ⟨Rc, Rf, Rl⟩ := R
 have ⟨Oc, Of, Ol⟩ := O
 try simp only [pts]
 repeat (first | (refine wpD_skip rfl rfl ?_; try simp only [pts]) | (refine wpD_pure rfl rfl ?_; go_big_quiet_step (fail); refine wpQuiet_nil ?_) | (refine wpD_rd [] (by kernel_rfl) rfl rfl ?_; go_big_quiet_step (fail); refine wpQuiet_nil ?_))
 try simp only [pts]
 refine wpD_st rfl rfl rfl (w' := (((((((((w4.setCell ⟨w.heap.size + 1 + 1, 0, none⟩ (.int .i64 ly.maj)).setCell ⟨w.heap.size + 1 + 1, 1, none⟩ (.int .i64 ly.min)).setCell ⟨w.heap.size + 1 + 1, 2, none⟩ (.int .i64 ly.pat)).setCell ⟨w.heap.size + 1 + 1, 3, none⟩ (.slice a2 ly.pre.length c2)).setCell ⟨w.heap.size + 1 + 1, 4, none⟩ (.int .i64 hy.maj)).setCell ⟨w.heap.size + 1 + 1, 5, none⟩ (.int .i64 hy.min)).setCell ⟨w.heap.size + 1 + 1, 6, none⟩ (.int .i64 hy.pat)).setCell ⟨w.heap.size + 1 + 1, 7, none⟩ (.slice b2 hy.pre.length d2)).setCell ⟨w.heap.size + 1 + 1, 8, none⟩ (.bool false))) (by simp [go_sem, Rc, Rf]) ((((((((((ExtD.refl _ _).s1).s1).s1).s1).s1).s1).s1).s1).s1) ?_
 try simp only [pts]
 repeat (first | (refine wpD_skip rfl rfl ?_; try simp only [pts]) | (refine wpD_pure rfl rfl ?_; go_big_quiet_step (fail); refine wpQuiet_nil ?_) | (refine wpD_rd [] (by kernel_rfl) rfl rfl ?_; go_big_quiet_step (fail); refine wpQuiet_nil ?_))
 try simp only [pts]
 have RN := (((((((((R.st 0 (.int .i64 ly.maj)).st 1 (.int .i64 ly.min)).st 2 (.int .i64 ly.pat)).st 3 (.slice a2 ly.pre.length c2)).st 4 (.int .i64 hy.maj)).st 5 (.int .i64 hy.min)).st 6 (.int .i64 hy.pat)).st 7 (.slice b2 hy.pre.length d2)).st 8 (.bool false))
 obtain ⟨RNc, RNf, RNl⟩ := RN
 refine wpD_nil ?_
 try simp only [pts]
 go_wp2_with fail
 refine bodyPost_ret (v := .tuple #[.agg #[.int .i64 ly.maj, .int .i64 ly.min, .int .i64 ly.pat, .slice a2 ly.pre.length c2, .int .i64 hy.maj, .int .i64 hy.min, .int .i64 hy.pat, .slice b2 hy.pre.length d2, .bool false], .bool g]) (by simp [results, Tryz.results76, go_sem, RNc]) rfl ⟨rfl, by go_grown⟩
set_option maxRecDepth 100000 in
set_option maxHeartbeats 4000000 in
theorem com_lt_f_f_ge (lo hi ly hy : Pl.Ver) (a b a2 b2 : Option Addr) (c d c2 d2 : Nat) (w : World) (h1 : VIn w lo a c) (h2 : VIn w hi b d) (h3 : VIn w ly a2 c2) (h4 : VIn w hy b2 d2) (o1 : lo.Ok) (o2 : hi.Ok) (o3 : ly.Ok) (o4 : hy.Ok) (k : Int) (e1 : Pl.verCmp lo ly = k) (hk : k < 0) (m : Int) (e2 : Pl.verCmp hy hi = m) (hm : ¬ m < 0) (n : Int) (e3 : Pl.verCmp ly hi = n) (g : Bool) (e4 : decide (n < 0) = g) :
 Calls Tryz.prog 76 #[ivV ⟨lo, hi, false⟩ a b c d, ivV ⟨ly, hy, false⟩ a2 b2 c2 d2] w fun e w' => e = .returned (.tuple #[ivV ⟨ly, hi, false⟩ a2 b c2 d, .bool g]) ∧ Below w.heap.size w w' := by
 have H := Hd h1
 have K := Hd h2
 have L := Hd h3
 have M := Hd h4
 have C1 := Hd (fun (W : World) (g1 : VIn W lo a c) (g2 : VIn W ly a2 c2) => VersionOrder_any lo ly a a2 c c2 W (VOk.of g1 o1) (VOk.of g2 o3))
 rw [e1] at C1
 have t1 := decT hk
 clear e1 hk
 have C2 := Hd (fun (W : World) (g1 : VIn W hy b2 d2) (g2 : VIn W hi b d) => VersionOrder_any hy hi b2 b d2 d W (VOk.of g1 o4) (VOk.of g2 o2))
 rw [e2] at C2
 have t2 := decF hm
 clear e2 hm
 have C3 := Hd (fun (W : World) (g1 : VIn W ly a2 c2) (g2 : VIn W hi b d) => VersionOrder_any ly hi a2 b c2 d W (VOk.of g1 o3) (VOk.of g2 o2))
 rw [e3] at C3
 clear e3
 clear h1 h2 h3 h4 o1 o2 o3 o4
 go_enter Tryz.func76, Tryz.ntmps76
 have B0 := brl w
 go_wp2_with fail
 refine (C1.out _ (H.out.bl (by go_grown)) (L.out.bl (by go_grown))).mono ?_
 rintro e w1 ⟨rfl, hb⟩
 have B1 := bcm w hb
 have q1 : w.heap.size + 4 ≤ w1.heap.size := qle hb
 replace H := Hd (((((H.out.al _).al _).al _).al _).bl hb)
 replace K := Hd (((((K.out.al _).al _).al _).al _).bl hb)
 replace L := Hd (((((L.out.al _).al _).al _).al _).bl hb)
 replace M := Hd (((((M.out.al _).al _).al _).al _).bl hb)
 have X := (((((bkn w.heap.size [.int .i64 lo.maj, .int .i64 lo.min, .int .i64 lo.pat, .slice a lo.pre.length c, .int .i64 hi.maj, .int .i64 hi.min, .int .i64 hi.pat, .slice b hi.pre.length d, .bool false] 101).alloc _).alloc _).alloc _)).bw hb
 have Y := ((((bkn (w.heap.size + 1) [.int .i64 ly.maj, .int .i64 ly.min, .int .i64 ly.pat, .slice a2 ly.pre.length c2, .int .i64 hy.maj, .int .i64 hy.min, .int .i64 hy.pat, .slice b2 hy.pre.length d2, .bool false] 101).alloc _).alloc _)).bw hb
 have R := (((bkn (w.heap.size + 1 + 1) [.int .i64 0, .int .i64 0, .int .i64 0, .slice none 0 0, .int .i64 0, .int .i64 0, .int .i64 0, .slice none 0 0, .bool false] 101).alloc _)).bw hb
 have O := ((bkn (w.heap.size + 1 + 1 + 1) [.int .i64 lo.maj, .int .i64 lo.min, .int .i64 lo.pat, .slice a lo.pre.length c, .int .i64 hi.maj, .int .i64 hi.min, .int .i64 hi.pat, .slice b hi.pre.length d, .bool false] 101)).bw hb
 clear hb
 have s1 := B1.size
 have ⟨Xc, Xf, Xl⟩ := X
 have ⟨Yc, Yf, Yl⟩ := Y
 have ⟨Rc, Rf, Rl⟩ := R
 have ⟨Oc, Of, Ol⟩ := O
 go_wp2_with fail
 refine (C2.out _ ((VIn.s4 0 (.int .i64 ly.maj) 1 (.int .i64 ly.min) 2 (.int .i64 ly.pat) 3 (.slice a2 ly.pre.length c2) M.out O)) ((VIn.s4 0 (.int .i64 ly.maj) 1 (.int .i64 ly.min) 2 (.int .i64 ly.pat) 3 (.slice a2 ly.pre.length c2) K.out O))).mono ?_
 rintro e w2 ⟨rfl, hb⟩
 have B2 := bcm w hb
 have q2 : w1.heap.size ≤ w2.heap.size := qle hb
 replace H := Hd ((VIn.s4 0 (.int .i64 ly.maj) 1 (.int .i64 ly.min) 2 (.int .i64 ly.pat) 3 (.slice a2 ly.pre.length c2) H.out O).bl hb)
 replace K := Hd ((VIn.s4 0 (.int .i64 ly.maj) 1 (.int .i64 ly.min) 2 (.int .i64 ly.pat) 3 (.slice a2 ly.pre.length c2) K.out O).bl hb)
 replace L := Hd ((VIn.s4 0 (.int .i64 ly.maj) 1 (.int .i64 ly.min) 2 (.int .i64 ly.pat) 3 (.slice a2 ly.pre.length c2) L.out O).bl hb)
 replace M := Hd ((VIn.s4 0 (.int .i64 ly.maj) 1 (.int .i64 ly.min) 2 (.int .i64 ly.pat) 3 (.slice a2 ly.pre.length c2) M.out O).bl hb)
 replace X := ((Bk.f4 (w.heap.size + 1 + 1 + 1) 0 (.int .i64 ly.maj) 1 (.int .i64 ly.min) 2 (.int .i64 ly.pat) 3 (.slice a2 ly.pre.length c2) X)).bw hb
 replace Y := ((Bk.f4 (w.heap.size + 1 + 1 + 1) 0 (.int .i64 ly.maj) 1 (.int .i64 ly.min) 2 (.int .i64 ly.pat) 3 (.slice a2 ly.pre.length c2) Y)).bw hb
 replace R := ((Bk.f4 (w.heap.size + 1 + 1 + 1) 0 (.int .i64 ly.maj) 1 (.int .i64 ly.min) 2 (.int .i64 ly.pat) 3 (.slice a2 ly.pre.length c2) R)).bw hb
 replace O := (((((O.st 0 (.int .i64 ly.maj)).st 1 (.int .i64 ly.min)).st 2 (.int .i64 ly.pat)).st 3 (.slice a2 ly.pre.length c2))).bw hb
 clear hb
 have s2 := B2.size
 clear Xc Xf Xl Yc Yf Yl Rc Rf Rl Oc Of Ol
 have ⟨Xc, Xf, Xl⟩ := X
 have ⟨Yc, Yf, Yl⟩ := Y
 have ⟨Rc, Rf, Rl⟩ := R
 have ⟨Oc, Of, Ol⟩ := O
 go_wp2_with fail
 refine wp_region_ordD [(11, w.heap.size + 1 + 1)] [0, 1, 2, 3, 4, 5, 6, 7, 8, 9, 10, 11, 12] (by kernel_rfl) (by kernel_rfl) ?_
 have B3 : Below w.heap.size w w2.drew := by go_grown
 have q3 : w2.heap.size ≤ w2.drew.heap.size := by simp only [World.size_drew]; omega
 replace H := Hd (H.out.bl (Below.refl _ _).drew)
 replace K := Hd (K.out.bl (Below.refl _ _).drew)
 replace L := Hd (L.out.bl (Below.refl _ _).drew)
 replace M := Hd (M.out.bl (Below.refl _ _).drew)
 replace X := X.drew
 replace Y := Y.drew
 replace R := R.drew
 replace O := O.drew
 clear Xc Xf Xl Yc Yf Yl Rc Rf Rl Oc Of Ol
 generalize w2.drew = w3 at *
 have s3 := B3.size
 have ⟨Xc, Xf, Xl⟩ := X
 have ⟨Yc, Yf, Yl⟩ := Y
 have ⟨Rc, Rf, Rl⟩ := R
 have ⟨Oc, Of, Ol⟩ := O
 repeat (first | (refine wpD_skip rfl rfl ?_; try simp only [pts]) | (refine wpD_pure rfl rfl ?_; go_big_quiet_step (fail); refine wpQuiet_nil ?_) | (refine wpD_rd [] (by kernel_rfl) rfl rfl ?_; go_big_quiet_step (fail); refine wpQuiet_nil ?_))
 try simp only [pts]
 refine wpD_call (f := 77) rfl rfl rfl (by simp [go_sem]; rfl) ?_
 refine (C3.out _ L.out K.out).mono ?_
 rintro e w4 ⟨rfl, hb⟩
 refine ⟨_, rfl, hb, ?_⟩
 skip
 have B4 := bcm w hb
 have q4 : w3.heap.size ≤ w4.heap.size := qle hb
 replace H := Hd (H.out.bl hb)
 replace K := Hd (K.out.bl hb)
 replace L := Hd (L.out.bl hb)
 replace M := Hd (M.out.bl hb)
 replace X := X.bw hb
 replace Y := Y.bw hb
 replace R := R.bw hb
 replace O := O.bw hb
 clear hb
 have s4 := B4.size
 clear Xc Xf Xl Yc Yf Yl Rc Rf Rl Oc Of Ol
 have ⟨Xc, Xf, Xl⟩ := X
 have ⟨Yc, Yf, Yl⟩ := Y
 have ⟨Rc, Rf, Rl⟩ := R
 have ⟨Oc, Of, Ol⟩ := O
 try simp only [pts]
 repeat (first | (refine wpD_skip rfl rfl ?_; try simp only [pts]) | (refine wpD_pure rfl rfl ?_; go_big_quiet_step (fail); refine wpQuiet_nil ?_) | (refine wpD_rd [] (by kernel_rfl) rfl rfl ?_; go_big_quiet_step (fail); refine wpQuiet_nil ?_))
 try simp only [pts]
 refine wpD_st rfl rfl rfl (w' := (((((((((w4.setCell ⟨w.heap.size + 1 + 1, 0, none⟩ (.int .i64 ly.maj)).setCell ⟨w.heap.size + 1 + 1, 1, none⟩ (.int .i64 ly.min)).setCell ⟨w.heap.size + 1 + 1, 2, none⟩ (.int .i64 ly.pat)).setCell ⟨w.heap.size + 1 + 1, 3, none⟩ (.slice a2 ly.pre.length c2)).setCell ⟨w.heap.size + 1 + 1, 4, none⟩ (.int .i64 hi.maj)).setCell ⟨w.heap.size + 1 + 1, 5, none⟩ (.int .i64 hi.min)).setCell ⟨w.heap.size + 1 + 1, 6, none⟩ (.int .i64 hi.pat)).setCell ⟨w.heap.size + 1 + 1, 7, none⟩ (.slice b hi.pre.length d)).setCell ⟨w.heap.size + 1 + 1, 8, none⟩ (.bool false))) (by simp [go_sem, Rc, Rf]) ((((((((((ExtD.refl _ _).s1).s1).s1).s1).s1).s1).s1).s1).s1) ?_
 try simp only [pts]
 repeat (first | (refine wpD_skip rfl rfl ?_; try simp only [pts]) | (refine wpD_pure rfl rfl ?_; go_big_quiet_step (fail); refine wpQuiet_nil ?_) | (refine wpD_rd [] (by kernel_rfl) rfl rfl ?_; go_big_quiet_step (fail); refine wpQuiet_nil ?_))
 try simp only [pts]
 have RN := (((((((((R.st 0 (.int .i64 ly.maj)).st 1 (.int .i64 ly.min)).st 2 (.int .i64 ly.pat)).st 3 (.slice a2 ly.pre.length c2)).st 4 (.int .i64 hi.maj)).st 5 (.int .i64 hi.min)).st 6 (.int .i64 hi.pat)).st 7 (.slice b hi.pre.length d)).st 8 (.bool false))
 obtain ⟨RNc, RNf, RNl⟩ := RN
 refine wpD_nil ?_
 try simp only [pts]
 go_wp2_with fail
 refine bodyPost_ret (v := .tuple #[.agg #[.int .i64 ly.maj, .int .i64 ly.min, .int .i64 ly.pat, .slice a2 ly.pre.length c2, .int .i64 hi.maj, .int .i64 hi.min, .int .i64 hi.pat, .slice b hi.pre.length d, .bool false], .bool g]) (by simp [results, Tryz.results76, go_sem, RNc]) rfl ⟨rfl, by go_grown⟩
set_option maxRecDepth 100000 in
set_option maxHeartbeats 4000000 in
theorem com_ge_t_t (lo hi ly hy : Pl.Ver) (a b a2 b2 : Option Addr) (c d c2 d2 : Nat) (w : World) (h1 : VIn w lo a c) (h2 : VIn w hi b d) (h3 : VIn w ly a2 c2) (h4 : VIn w hy b2 d2) (o1 : lo.Ok) (_o2 : hi.Ok) (o3 : ly.Ok) (_o4 : hy.Ok) (k : Int) (e1 : Pl.verCmp lo ly = k) (hk : ¬ k < 0) :
 Calls Tryz.prog 76 #[ivV ⟨lo, hi, true⟩ a b c d, ivV ⟨ly, hy, true⟩ a2 b2 c2 d2] w fun e w' => e = .returned (.tuple #[ivV ⟨lo, hy, true⟩ a b2 c d2, .bool true]) ∧ Below w.heap.size w w' := by
 have H := Hd h1
 have K := Hd h2
 have L := Hd h3
 have M := Hd h4
 have C1 := Hd (fun (W : World) (g1 : VIn W lo a c) (g2 : VIn W ly a2 c2) => VersionOrder_any lo ly a a2 c c2 W (VOk.of g1 o1) (VOk.of g2 o3))
 rw [e1] at C1
 have t1 := decF hk
 clear e1 hk
 clear h1 h2 h3 h4 o1 _o2 o3 _o4
 go_enter Tryz.func76, Tryz.ntmps76
 have B0 := brl w
 go_wp2_with fail
 refine (C1.out _ (H.out.bl (by go_grown)) (L.out.bl (by go_grown))).mono ?_
 rintro e w1 ⟨rfl, hb⟩
 have B1 := bcm w hb
 have q1 : w.heap.size + 4 ≤ w1.heap.size := qle hb
 replace H := Hd (((((H.out.al _).al _).al _).al _).bl hb)
 replace K := Hd (((((K.out.al _).al _).al _).al _).bl hb)
 replace L := Hd (((((L.out.al _).al _).al _).al _).bl hb)
 replace M := Hd (((((M.out.al _).al _).al _).al _).bl hb)
 have X := (((((bkn w.heap.size [.int .i64 lo.maj, .int .i64 lo.min, .int .i64 lo.pat, .slice a lo.pre.length c, .int .i64 hi.maj, .int .i64 hi.min, .int .i64 hi.pat, .slice b hi.pre.length d, .bool true] 101).alloc _).alloc _).alloc _)).bw hb
 have Y := ((((bkn (w.heap.size + 1) [.int .i64 ly.maj, .int .i64 ly.min, .int .i64 ly.pat, .slice a2 ly.pre.length c2, .int .i64 hy.maj, .int .i64 hy.min, .int .i64 hy.pat, .slice b2 hy.pre.length d2, .bool true] 101).alloc _).alloc _)).bw hb
 have R := (((bkn (w.heap.size + 1 + 1) [.int .i64 0, .int .i64 0, .int .i64 0, .slice none 0 0, .int .i64 0, .int .i64 0, .int .i64 0, .slice none 0 0, .bool false] 101).alloc _)).bw hb
 have O := ((bkn (w.heap.size + 1 + 1 + 1) [.int .i64 lo.maj, .int .i64 lo.min, .int .i64 lo.pat, .slice a lo.pre.length c, .int .i64 hi.maj, .int .i64 hi.min, .int .i64 hi.pat, .slice b hi.pre.length d, .bool true] 101)).bw hb
 clear hb
 have s1 := B1.size
 have ⟨Xc, Xf, Xl⟩ := X
 have ⟨Yc, Yf, Yl⟩ := Y
 have ⟨Rc, Rf, Rl⟩ := R
 have ⟨Oc, Of, Ol⟩ := O
 go_wp2_with fail
 refine wp_region_ordD [(11, w.heap.size + 1 + 1)] [0, 1, 2, 3, 4, 5, 6, 7, 8, 9, 10, 11, 12] (by kernel_rfl) (by kernel_rfl) ?_
 replace H := Hd ((VIn.s5 4 (.int .i64 hy.maj) 5 (.int .i64 hy.min) 6 (.int .i64 hy.pat) 7 (.slice b2 hy.pre.length d2) 8 (.bool true) H.out O).bl (Below.refl _ _).drew)
 replace K := Hd ((VIn.s5 4 (.int .i64 hy.maj) 5 (.int .i64 hy.min) 6 (.int .i64 hy.pat) 7 (.slice b2 hy.pre.length d2) 8 (.bool true) K.out O).bl (Below.refl _ _).drew)
 replace L := Hd ((VIn.s5 4 (.int .i64 hy.maj) 5 (.int .i64 hy.min) 6 (.int .i64 hy.pat) 7 (.slice b2 hy.pre.length d2) 8 (.bool true) L.out O).bl (Below.refl _ _).drew)
 replace M := Hd ((VIn.s5 4 (.int .i64 hy.maj) 5 (.int .i64 hy.min) 6 (.int .i64 hy.pat) 7 (.slice b2 hy.pre.length d2) 8 (.bool true) M.out O).bl (Below.refl _ _).drew)
 replace X := (Bk.f5 (w.heap.size + 1 + 1 + 1) 4 (.int .i64 hy.maj) 5 (.int .i64 hy.min) 6 (.int .i64 hy.pat) 7 (.slice b2 hy.pre.length d2) 8 (.bool true) X).drew
 replace Y := (Bk.f5 (w.heap.size + 1 + 1 + 1) 4 (.int .i64 hy.maj) 5 (.int .i64 hy.min) 6 (.int .i64 hy.pat) 7 (.slice b2 hy.pre.length d2) 8 (.bool true) Y).drew
 replace R := (Bk.f5 (w.heap.size + 1 + 1 + 1) 4 (.int .i64 hy.maj) 5 (.int .i64 hy.min) 6 (.int .i64 hy.pat) 7 (.slice b2 hy.pre.length d2) 8 (.bool true) R).drew
 replace O := (((((O.st 4 (.int .i64 hy.maj)).st 5 (.int .i64 hy.min)).st 6 (.int .i64 hy.pat)).st 7 (.slice b2 hy.pre.length d2)).st 8 (.bool true)).drew
 clear Xc Xf Xl Yc Yf Yl Rc Rf Rl Oc Of Ol
 generalize hW : (((((w1.setCell ⟨w.heap.size + 1 + 1 + 1, 4, none⟩ (.int .i64 hy.maj)).setCell ⟨w.heap.size + 1 + 1 + 1, 5, none⟩ (.int .i64 hy.min)).setCell ⟨w.heap.size + 1 + 1 + 1, 6, none⟩ (.int .i64 hy.pat)).setCell ⟨w.heap.size + 1 + 1 + 1, 7, none⟩ (.slice b2 hy.pre.length d2)).setCell ⟨w.heap.size + 1 + 1 + 1, 8, none⟩ (.bool true)).drew = w2 at *
 have B2 : Below w.heap.size w w2 := by rw [← hW]; go_grown
 have q2 : w1.heap.size ≤ w2.heap.size := by rw [← hW]; go_size
 clear hW
 have s2 := B2.size
 have ⟨Xc, Xf, Xl⟩ := X
 have ⟨Yc, Yf, Yl⟩ := Y
 have ⟨Rc, Rf, Rl⟩ := R
 have ⟨Oc, Of, Ol⟩ := O
 repeat (first | (refine wpD_skip rfl rfl ?_; try simp only [pts]) | (refine wpD_pure rfl rfl ?_; go_big_quiet_step (fail); refine wpQuiet_nil ?_) | (refine wpD_rd [] (by kernel_rfl) rfl rfl ?_; go_big_quiet_step (fail); refine wpQuiet_nil ?_))
 try simp only [pts]
 refine wpD_st rfl rfl rfl (w' := (((((((((w2.setCell ⟨w.heap.size + 1 + 1, 0, none⟩ (.int .i64 lo.maj)).setCell ⟨w.heap.size + 1 + 1, 1, none⟩ (.int .i64 lo.min)).setCell ⟨w.heap.size + 1 + 1, 2, none⟩ (.int .i64 lo.pat)).setCell ⟨w.heap.size + 1 + 1, 3, none⟩ (.slice a lo.pre.length c)).setCell ⟨w.heap.size + 1 + 1, 4, none⟩ (.int .i64 hy.maj)).setCell ⟨w.heap.size + 1 + 1, 5, none⟩ (.int .i64 hy.min)).setCell ⟨w.heap.size + 1 + 1, 6, none⟩ (.int .i64 hy.pat)).setCell ⟨w.heap.size + 1 + 1, 7, none⟩ (.slice b2 hy.pre.length d2)).setCell ⟨w.heap.size + 1 + 1, 8, none⟩ (.bool true))) (by simp [go_sem, Rc, Rf]) ((((((((((ExtD.refl _ _).s1).s1).s1).s1).s1).s1).s1).s1).s1) ?_
 try simp only [pts]
 repeat (first | (refine wpD_skip rfl rfl ?_; try simp only [pts]) | (refine wpD_pure rfl rfl ?_; go_big_quiet_step (fail); refine wpQuiet_nil ?_) | (refine wpD_rd [] (by kernel_rfl) rfl rfl ?_; go_big_quiet_step (fail); refine wpQuiet_nil ?_))
 try simp only [pts]
 have RN := (((((((((R.st 0 (.int .i64 lo.maj)).st 1 (.int .i64 lo.min)).st 2 (.int .i64 lo.pat)).st 3 (.slice a lo.pre.length c)).st 4 (.int .i64 hy.maj)).st 5 (.int .i64 hy.min)).st 6 (.int .i64 hy.pat)).st 7 (.slice b2 hy.pre.length d2)).st 8 (.bool true))
 obtain ⟨RNc, RNf, RNl⟩ := RN
 refine wpD_nil ?_
 try simp only [pts]
 go_wp2_with fail
 refine bodyPost_ret (v := .tuple #[.agg #[.int .i64 lo.maj, .int .i64 lo.min, .int .i64 lo.pat, .slice a lo.pre.length c, .int .i64 hy.maj, .int .i64 hy.min, .int .i64 hy.pat, .slice b2 hy.pre.length d2, .bool true], .bool true]) (by simp [results, Tryz.results76, go_sem, RNc]) rfl ⟨rfl, by go_grown⟩
set_option maxRecDepth 100000 in
set_option maxHeartbeats 4000000 in
theorem com_ge_t_f (lo hi ly hy : Pl.Ver) (a b a2 b2 : Option Addr) (c d c2 d2 : Nat) (w : World) (h1 : VIn w lo a c) (h2 : VIn w hi b d) (h3 : VIn w ly a2 c2) (h4 : VIn w hy b2 d2) (o1 : lo.Ok) (_o2 : hi.Ok) (o3 : ly.Ok) (o4 : hy.Ok) (k : Int) (e1 : Pl.verCmp lo ly = k) (hk : ¬ k < 0) (n : Int) (e3 : Pl.verCmp lo hy = n) (g : Bool) (e4 : decide (n < 0) = g) :
 Calls Tryz.prog 76 #[ivV ⟨lo, hi, true⟩ a b c d, ivV ⟨ly, hy, false⟩ a2 b2 c2 d2] w fun e w' => e = .returned (.tuple #[ivV ⟨lo, hy, false⟩ a b2 c d2, .bool g]) ∧ Below w.heap.size w w' := by
 have H := Hd h1
 have K := Hd h2
 have L := Hd h3
 have M := Hd h4
 have C1 := Hd (fun (W : World) (g1 : VIn W lo a c) (g2 : VIn W ly a2 c2) => VersionOrder_any lo ly a a2 c c2 W (VOk.of g1 o1) (VOk.of g2 o3))
 rw [e1] at C1
 have t1 := decF hk
 clear e1 hk
 have C3 := Hd (fun (W : World) (g1 : VIn W lo a c) (g2 : VIn W hy b2 d2) => VersionOrder_any lo hy a b2 c d2 W (VOk.of g1 o1) (VOk.of g2 o4))
 rw [e3] at C3
 clear e3
 clear h1 h2 h3 h4 o1 _o2 o3 o4
 go_enter Tryz.func76, Tryz.ntmps76
 have B0 := brl w
 go_wp2_with fail
 refine (C1.out _ (H.out.bl (by go_grown)) (L.out.bl (by go_grown))).mono ?_
 rintro e w1 ⟨rfl, hb⟩
 have B1 := bcm w hb
 have q1 : w.heap.size + 4 ≤ w1.heap.size := qle hb
 replace H := Hd (((((H.out.al _).al _).al _).al _).bl hb)
 replace K := Hd (((((K.out.al _).al _).al _).al _).bl hb)
 replace L := Hd (((((L.out.al _).al _).al _).al _).bl hb)
 replace M := Hd (((((M.out.al _).al _).al _).al _).bl hb)
 have X := (((((bkn w.heap.size [.int .i64 lo.maj, .int .i64 lo.min, .int .i64 lo.pat, .slice a lo.pre.length c, .int .i64 hi.maj, .int .i64 hi.min, .int .i64 hi.pat, .slice b hi.pre.length d, .bool true] 101).alloc _).alloc _).alloc _)).bw hb
 have Y := ((((bkn (w.heap.size + 1) [.int .i64 ly.maj, .int .i64 ly.min, .int .i64 ly.pat, .slice a2 ly.pre.length c2, .int .i64 hy.maj, .int .i64 hy.min, .int .i64 hy.pat, .slice b2 hy.pre.length d2, .bool false] 101).alloc _).alloc _)).bw hb
 have R := (((bkn (w.heap.size + 1 + 1) [.int .i64 0, .int .i64 0, .int .i64 0, .slice none 0 0, .int .i64 0, .int .i64 0, .int .i64 0, .slice none 0 0, .bool false] 101).alloc _)).bw hb
 have O := ((bkn (w.heap.size + 1 + 1 + 1) [.int .i64 lo.maj, .int .i64 lo.min, .int .i64 lo.pat, .slice a lo.pre.length c, .int .i64 hi.maj, .int .i64 hi.min, .int .i64 hi.pat, .slice b hi.pre.length d, .bool true] 101)).bw hb
 clear hb
 have s1 := B1.size
 have ⟨Xc, Xf, Xl⟩ := X
 have ⟨Yc, Yf, Yl⟩ := Y
 have ⟨Rc, Rf, Rl⟩ := R
 have ⟨Oc, Of, Ol⟩ := O
 go_wp2_with fail
 refine wp_region_ordD [(11, w.heap.size + 1 + 1)] [0, 1, 2, 3, 4, 5, 6, 7, 8, 9, 10, 11, 12] (by kernel_rfl) (by kernel_rfl) ?_
 replace H := Hd ((VIn.s5 4 (.int .i64 hy.maj) 5 (.int .i64 hy.min) 6 (.int .i64 hy.pat) 7 (.slice b2 hy.pre.length d2) 8 (.bool false) H.out O).bl (Below.refl _ _).drew)
 replace K := Hd ((VIn.s5 4 (.int .i64 hy.maj) 5 (.int .i64 hy.min) 6 (.int .i64 hy.pat) 7 (.slice b2 hy.pre.length d2) 8 (.bool false) K.out O).bl (Below.refl _ _).drew)
 replace L := Hd ((VIn.s5 4 (.int .i64 hy.maj) 5 (.int .i64 hy.min) 6 (.int .i64 hy.pat) 7 (.slice b2 hy.pre.length d2) 8 (.bool false) L.out O).bl (Below.refl _ _).drew)
 replace M := Hd ((VIn.s5 4 (.int .i64 hy.maj) 5 (.int .i64 hy.min) 6 (.int .i64 hy.pat) 7 (.slice b2 hy.pre.length d2) 8 (.bool false) M.out O).bl (Below.refl _ _).drew)
 replace X := (Bk.f5 (w.heap.size + 1 + 1 + 1) 4 (.int .i64 hy.maj) 5 (.int .i64 hy.min) 6 (.int .i64 hy.pat) 7 (.slice b2 hy.pre.length d2) 8 (.bool false) X).drew
 replace Y := (Bk.f5 (w.heap.size + 1 + 1 + 1) 4 (.int .i64 hy.maj) 5 (.int .i64 hy.min) 6 (.int .i64 hy.pat) 7 (.slice b2 hy.pre.length d2) 8 (.bool false) Y).drew
 replace R := (Bk.f5 (w.heap.size + 1 + 1 + 1) 4 (.int .i64 hy.maj) 5 (.int .i64 hy.min) 6 (.int .i64 hy.pat) 7 (.slice b2 hy.pre.length d2) 8 (.bool false) R).drew
 replace O := (((((O.st 4 (.int .i64 hy.maj)).st 5 (.int .i64 hy.min)).st 6 (.int .i64 hy.pat)).st 7 (.slice b2 hy.pre.length d2)).st 8 (.bool false)).drew
 clear Xc Xf Xl Yc Yf Yl Rc Rf Rl Oc Of Ol
 generalize hW : (((((w1.setCell ⟨w.heap.size + 1 + 1 + 1, 4, none⟩ (.int .i64 hy.maj)).setCell ⟨w.heap.size + 1 + 1 + 1, 5, none⟩ (.int .i64 hy.min)).setCell ⟨w.heap.size + 1 + 1 + 1, 6, none⟩ (.int .i64 hy.pat)).setCell ⟨w.heap.size + 1 + 1 + 1, 7, none⟩ (.slice b2 hy.pre.length d2)).setCell ⟨w.heap.size + 1 + 1 + 1, 8, none⟩ (.bool false)).drew = w2 at *
 have B2 : Below w.heap.size w w2 := by rw [← hW]; go_grown
 have q2 : w1.heap.size ≤ w2.heap.size := by rw [← hW]; go_size
 clear hW
 have s2 := B2.size
 have ⟨Xc, Xf, Xl⟩ := X
 have ⟨Yc, Yf, Yl⟩ := Y
 have ⟨Rc, Rf, Rl⟩ := R
 have ⟨Oc, Of, Ol⟩ := O
 repeat (first | (refine wpD_skip rfl rfl ?_; try simp only [pts]) | (refine wpD_pure rfl rfl ?_; go_big_quiet_step (fail); refine wpQuiet_nil ?_) | (refine wpD_rd [] (by kernel_rfl) rfl rfl ?_; go_big_quiet_step (fail); refine wpQuiet_nil ?_))
 try simp only [pts]
 refine wpD_call (f := 77) rfl rfl rfl (by simp [go_sem]; rfl) ?_
 refine (C3.out _ H.out M.out).mono ?_
 rintro e w3 ⟨rfl, hb⟩
 refine ⟨_, rfl, hb, ?_⟩
 skip
 have B3 := bcm w hb
 have q3 : w2.heap.size ≤ w3.heap.size := qle hb
 replace H := Hd (H.out.bl hb)
 replace K := Hd (K.out.bl hb)
 replace L := Hd (L.out.bl hb)
 replace M := Hd (M.out.bl hb)
 replace X := X.bw hb
 replace Y := Y.bw hb
 replace R := R.bw hb
 replace O := O.bw hb
 clear hb
 have s3 := B3.size
 clear Xc Xf Xl Yc Yf Yl Rc Rf Rl Oc Of Ol
 have ⟨Xc, Xf, Xl⟩ := X
 have ⟨Yc, Yf, Yl⟩ := Y
 have ⟨Rc, Rf, Rl⟩ := R
 have ⟨Oc, Of, Ol⟩ := O
 try simp only [pts]
 repeat (first | (refine wpD_skip rfl rfl ?_; try simp only [pts]) | (refine wpD_pure rfl rfl ?_; go_big_quiet_step (fail); refine wpQuiet_nil ?_) | (refine wpD_rd [] (by kernel_rfl) rfl rfl ?_; go_big_quiet_step (fail); refine wpQuiet_nil ?_))
 try simp only [pts]
 refine wpD_st rfl rfl rfl (w' := (((((((((w3.setCell ⟨w.heap.size + 1 + 1, 0, none⟩ (.int .i64 lo.maj)).setCell ⟨w.heap.size + 1 + 1, 1, none⟩ (.int .i64 lo.min)).setCell ⟨w.heap.size + 1 + 1, 2, none⟩ (.int .i64 lo.pat)).setCell ⟨w.heap.size + 1 + 1, 3, none⟩ (.slice a lo.pre.length c)).setCell ⟨w.heap.size + 1 + 1, 4, none⟩ (.int .i64 hy.maj)).setCell ⟨w.heap.size + 1 + 1, 5, none⟩ (.int .i64 hy.min)).setCell ⟨w.heap.size + 1 + 1, 6, none⟩ (.int .i64 hy.pat)).setCell ⟨w.heap.size + 1 + 1, 7, none⟩ (.slice b2 hy.pre.length d2)).setCell ⟨w.heap.size + 1 + 1, 8, none⟩ (.bool false))) (by simp [go_sem, Rc, Rf]) ((((((((((ExtD.refl _ _).s1).s1).s1).s1).s1).s1).s1).s1).s1) ?_
 try simp only [pts]
 repeat (first | (refine wpD_skip rfl rfl ?_; try simp only [pts]) | (refine wpD_pure rfl rfl ?_; go_big_quiet_step (fail); refine wpQuiet_nil ?_) | (refine wpD_rd [] (by kernel_rfl) rfl rfl ?_; go_big_quiet_step (fail); refine wpQuiet_nil ?_))
 try simp only [pts]
 have RN := (((((((((R.st 0 (.int .i64 lo.maj)).st 1 (.int .i64 lo.min)).st 2 (.int .i64 lo.pat)).st 3 (.slice a lo.pre.length c)).st 4 (.int .i64 hy.maj)).st 5 (.int .i64 hy.min)).st 6 (.int .i64 hy.pat)).st 7 (.slice b2 hy.pre.length d2)).st 8 (.bool false))
 obtain ⟨RNc, RNf, RNl⟩ := RN
 refine wpD_nil ?_
 try simp only [pts]
 go_wp2_with fail
 refine bodyPost_ret (v := .tuple #[.agg #[.int .i64 lo.maj, .int .i64 lo.min, .int .i64 lo.pat, .slice a lo.pre.length c, .int .i64 hy.maj, .int .i64 hy.min, .int .i64 hy.pat, .slice b2 hy.pre.length d2, .bool false], .bool g]) (by simp [results, Tryz.results76, go_sem, RNc]) rfl ⟨rfl, by go_grown⟩
set_option maxRecDepth 100000 in
set_option maxHeartbeats 4000000 in
theorem com_ge_f_t (lo hi ly hy : Pl.Ver) (a b a2 b2 : Option Addr) (c d c2 d2 : Nat) (w : World) (h1 : VIn w lo a c) (h2 : VIn w hi b d) (h3 : VIn w ly a2 c2) (h4 : VIn w hy b2 d2) (o1 : lo.Ok) (o2 : hi.Ok) (o3 : ly.Ok) (_o4 : hy.Ok) (k : Int) (e1 : Pl.verCmp lo ly = k) (hk : ¬ k < 0) (n : Int) (e3 : Pl.verCmp lo hi = n) (g : Bool) (e4 : decide (n < 0) = g) :
 Calls Tryz.prog 76 #[ivV ⟨lo, hi, false⟩ a b c d, ivV ⟨ly, hy, true⟩ a2 b2 c2 d2] w fun e w' => e = .returned (.tuple #[ivV ⟨lo, hi, false⟩ a b c d, .bool g]) ∧ Below w.heap.size w w' := by
 have H := Hd h1
 have K := Hd h2
 have L := Hd h3
 have M := Hd h4
 have C1 := Hd (fun (W : World) (g1 : VIn W lo a c) (g2 : VIn W ly a2 c2) => VersionOrder_any lo ly a a2 c c2 W (VOk.of g1 o1) (VOk.of g2 o3))
 rw [e1] at C1
 have t1 := decF hk
 clear e1 hk
 have C3 := Hd (fun (W : World) (g1 : VIn W lo a c) (g2 : VIn W hi b d) => VersionOrder_any lo hi a b c d W (VOk.of g1 o1) (VOk.of g2 o2))
 rw [e3] at C3
 clear e3
 clear h1 h2 h3 h4 o1 o2 o3 _o4
 go_enter Tryz.func76, Tryz.ntmps76
 have B0 := brl w
 go_wp2_with fail
 refine (C1.out _ (H.out.bl (by go_grown)) (L.out.bl (by go_grown))).mono ?_
 rintro e w1 ⟨rfl, hb⟩
 have B1 := bcm w hb
 have q1 : w.heap.size + 4 ≤ w1.heap.size := qle hb
 replace H := Hd (((((H.out.al _).al _).al _).al _).bl hb)
 replace K := Hd (((((K.out.al _).al _).al _).al _).bl hb)
 replace L := Hd (((((L.out.al _).al _).al _).al _).bl hb)
 replace M := Hd (((((M.out.al _).al _).al _).al _).bl hb)
 have X := (((((bkn w.heap.size [.int .i64 lo.maj, .int .i64 lo.min, .int .i64 lo.pat, .slice a lo.pre.length c, .int .i64 hi.maj, .int .i64 hi.min, .int .i64 hi.pat, .slice b hi.pre.length d, .bool false] 101).alloc _).alloc _).alloc _)).bw hb
 have Y := ((((bkn (w.heap.size + 1) [.int .i64 ly.maj, .int .i64 ly.min, .int .i64 ly.pat, .slice a2 ly.pre.length c2, .int .i64 hy.maj, .int .i64 hy.min, .int .i64 hy.pat, .slice b2 hy.pre.length d2, .bool true] 101).alloc _).alloc _)).bw hb
 have R := (((bkn (w.heap.size + 1 + 1) [.int .i64 0, .int .i64 0, .int .i64 0, .slice none 0 0, .int .i64 0, .int .i64 0, .int .i64 0, .slice none 0 0, .bool false] 101).alloc _)).bw hb
 have O := ((bkn (w.heap.size + 1 + 1 + 1) [.int .i64 lo.maj, .int .i64 lo.min, .int .i64 lo.pat, .slice a lo.pre.length c, .int .i64 hi.maj, .int .i64 hi.min, .int .i64 hi.pat, .slice b hi.pre.length d, .bool false] 101)).bw hb
 clear hb
 have s1 := B1.size
 have ⟨Xc, Xf, Xl⟩ := X
 have ⟨Yc, Yf, Yl⟩ := Y
 have ⟨Rc, Rf, Rl⟩ := R
 have ⟨Oc, Of, Ol⟩ := O
 go_wp2_with fail
 refine wp_region_ordD [(11, w.heap.size + 1 + 1)] [0, 1, 2, 3, 4, 5, 6, 7, 8, 9, 10, 11, 12] (by kernel_rfl) (by kernel_rfl) ?_
 have B2 : Below w.heap.size w w1.drew := by go_grown
 have q2 : w1.heap.size ≤ w1.drew.heap.size := by simp only [World.size_drew]; omega
 replace H := Hd (H.out.bl (Below.refl _ _).drew)
 replace K := Hd (K.out.bl (Below.refl _ _).drew)
 replace L := Hd (L.out.bl (Below.refl _ _).drew)
 replace M := Hd (M.out.bl (Below.refl _ _).drew)
 replace X := X.drew
 replace Y := Y.drew
 replace R := R.drew
 replace O := O.drew
 clear Xc Xf Xl Yc Yf Yl Rc Rf Rl Oc Of Ol
 generalize w1.drew = w2 at *
 have s2 := B2.size
 have ⟨Xc, Xf, Xl⟩ := X
 have ⟨Yc, Yf, Yl⟩ := Y
 have ⟨Rc, Rf, Rl⟩ := R
 have ⟨Oc, Of, Ol⟩ := O
 repeat (first | (refine wpD_skip rfl rfl ?_; try simp only [pts]) | (refine wpD_pure rfl rfl ?_; go_big_quiet_step (fail); refine wpQuiet_nil ?_) | (refine wpD_rd [] (by kernel_rfl) rfl rfl ?_; go_big_quiet_step (fail); refine wpQuiet_nil ?_))
 try simp only [pts]
 refine wpD_call (f := 77) rfl rfl rfl (by simp [go_sem]; rfl) ?_
 refine (C3.out _ H.out K.out).mono ?_
 rintro e w3 ⟨rfl, hb⟩
 refine ⟨_, rfl, hb, ?_⟩
 skip
 have B3 := bcm w hb
 have q3 : w2.heap.size ≤ w3.heap.size := qle hb
 replace H := Hd (H.out.bl hb)
 replace K := Hd (K.out.bl hb)
 replace L := Hd (L.out.bl hb)
 replace M := Hd (M.out.bl hb)
 replace X := X.bw hb
 replace Y := Y.bw hb
 replace R := R.bw hb
 replace O := O.bw hb
 clear hb
 have s3 := B3.size
 clear Xc Xf Xl Yc Yf Yl Rc Rf Rl Oc Of Ol
 have ⟨Xc, Xf, Xl⟩ := X
 have ⟨Yc, Yf, Yl⟩ := Y
 have ⟨Rc, Rf, Rl⟩ := R
 have ⟨Oc, Of, Ol⟩ := O
 try simp only [pts]
 repeat (first | (refine wpD_skip rfl rfl ?_; try simp only [pts]) | (refine wpD_pure rfl rfl ?_; go_big_quiet_step (fail); refine wpQuiet_nil ?_) | (refine wpD_rd [] (by kernel_rfl) rfl rfl ?_; go_big_quiet_step (fail); refine wpQuiet_nil ?_))
 try simp only [pts]
 refine wpD_st rfl rfl rfl (w' := (((((((((w3.setCell ⟨w.heap.size + 1 + 1, 0, none⟩ (.int .i64 lo.maj)).setCell ⟨w.heap.size + 1 + 1, 1, none⟩ (.int .i64 lo.min)).setCell ⟨w.heap.size + 1 + 1, 2, none⟩ (.int .i64 lo.pat)).setCell ⟨w.heap.size + 1 + 1, 3, none⟩ (.slice a lo.pre.length c)).setCell ⟨w.heap.size + 1 + 1, 4, none⟩ (.int .i64 hi.maj)).setCell ⟨w.heap.size + 1 + 1, 5, none⟩ (.int .i64 hi.min)).setCell ⟨w.heap.size + 1 + 1, 6, none⟩ (.int .i64 hi.pat)).setCell ⟨w.heap.size + 1 + 1, 7, none⟩ (.slice b hi.pre.length d)).setCell ⟨w.heap.size + 1 + 1, 8, none⟩ (.bool false))) (by simp [go_sem, Rc, Rf]) ((((((((((ExtD.refl _ _).s1).s1).s1).s1).s1).s1).s1).s1).s1) ?_
 try simp only [pts]
 repeat (first | (refine wpD_skip rfl rfl ?_; try simp only [pts]) | (refine wpD_pure rfl rfl ?_; go_big_quiet_step (fail); refine wpQuiet_nil ?_) | (refine wpD_rd [] (by kernel_rfl) rfl rfl ?_; go_big_quiet_step (fail); refine wpQuiet_nil ?_))
 try simp only [pts]
 have RN := (((((((((R.st 0 (.int .i64 lo.maj)).st 1 (.int .i64 lo.min)).st 2 (.int .i64 lo.pat)).st 3 (.slice a lo.pre.length c)).st 4 (.int .i64 hi.maj)).st 5 (.int .i64 hi.min)).st 6 (.int .i64 hi.pat)).st 7 (.slice b hi.pre.length d)).st 8 (.bool false))
 obtain ⟨RNc, RNf, RNl⟩ := RN
 refine wpD_nil ?_
 try simp only [pts]
 go_wp2_with fail
 refine bodyPost_ret (v := .tuple #[.agg #[.int .i64 lo.maj, .int .i64 lo.min, .int .i64 lo.pat, .slice a lo.pre.length c, .int .i64 hi.maj, .int .i64 hi.min, .int .i64 hi.pat, .slice b hi.pre.length d, .bool false], .bool g]) (by simp [results, Tryz.results76, go_sem, RNc]) rfl ⟨rfl, by go_grown⟩
set_option maxRecDepth 100000 in
set_option maxHeartbeats 4000000 in
theorem com_ge_f_f_lt (lo hi ly hy : Pl.Ver) (a b a2 b2 : Option Addr) (c d c2 d2 : Nat) (w : World) (h1 : VIn w lo a c) (h2 : VIn w hi b d) (h3 : VIn w ly a2 c2) (h4 : VIn w hy b2 d2) (o1 : lo.Ok) (o2 : hi.Ok) (o3 : ly.Ok) (o4 : hy.Ok) (k : Int) (e1 : Pl.verCmp lo ly = k) (hk : ¬ k < 0) (m : Int) (e2 : Pl.verCmp hy hi = m) (hm : m < 0) (n : Int) (e3 : Pl.verCmp lo hy = n) (g : Bool) (e4 : decide (n < 0) = g) :
 Calls Tryz.prog 76 #[ivV ⟨lo, hi, false⟩ a b c d, ivV ⟨ly, hy, false⟩ a2 b2 c2 d2] w fun e w' => e = .returned (.tuple #[ivV ⟨lo, hy, false⟩ a b2 c d2, .bool g]) ∧ Below w.heap.size w w' := by
 have H := Hd h1
 have K := Hd h2
 have L := Hd h3
 have M := Hd h4
 have C1 := Hd (fun (W : World) (g1 : VIn W lo a c) (g2 : VIn W ly a2 c2) => VersionOrder_any lo ly a a2 c c2 W (VOk.of g1 o1) (VOk.of g2 o3))
 rw [e1] at C1
 have t1 := decF hk
 clear e1 hk
 have C2 := Hd (fun (W : World) (g1 : VIn W hy b2 d2) (g2 : VIn W hi b d) => VersionOrder_any hy hi b2 b d2 d W (VOk.of g1 o4) (VOk.of g2 o2))
 rw [e2] at C2
 have t2 := decT hm
 clear e2 hm
 have C3 := Hd (fun (W : World) (g1 : VIn W lo a c) (g2 : VIn W hy b2 d2) => VersionOrder_any lo hy a b2 c d2 W (VOk.of g1 o1) (VOk.of g2 o4))
 rw [e3] at C3
 clear e3
 clear h1 h2 h3 h4 o1 o2 o3 o4
 go_enter Tryz.func76, Tryz.ntmps76
 have B0 := brl w
 go_wp2_with fail
 refine (C1.out _ (H.out.bl (by go_grown)) (L.out.bl (by go_grown))).mono ?_
 rintro e w1 ⟨rfl, hb⟩
 have B1 := bcm w hb
 have q1 : w.heap.size + 4 ≤ w1.heap.size := qle hb
 replace H := Hd (((((H.out.al _).al _).al _).al _).bl hb)
 replace K := Hd (((((K.out.al _).al _).al _).al _).bl hb)
 replace L := Hd (((((L.out.al _).al _).al _).al _).bl hb)
 replace M := Hd (((((M.out.al _).al _).al _).al _).bl hb)
 have X := (((((bkn w.heap.size [.int .i64 lo.maj, .int .i64 lo.min, .int .i64 lo.pat, .slice a lo.pre.length c, .int .i64 hi.maj, .int .i64 hi.min, .int .i64 hi.pat, .slice b hi.pre.length d, .bool false] 101).alloc _).alloc _).alloc _)).bw hb
 have Y := ((((bkn (w.heap.size + 1) [.int .i64 ly.maj, .int .i64 ly.min, .int .i64 ly.pat, .slice a2 ly.pre.length c2, .int .i64 hy.maj, .int .i64 hy.min, .int .i64 hy.pat, .slice b2 hy.pre.length d2, .bool false] 101).alloc _).alloc _)).bw hb
 have R := (((bkn (w.heap.size + 1 + 1) [.int .i64 0, .int .i64 0, .int .i64 0, .slice none 0 0, .int .i64 0, .int .i64 0, .int .i64 0, .slice none 0 0, .bool false] 101).alloc _)).bw hb
 have O := ((bkn (w.heap.size + 1 + 1 + 1) [.int .i64 lo.maj, .int .i64 lo.min, .int .i64 lo.pat, .slice a lo.pre.length c, .int .i64 hi.maj, .int .i64 hi.min, .int .i64 hi.pat, .slice b hi.pre.length d, .bool false] 101)).bw hb
 clear hb
 have s1 := B1.size
 have ⟨Xc, Xf, Xl⟩ := X
 have ⟨Yc, Yf, Yl⟩ := Y
 have ⟨Rc, Rf, Rl⟩ := R
 have ⟨Oc, Of, Ol⟩ := O
 go_wp2_with fail
 refine (C2.out _ (M.out) (K.out)).mono ?_
 rintro e w2 ⟨rfl, hb⟩
 have B2 := bcm w hb
 have q2 : w1.heap.size ≤ w2.heap.size := qle hb
 replace H := Hd (H.out.bl hb)
 replace K := Hd (K.out.bl hb)
 replace L := Hd (L.out.bl hb)
 replace M := Hd (M.out.bl hb)
 replace X := X.bw hb
 replace Y := Y.bw hb
 replace R := R.bw hb
 replace O := O.bw hb
 clear hb
 have s2 := B2.size
 clear Xc Xf Xl Yc Yf Yl Rc Rf Rl Oc Of Ol
 have ⟨Xc, Xf, Xl⟩ := X
 have ⟨Yc, Yf, Yl⟩ := Y
 have ⟨Rc, Rf, Rl⟩ := R
 have ⟨Oc, Of, Ol⟩ := O
 go_wp2_with fail
 refine wp_region_ordD [(11, w.heap.size + 1 + 1)] [0, 1, 2, 3, 4, 5, 6, 7, 8, 9, 10, 11, 12] (by kernel_rfl) (by kernel_rfl) ?_
 replace H := Hd ((VIn.s5 4 (.int .i64 hy.maj) 5 (.int .i64 hy.min) 6 (.int .i64 hy.pat) 7 (.slice b2 hy.pre.length d2) 8 (.bool false) H.out O).bl (Below.refl _ _).drew)
 replace K := Hd ((VIn.s5 4 (.int .i64 hy.maj) 5 (.int .i64 hy.min) 6 (.int .i64 hy.pat) 7 (.slice b2 hy.pre.length d2) 8 (.bool false) K.out O).bl (Below.refl _ _).drew)
 replace L := Hd ((VIn.s5 4 (.int .i64 hy.maj) 5 (.int .i64 hy.min) 6 (.int .i64 hy.pat) 7 (.slice b2 hy.pre.length d2) 8 (.bool false) L.out O).bl (Below.refl _ _).drew)
 replace M := Hd ((VIn.s5 4 (.int .i64 hy.maj) 5 (.int .i64 hy.min) 6 (.int .i64 hy.pat) 7 (.slice b2 hy.pre.length d2) 8 (.bool false) M.out O).bl (Below.refl _ _).drew)
 replace X := (Bk.f5 (w.heap.size + 1 + 1 + 1) 4 (.int .i64 hy.maj) 5 (.int .i64 hy.min) 6 (.int .i64 hy.pat) 7 (.slice b2 hy.pre.length d2) 8 (.bool false) X).drew
 replace Y := (Bk.f5 (w.heap.size + 1 + 1 + 1) 4 (.int .i64 hy.maj) 5 (.int .i64 hy.min) 6 (.int .i64 hy.pat) 7 (.slice b2 hy.pre.length d2) 8 (.bool false) Y).drew
 replace R := (Bk.f5 (w.heap.size + 1 + 1 + 1) 4 (.int .i64 hy.maj) 5 (.int .i64 hy.min) 6 (.int .i64 hy.pat) 7 (.slice b2 hy.pre.length d2) 8 (.bool false) R).drew
 replace O := (((((O.st 4 (.int .i64 hy.maj)).st 5 (.int .i64 hy.min)).st 6 (.int .i64 hy.pat)).st 7 (.slice b2 hy.pre.length d2)).st 8 (.bool false)).drew
 clear Xc Xf Xl Yc Yf Yl Rc Rf Rl Oc Of Ol
 generalize hW : (((((w2.setCell ⟨w.heap.size + 1 + 1 + 1, 4, none⟩ (.int .i64 hy.maj)).setCell ⟨w.heap.size + 1 + 1 + 1, 5, none⟩ (.int .i64 hy.min)).setCell ⟨w.heap.size + 1 + 1 + 1, 6, none⟩ (.int .i64 hy.pat)).setCell ⟨w.heap.size + 1 + 1 + 1, 7, none⟩ (.slice b2 hy.pre.length d2)).setCell ⟨w.heap.size + 1 + 1 + 1, 8, none⟩ (.bool false)).drew = w3 at *
 have B3 : Below w.heap.size w w3 := by rw [← hW]; go_grown
 have q3 : w2.heap.size ≤ w3.heap.size := by rw [← hW]; go_size
 clear hW
 have s3 := B3.size
 have ⟨Xc, Xf, Xl⟩ := X
 have ⟨Yc, Yf, Yl⟩ := Y
 have ⟨Rc, Rf, Rl⟩ := R
 have ⟨Oc, Of, Ol⟩ := O
 repeat (first | (refine wpD_skip rfl rfl ?_; try simp only [pts]) | (refine wpD_pure rfl rfl ?_; go_big_quiet_step (fail); refine wpQuiet_nil ?_) | (refine wpD_rd [] (by kernel_rfl) rfl rfl ?_; go_big_quiet_step (fail); refine wpQuiet_nil ?_))
 try simp only [pts]
 refine wpD_call (f := 77) rfl rfl rfl (by simp [go_sem]; rfl) ?_
 refine (C3.out _ H.out M.out).mono ?_
 rintro e w4 ⟨rfl, hb⟩
 refine ⟨_, rfl, hb, ?_⟩
 skip
 have B4 := bcm w hb
 have q4 : w3.heap.size ≤ w4.heap.size := qle hb
 replace H := Hd (H.out.bl hb)
 replace K := Hd (K.out.bl hb)
 replace L := Hd (L.out.bl hb)
 replace M := Hd (M.out.bl hb)
 replace X := X.bw hb
 replace Y := Y.bw hb
 replace R := R.bw hb
 replace O := O.bw hb
 clear hb
 have s4 := B4.size
 clear Xc Xf Xl Yc Yf Yl Rc Rf Rl Oc Of Ol
 have ⟨Xc, Xf, Xl⟩ := X
 have ⟨Yc, Yf, Yl⟩ := Y
 have ⟨Rc, Rf, Rl⟩ := R
 have ⟨Oc, Of, Ol⟩ := O
 try simp only [pts]
 repeat (first | (refine wpD_skip rfl rfl ?_; try simp only [pts]) | (refine wpD_pure rfl rfl ?_; go_big_quiet_step (fail); refine wpQuiet_nil ?_) | (refine wpD_rd [] (by kernel_rfl) rfl rfl ?_; go_big_quiet_step (fail); refine wpQuiet_nil ?_))
 try simp only [pts]
 refine wpD_st rfl rfl rfl (w' := (((((((((w4.setCell ⟨w.heap.size + 1 + 1, 0, none⟩ (.int .i64 lo.maj)).setCell ⟨w.heap.size + 1 + 1, 1, none⟩ (.int .i64 lo.min)).setCell ⟨w.heap.size + 1 + 1, 2, none⟩ (.int .i64 lo.pat)).setCell ⟨w.heap.size + 1 + 1, 3, none⟩ (.slice a lo.pre.length c)).setCell ⟨w.heap.size + 1 + 1, 4, none⟩ (.int .i64 hy.maj)).setCell ⟨w.heap.size + 1 + 1, 5, none⟩ (.int .i64 hy.min)).setCell ⟨w.heap.size + 1 + 1, 6, none⟩ (.int .i64 hy.pat)).setCell ⟨w.heap.size + 1 + 1, 7, none⟩ (.slice b2 hy.pre.length d2)).setCell ⟨w.heap.size + 1 + 1, 8, none⟩ (.bool false))) (by simp [go_sem, Rc, Rf]) ((((((((((ExtD.refl _ _).s1).s1).s1).s1).s1).s1).s1).s1).s1) ?_
 try simp only [pts]
 repeat (first | (refine wpD_skip rfl rfl ?_; try simp only [pts]) | (refine wpD_pure rfl rfl ?_; go_big_quiet_step (fail); refine wpQuiet_nil ?_) | (refine wpD_rd [] (by kernel_rfl) rfl rfl ?_; go_big_quiet_step (fail); refine wpQuiet_nil ?_))
 try simp only [pts]
 have RN := (((((((((R.st 0 (.int .i64 lo.maj)).st 1 (.int .i64 lo.min)).st 2 (.int .i64 lo.pat)).st 3 (.slice a lo.pre.length c)).st 4 (.int .i64 hy.maj)).st 5 (.int .i64 hy.min)).st 6 (.int .i64 hy.pat)).st 7 (.slice b2 hy.pre.length d2)).st 8 (.bool false))
 obtain ⟨RNc, RNf, RNl⟩ := RN
 refine wpD_nil ?_
 try simp only [pts]
 go_wp2_with fail
 refine bodyPost_ret (v := .tuple #[.agg #[.int .i64 lo.maj, .int .i64 lo.min, .int .i64 lo.pat, .slice a lo.pre.length c, .int .i64 hy.maj, .int .i64 hy.min, .int .i64 hy.pat, .slice b2 hy.pre.length d2, .bool false], .bool g]) (by simp [results, Tryz.results76, go_sem, RNc]) rfl ⟨rfl, by go_grown⟩
set_option maxRecDepth 100000 in
set_option maxHeartbeats 4000000 in
theorem com_ge_f_f_ge (lo hi ly hy : Pl.Ver) (a b a2 b2 : Option Addr) (c d c2 d2 : Nat) (w : World) (h1 : VIn w lo a c) (h2 : VIn w hi b d) (h3 : VIn w ly a2 c2) (h4 : VIn w hy b2 d2) (o1 : lo.Ok) (o2 : hi.Ok) (o3 : ly.Ok) (o4 : hy.Ok) (k : Int) (e1 : Pl.verCmp lo ly = k) (hk : ¬ k < 0) (m : Int) (e2 : Pl.verCmp hy hi = m) (hm : ¬ m < 0) (n : Int) (e3 : Pl.verCmp lo hi = n) (g : Bool) (e4 : decide (n < 0) = g) :
 Calls Tryz.prog 76 #[ivV ⟨lo, hi, false⟩ a b c d, ivV ⟨ly, hy, false⟩ a2 b2 c2 d2] w fun e w' => e = .returned (.tuple #[ivV ⟨lo, hi, false⟩ a b c d, .bool g]) ∧ Below w.heap.size w w' := by
 have H := Hd h1
 have K := Hd h2
 have L := Hd h3
 have M := Hd h4
 have C1 := Hd (fun (W : World) (g1 : VIn W lo a c) (g2 : VIn W ly a2 c2) => VersionOrder_any lo ly a a2 c c2 W (VOk.of g1 o1) (VOk.of g2 o3))
 rw [e1] at C1
 have t1 := decF hk
 clear e1 hk
 have C2 := Hd (fun (W : World) (g1 : VIn W hy b2 d2) (g2 : VIn W hi b d) => VersionOrder_any hy hi b2 b d2 d W (VOk.of g1 o4) (VOk.of g2 o2))
 rw [e2] at C2
 have t2 := decF hm
 clear e2 hm
 have C3 := Hd (fun (W : World) (g1 : VIn W lo a c) (g2 : VIn W hi b d) => VersionOrder_any lo hi a b c d W (VOk.of g1 o1) (VOk.of g2 o2))
 rw [e3] at C3
 clear e3
 clear h1 h2 h3 h4 o1 o2 o3 o4
 go_enter Tryz.func76, Tryz.ntmps76
 have B0 := brl w
 go_wp2_with fail
 refine (C1.out _ (H.out.bl (by go_grown)) (L.out.bl (by go_grown))).mono ?_
 rintro e w1 ⟨rfl, hb⟩
 have B1 := bcm w hb
 have q1 : w.heap.size + 4 ≤ w1.heap.size := qle hb
 replace H := Hd (((((H.out.al _).al _).al _).al _).bl hb)
 replace K := Hd (((((K.out.al _).al _).al _).al _).bl hb)
 replace L := Hd (((((L.out.al _).al _).al _).al _).bl hb)
 replace M := Hd (((((M.out.al _).al _).al _).al _).bl hb)
 have X := (((((bkn w.heap.size [.int .i64 lo.maj, .int .i64 lo.min, .int .i64 lo.pat, .slice a lo.pre.length c, .int .i64 hi.maj, .int .i64 hi.min, .int .i64 hi.pat, .slice b hi.pre.length d, .bool false] 101).alloc _).alloc _).alloc _)).bw hb
 have Y := ((((bkn (w.heap.size + 1) [.int .i64 ly.maj, .int .i64 ly.min, .int .i64 ly.pat, .slice a2 ly.pre.length c2, .int .i64 hy.maj, .int .i64 hy.min, .int .i64 hy.pat, .slice b2 hy.pre.length d2, .bool false] 101).alloc _).alloc _)).bw hb
 have R := (((bkn (w.heap.size + 1 + 1) [.int .i64 0, .int .i64 0, .int .i64 0, .slice none 0 0, .int .i64 0, .int .i64 0, .int .i64 0, .slice none 0 0, .bool false] 101).alloc _)).bw hb
 have O := ((bkn (w.heap.size + 1 + 1 + 1) [.int .i64 lo.maj, .int .i64 lo.min, .int .i64 lo.pat, .slice a lo.pre.length c, .int .i64 hi.maj, .int .i64 hi.min, .int .i64 hi.pat, .slice b hi.pre.length d, .bool false] 101)).bw hb
 clear hb
 have s1 := B1.size
 have ⟨Xc, Xf, Xl⟩ := X
 have ⟨Yc, Yf, Yl⟩ := Y
 have ⟨Rc, Rf, Rl⟩ := R
 have ⟨Oc, Of, Ol⟩ := O
 go_wp2_with fail
 refine (C2.out _ (M.out) (K.out)).mono ?_
 rintro e w2 ⟨rfl, hb⟩
 have B2 := bcm w hb
 have q2 : w1.heap.size ≤ w2.heap.size := qle hb
 replace H := Hd (H.out.bl hb)
 replace K := Hd (K.out.bl hb)
 replace L := Hd (L.out.bl hb)
 replace M := Hd (M.out.bl hb)
 replace X := X.bw hb
 replace Y := Y.bw hb
 replace R := R.bw hb
 replace O := O.bw hb
 clear hb
 have s2 := B2.size
 clear Xc Xf Xl Yc Yf Yl Rc Rf Rl Oc Of Ol
 have ⟨Xc, Xf, Xl⟩ := X
 have ⟨Yc, Yf, Yl⟩ := Y
 have ⟨Rc, Rf, Rl⟩ := R
 have ⟨Oc, Of, Ol⟩ := O
 go_wp2_with fail
 refine wp_region_ordD [(11, w.heap.size + 1 + 1)] [0, 1, 2, 3, 4, 5, 6, 7, 8, 9, 10, 11, 12] (by kernel_rfl) (by kernel_rfl) ?_
 have B3 : Below w.heap.size w w2.drew := by go_grown
 have q3 : w2.heap.size ≤ w2.drew.heap.size := by simp only [World.size_drew]; omega
 replace H := Hd (H.out.bl (Below.refl _ _).drew)
 replace K := Hd (K.out.bl (Below.refl _ _).drew)
 replace L := Hd (L.out.bl (Below.refl _ _).drew)
 replace M := Hd (M.out.bl (Below.refl _ _).drew)
 replace X := X.drew
 replace Y := Y.drew
 replace R := R.drew
 replace O := O.drew
 clear Xc Xf Xl Yc Yf Yl Rc Rf Rl Oc Of Ol
 generalize w2.drew = w3 at *
 have s3 := B3.size
 have ⟨Xc, Xf, Xl⟩ := X
 have ⟨Yc, Yf, Yl⟩ := Y
 have ⟨Rc, Rf, Rl⟩ := R
 have ⟨Oc, Of, Ol⟩ := O
 repeat (first | (refine wpD_skip rfl rfl ?_; try simp only [pts]) | (refine wpD_pure rfl rfl ?_; go_big_quiet_step (fail); refine wpQuiet_nil ?_) | (refine wpD_rd [] (by kernel_rfl) rfl rfl ?_; go_big_quiet_step (fail); refine wpQuiet_nil ?_))
 try simp only [pts]
 refine wpD_call (f := 77) rfl rfl rfl (by simp [go_sem]; rfl) ?_
 refine (C3.out _ H.out K.out).mono ?_
 rintro e w4 ⟨rfl, hb⟩
 refine ⟨_, rfl, hb, ?_⟩
 skip
 have B4 := bcm w hb
 have q4 : w3.heap.size ≤ w4.heap.size := qle hb
 replace H := Hd (H.out.bl hb)
 replace K := Hd (K.out.bl hb)
 replace L := Hd (L.out.bl hb)
 replace M := Hd (M.out.bl hb)
 replace X := X.bw hb
 replace Y := Y.bw hb
 replace R := R.bw hb
 replace O := O.bw hb
 clear hb
 have s4 := B4.size
 clear Xc Xf Xl Yc Yf Yl Rc Rf Rl Oc Of Ol
 have ⟨Xc, Xf, Xl⟩ := X
 have ⟨Yc, Yf, Yl⟩ := Y
 have ⟨Rc, Rf, Rl⟩ := R
 have ⟨Oc, Of, Ol⟩ := O
 try simp only [pts]
 repeat (first | (refine wpD_skip rfl rfl ?_; try simp only [pts]) | (refine wpD_pure rfl rfl ?_; go_big_quiet_step (fail); refine wpQuiet_nil ?_) | (refine wpD_rd [] (by kernel_rfl) rfl rfl ?_; go_big_quiet_step (fail); refine wpQuiet_nil ?_))
 try simp only [pts]
 refine wpD_st rfl rfl rfl (w' := (((((((((w4.setCell ⟨w.heap.size + 1 + 1, 0, none⟩ (.int .i64 lo.maj)).setCell ⟨w.heap.size + 1 + 1, 1, none⟩ (.int .i64 lo.min)).setCell ⟨w.heap.size + 1 + 1, 2, none⟩ (.int .i64 lo.pat)).setCell ⟨w.heap.size + 1 + 1, 3, none⟩ (.slice a lo.pre.length c)).setCell ⟨w.heap.size + 1 + 1, 4, none⟩ (.int .i64 hi.maj)).setCell ⟨w.heap.size + 1 + 1, 5, none⟩ (.int .i64 hi.min)).setCell ⟨w.heap.size + 1 + 1, 6, none⟩ (.int .i64 hi.pat)).setCell ⟨w.heap.size + 1 + 1, 7, none⟩ (.slice b hi.pre.length d)).setCell ⟨w.heap.size + 1 + 1, 8, none⟩ (.bool false))) (by simp [go_sem, Rc, Rf]) ((((((((((ExtD.refl _ _).s1).s1).s1).s1).s1).s1).s1).s1).s1) ?_
 try simp only [pts]
 repeat (first | (refine wpD_skip rfl rfl ?_; try simp only [pts]) | (refine wpD_pure rfl rfl ?_; go_big_quiet_step (fail); refine wpQuiet_nil ?_) | (refine wpD_rd [] (by kernel_rfl) rfl rfl ?_; go_big_quiet_step (fail); refine wpQuiet_nil ?_))
 try simp only [pts]
 have RN := (((((((((R.st 0 (.int .i64 lo.maj)).st 1 (.int .i64 lo.min)).st 2 (.int .i64 lo.pat)).st 3 (.slice a lo.pre.length c)).st 4 (.int .i64 hi.maj)).st 5 (.int .i64 hi.min)).st 6 (.int .i64 hi.pat)).st 7 (.slice b hi.pre.length d)).st 8 (.bool false))
 obtain ⟨RNc, RNf, RNl⟩ := RN
 refine wpD_nil ?_
 try simp only [pts]
 go_wp2_with fail
 refine bodyPost_ret (v := .tuple #[.agg #[.int .i64 lo.maj, .int .i64 lo.min, .int .i64 lo.pat, .slice a lo.pre.length c, .int .i64 hi.maj, .int .i64 hi.min, .int .i64 hi.pat, .slice b hi.pre.length d, .bool false], .bool g]) (by simp [results, Tryz.results76, go_sem, RNc]) rfl ⟨rfl, by go_grown⟩
theorem common_any (Q : Nat → Prop) (x y : Pl.Ivl) (a b a2 b2 : Option Addr) (c d c2 d2 : Nat) (w : World) (h1 : VIn w x.lo a c) (h2 : VIn w x.hi b d) (h3 : VIn w y.lo a2 c2) (h4 : VIn w y.hi b2 d2) (ox : x.Ok) (oy : y.Ok)
 (q1 : SlQ Q a x.lo.pre.length) (q2 : SlQ Q b x.hi.pre.length) (q3 : SlQ Q a2 y.lo.pre.length) (q4 : SlQ Q b2 y.hi.pre.length) :
 Calls Tryz.prog 76 #[ivV x a b c d, ivV y a2 b2 c2 d2] w fun e w' => ∃ A B C D, e = .returned (.tuple #[ivV (Pl.comI x y) A B C D, .bool (Pl.comOk x y)]) ∧ VIn w (Pl.comI x y).lo A C ∧ VIn w (Pl.comI x y).hi B D ∧ SlQ Q A (Pl.comI x y).lo.pre.length ∧ SlQ Q B (Pl.comI x y).hi.pre.length ∧ Below w.heap.size w w' := by
 have o1 := ox.lo
 have o2 := ox.hi
 have o3 := oy.lo
 have o4 := oy.hi
 clear ox oy
 obtain ⟨lo, hi, ux⟩ := x
 obtain ⟨ly, hy, uy⟩ := y
 by_cases hk : Pl.verCmp lo ly < 0
 · cases ux with
   | true =>
     cases uy with
     | true =>
       have E : Pl.comI ⟨lo, hi, true⟩ ⟨ly, hy, true⟩ = ⟨ly, hy, true⟩ := by simp [Pl.comI, Pl.comHi, hk]
       have F : Pl.comOk ⟨lo, hi, true⟩ ⟨ly, hy, true⟩ = true := by unfold Pl.comOk; rw [E]; simp
       rw [E, F]
       exact (com_lt_t_t lo hi ly hy a b a2 b2 c d c2 d2 w h1 h2 h3 h4 o1 o2 o3 o4 _ rfl hk).mono fun e w2 ⟨e1, hb⟩ => ⟨a2, b2, c2, d2, e1, h3, h4, q3, q4, hb⟩
     | false =>
       have E : Pl.comI ⟨lo, hi, true⟩ ⟨ly, hy, false⟩ = ⟨ly, hy, false⟩ := by simp [Pl.comI, Pl.comHi, hk]
       have F : Pl.comOk ⟨lo, hi, true⟩ ⟨ly, hy, false⟩ = decide (Pl.verCmp ly hy < 0) := by unfold Pl.comOk; rw [E]; simp
       rw [E, F]
       exact (com_lt_t_f lo hi ly hy a b a2 b2 c d c2 d2 w h1 h2 h3 h4 o1 o2 o3 o4 _ rfl hk _ rfl _ rfl).mono fun e w2 ⟨e1, hb⟩ => ⟨a2, b2, c2, d2, e1, h3, h4, q3, q4, hb⟩
   | false =>
     cases uy with
     | true =>
       have E : Pl.comI ⟨lo, hi, false⟩ ⟨ly, hy, true⟩ = ⟨ly, hi, false⟩ := by simp [Pl.comI, Pl.comHi, hk]
       have F : Pl.comOk ⟨lo, hi, false⟩ ⟨ly, hy, true⟩ = decide (Pl.verCmp ly hi < 0) := by unfold Pl.comOk; rw [E]; simp
       rw [E, F]
       exact (com_lt_f_t lo hi ly hy a b a2 b2 c d c2 d2 w h1 h2 h3 h4 o1 o2 o3 o4 _ rfl hk _ rfl _ rfl).mono fun e w2 ⟨e1, hb⟩ => ⟨a2, b, c2, d, e1, h3, h2, q3, q2, hb⟩
     | false =>
       by_cases hm : Pl.verCmp hy hi < 0
       · have E : Pl.comI ⟨lo, hi, false⟩ ⟨ly, hy, false⟩ = ⟨ly, hy, false⟩ := by simp [Pl.comI, Pl.comHi, hk, hm]
         have F : Pl.comOk ⟨lo, hi, false⟩ ⟨ly, hy, false⟩ = decide (Pl.verCmp ly hy < 0) := by unfold Pl.comOk; rw [E]; simp
         rw [E, F]
         exact (com_lt_f_f_lt lo hi ly hy a b a2 b2 c d c2 d2 w h1 h2 h3 h4 o1 o2 o3 o4 _ rfl hk _ rfl hm _ rfl _ rfl).mono fun e w2 ⟨e1, hb⟩ => ⟨a2, b2, c2, d2, e1, h3, h4, q3, q4, hb⟩
       · have E : Pl.comI ⟨lo, hi, false⟩ ⟨ly, hy, false⟩ = ⟨ly, hi, false⟩ := by simp [Pl.comI, Pl.comHi, hk, hm]
         have F : Pl.comOk ⟨lo, hi, false⟩ ⟨ly, hy, false⟩ = decide (Pl.verCmp ly hi < 0) := by unfold Pl.comOk; rw [E]; simp
         rw [E, F]
         exact (com_lt_f_f_ge lo hi ly hy a b a2 b2 c d c2 d2 w h1 h2 h3 h4 o1 o2 o3 o4 _ rfl hk _ rfl hm _ rfl _ rfl).mono fun e w2 ⟨e1, hb⟩ => ⟨a2, b, c2, d, e1, h3, h2, q3, q2, hb⟩
 · cases ux with
   | true =>
     cases uy with
     | true =>
       have E : Pl.comI ⟨lo, hi, true⟩ ⟨ly, hy, true⟩ = ⟨lo, hy, true⟩ := by simp [Pl.comI, Pl.comHi, hk]
       have F : Pl.comOk ⟨lo, hi, true⟩ ⟨ly, hy, true⟩ = true := by unfold Pl.comOk; rw [E]; simp
       rw [E, F]
       exact (com_ge_t_t lo hi ly hy a b a2 b2 c d c2 d2 w h1 h2 h3 h4 o1 o2 o3 o4 _ rfl hk).mono fun e w2 ⟨e1, hb⟩ => ⟨a, b2, c, d2, e1, h1, h4, q1, q4, hb⟩
     | false =>
       have E : Pl.comI ⟨lo, hi, true⟩ ⟨ly, hy, false⟩ = ⟨lo, hy, false⟩ := by simp [Pl.comI, Pl.comHi, hk]
       have F : Pl.comOk ⟨lo, hi, true⟩ ⟨ly, hy, false⟩ = decide (Pl.verCmp lo hy < 0) := by unfold Pl.comOk; rw [E]; simp
       rw [E, F]
       exact (com_ge_t_f lo hi ly hy a b a2 b2 c d c2 d2 w h1 h2 h3 h4 o1 o2 o3 o4 _ rfl hk _ rfl _ rfl).mono fun e w2 ⟨e1, hb⟩ => ⟨a, b2, c, d2, e1, h1, h4, q1, q4, hb⟩
   | false =>
     cases uy with
     | true =>
       have E : Pl.comI ⟨lo, hi, false⟩ ⟨ly, hy, true⟩ = ⟨lo, hi, false⟩ := by simp [Pl.comI, Pl.comHi, hk]
       have F : Pl.comOk ⟨lo, hi, false⟩ ⟨ly, hy, true⟩ = decide (Pl.verCmp lo hi < 0) := by unfold Pl.comOk; rw [E]; simp
       rw [E, F]
       exact (com_ge_f_t lo hi ly hy a b a2 b2 c d c2 d2 w h1 h2 h3 h4 o1 o2 o3 o4 _ rfl hk _ rfl _ rfl).mono fun e w2 ⟨e1, hb⟩ => ⟨a, b, c, d, e1, h1, h2, q1, q2, hb⟩
     | false =>
       by_cases hm : Pl.verCmp hy hi < 0
       · have E : Pl.comI ⟨lo, hi, false⟩ ⟨ly, hy, false⟩ = ⟨lo, hy, false⟩ := by simp [Pl.comI, Pl.comHi, hk, hm]
         have F : Pl.comOk ⟨lo, hi, false⟩ ⟨ly, hy, false⟩ = decide (Pl.verCmp lo hy < 0) := by unfold Pl.comOk; rw [E]; simp
         rw [E, F]
         exact (com_ge_f_f_lt lo hi ly hy a b a2 b2 c d c2 d2 w h1 h2 h3 h4 o1 o2 o3 o4 _ rfl hk _ rfl hm _ rfl _ rfl).mono fun e w2 ⟨e1, hb⟩ => ⟨a, b2, c, d2, e1, h1, h4, q1, q4, hb⟩
       · have E : Pl.comI ⟨lo, hi, false⟩ ⟨ly, hy, false⟩ = ⟨lo, hi, false⟩ := by simp [Pl.comI, Pl.comHi, hk, hm]
         have F : Pl.comOk ⟨lo, hi, false⟩ ⟨ly, hy, false⟩ = decide (Pl.verCmp lo hi < 0) := by unfold Pl.comOk; rw [E]; simp
         rw [E, F]
         exact (com_ge_f_f_ge lo hi ly hy a b a2 b2 c d c2 d2 w h1 h2 h3 h4 o1 o2 o3 o4 _ rfl hk _ rfl hm _ rfl _ rfl).mono fun e w2 ⟨e1, hb⟩ => ⟨a, b, c, d, e1, h1, h2, q1, q2, hb⟩
end Go.Proofs.YtolfgcoalihmgaaGreatDoor
