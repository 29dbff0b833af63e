/- Contracts: intersections; unions, intersections and complements with their faults, by the program. -/
import Derived.Test.YtolfgcoalihmgaaGreatDoorZDj
import Derived.Test.YtolfgcoalihmgaaGreatDoorZMOq
namespace Go.Proofs.YtolfgcoalihmgaaGreatDoor
open Go.RowKit
namespace Pl
theorem invAt_len : ∀ (r : List Ivl) (low : Ver), (invAt low r).length ≤ r.length + 1
 | [], _ => by simp [invAt]
 | x :: r, low => by
   rw [invAt, List.length_append]
   have := invAt_len r x.hi
   by_cases h1 : verCmp low x.lo < 0 <;> by_cases h2 : x.un = true <;> simp [h1, h2] <;> omega
theorem invR_len (r : List Ivl) : (invR r).length ≤ r.length + 1 := invAt_len r lowV
theorem addL_len (o : List Ivl) (x : Ivl) : (addL o x).length ≤ o.length + 1 := by
 rcases List.eq_nil_or_concat o with rfl | ⟨q, l, e⟩
 · simp [addL]
 · rw [List.concat_eq_append] at e
   subst e
   rw [addL_snoc]
   repeat' split
   all_goals simp
theorem fold_len : ∀ (s o : List Ivl), (s.foldl addL o).length ≤ o.length + s.length
 | [], o => by simp
 | x :: s, o => by
   have h1 := fold_len s (addL o x)
   have h2 := addL_len o x
   rw [List.foldl_cons, List.length_cons]
   omega
theorem insI_len (x : Ivl) : ∀ r : List Ivl, (insI x r).length = r.length + 1
 | [] => rfl
 | y :: r => by rw [insI]; split <;> simp [insI_len x r]
theorem withR_len (r : List Ivl) (x : Ivl) : (withR r x).length ≤ r.length + 1 := by
 have := fold_len (insI x r) []
 rw [insI_len] at this
 unfold withR
 simpa using this
theorem unionR_len : ∀ (b a : List Ivl), (unionR a b).length ≤ a.length + b.length
 | [], a => by simp [unionR]
 | x :: b, a => by
   have h1 := unionR_len b (withR a x)
   have h2 := withR_len a x
   rw [show unionR a (x :: b) = unionR (withR a x) b from rfl, List.length_cons]
   omega
def opF (P : Int × Int) (r : List Ivl) : Int × Int := if P.1 ≠ 0 then P else limF r
def opV (P : Int × Int) (r : List Ivl) : List Ivl := if P.1 ≠ 0 then [] else limR r
theorem op_bad {P : Int × Int} {r : List Ivl} (h : P.1 ≠ 0) : opF P r = P ∧ opV P r = [] := by unfold opF opV; rw [if_pos h, if_pos h]; exact ⟨rfl, rfl⟩
theorem op_ok {r : List Ivl} : opF (0, 0) r = limF r ∧ opV (0, 0) r = limR r := by unfold opF opV; rw [if_neg (by simp), if_neg (by simp)]; exact ⟨rfl, rfl⟩
end Pl
set_option maxRecDepth 100000 in
set_option maxHeartbeats 4000000 in
theorem meet_any (r t : List Pl.Ivl) (a b : Option Addr) (c d : Nat) (w : World) (h1 : RIn w r a c) (h2 : RIn w t b d) (can1 : Pl.Can r) (can2 : Pl.Can t) (hn1 : r.length ≤ 400000) (hn2 : t.length ≤ 400000) :
 Calls Tryz.prog 63 #[.agg #[.slice a r.length c], .agg #[.slice b t.length d]] w (RRng (Pl.commonR r t) w) := by
 have H := Hd h1
 have K := Hd h2
 have C1 := Hd can1
 have C2 := Hd can2
 have I1 := Hd (Pl.invR_can can1).1
 have I2 := Hd (Pl.invR_can can2).1
 have U := Hd (Pl.unionR_can (Pl.invR_can can1).1 (Pl.invR_can can2).1.ok).1
 have E := Hd (Pl.meet_is can1 can2)
 have n1 := Pl.invR_len r
 have n2 := Pl.invR_len t
 have n3 := Pl.unionR_len (Pl.invR t) (Pl.invR r)
 clear h1 h2 can1 can2
 go_enter Tryz.func63, Tryz.ntmps63
 have B0 := brl w
 go_wp2_with fail
 refine wp_region_ord [0, 2, 1, 3, 4, 5, 6] (by kernel_rfl) (by kernel_rfl) ?_
 have B1 : Below w.heap.size w (((w.alloc (.cells #[.slice a r.length c] 33)).alloc (.cells #[.slice b t.length d] 33)).alloc (.cells #[.slice none 0 0] 33)).drew := by go_grown
 have q1 : w.heap.size + 3 ≤ (((w.alloc (.cells #[.slice a r.length c] 33)).alloc (.cells #[.slice b t.length d] 33)).alloc (.cells #[.slice none 0 0] 33)).drew.heap.size := by simp only [World.size_alloc, World.size_drew]; omega
 replace H := Hd ((((H.out.al (.cells #[.slice a r.length c] 33)).al (.cells #[.slice b t.length d] 33)).al (.cells #[.slice none 0 0] 33)).bl (Below.refl _ _).drew)
 replace K := Hd ((((K.out.al (.cells #[.slice a r.length c] 33)).al (.cells #[.slice b t.length d] 33)).al (.cells #[.slice none 0 0] 33)).bl (Below.refl _ _).drew)
 have X := (((Bk.new (r := w.heap.size) (cs := [.slice a r.length c]) w 33 (by simp)).alloc (.cells #[.slice b t.length d] 33)).alloc (.cells #[.slice none 0 0] 33)).drew
 have Y := ((Bk.new (r := w.heap.size + 1) (cs := [.slice b t.length d]) (w.alloc (.cells #[.slice a r.length c] 33)) 33 (by simp)).alloc (.cells #[.slice none 0 0] 33)).drew
 have R := (Bk.new (r := w.heap.size + 1 + 1) (cs := [.slice none 0 0]) ((w.alloc (.cells #[.slice a r.length c] 33)).alloc (.cells #[.slice b t.length d] 33)) 33 (by simp)).drew
 generalize (((w.alloc (.cells #[.slice a r.length c] 33)).alloc (.cells #[.slice b t.length d] 33)).alloc (.cells #[.slice none 0 0] 33)).drew = w1 at *
 have s1 := B1.size
 have ⟨Xc, Xf, Xl⟩ := X
 have ⟨Yc, Yf, Yl⟩ := Y
 have ⟨Rc, Rf, Rl⟩ := R
 repeat (refine wpI_rd rfl rfl ?_; go_big_quiet_step (fail); refine wpQuiet_nil ?_)
 try simp only [pts]
 refine wpI_call (f := 74) (args := #[.agg #[.slice a r.length c]]) rfl rfl rfl (by simp [go_sem]) ?_
 refine (invert_any r a c _ H.out C1.out (by omega)).mono ?_
 rintro e w2 ⟨o1, k1, rfl, A1, hb⟩
 replace A1 := Hd A1
 refine ⟨_, rfl, hb, ?_⟩
 skip
 have B2 := bcm w hb
 have q2 : w1.heap.size ≤ w2.heap.size := qle hb
 replace H := Hd (H.out.bl hb)
 replace K := Hd (K.out.bl hb)
 replace X := X.bw hb
 replace Y := Y.bw hb
 replace R := R.bw hb
 clear hb
 have s2 := B2.size
 clear Xc Xf Xl Yc Yf Yl Rc Rf Rl
 have ⟨Xc, Xf, Xl⟩ := X
 have ⟨Yc, Yf, Yl⟩ := Y
 have ⟨Rc, Rf, Rl⟩ := R
 try simp only [pts]
 repeat (refine wpI_rd rfl rfl ?_; go_big_quiet_step (fail); refine wpQuiet_nil ?_)
 try simp only [pts]
 refine wpI_call (f := 74) (args := #[.agg #[.slice b t.length d]]) rfl rfl rfl (by simp [go_sem]) ?_
 refine (invert_any t b d _ K.out C2.out (by omega)).mono ?_
 rintro e w3 ⟨o2, k2, rfl, A2, hb⟩
 replace A2 := Hd A2
 refine ⟨_, rfl, hb, ?_⟩
 skip
 have B3 := bcm w hb
 have q3 : w2.heap.size ≤ w3.heap.size := qle hb
 replace H := Hd (H.out.bl hb)
 replace K := Hd (K.out.bl hb)
 replace A1 := Hd (A1.out.bl hb)
 replace X := X.bw hb
 replace Y := Y.bw hb
 replace R := R.bw hb
 clear hb
 have s3 := B3.size
 clear Xc Xf Xl Yc Yf Yl Rc Rf Rl
 have ⟨Xc, Xf, Xl⟩ := X
 have ⟨Yc, Yf, Yl⟩ := Y
 have ⟨Rc, Rf, Rl⟩ := R
 try simp only [pts]
 repeat (refine wpI_rd rfl rfl ?_; go_big_quiet_step (fail); refine wpQuiet_nil ?_)
 try simp only [pts]
 refine wpI_call (f := 64) (args := #[.agg #[.slice o1 (Pl.invR r).length k1], .agg #[.slice o2 (Pl.invR t).length k2]]) rfl rfl rfl (by simp [go_sem]) ?_
 refine (join_any (Pl.invR r) (Pl.invR t) o1 o2 k1 k2 _ A1.out A2.out I1.out I2.out (by omega) (by omega)).mono ?_
 rintro e w4 ⟨o3, k3, rfl, A3, hb⟩
 replace A3 := Hd A3
 refine ⟨_, rfl, hb, ?_⟩
 skip
 have B4 := bcm w hb
 have q4 : w3.heap.size ≤ w4.heap.size := qle hb
 replace H := Hd (H.out.bl hb)
 replace K := Hd (K.out.bl hb)
 replace A1 := Hd (A1.out.bl hb)
 replace A2 := Hd (A2.out.bl hb)
 replace X := X.bw hb
 replace Y := Y.bw hb
 replace R := R.bw hb
 clear hb
 have s4 := B4.size
 clear Xc Xf Xl Yc Yf Yl Rc Rf Rl
 have ⟨Xc, Xf, Xl⟩ := X
 have ⟨Yc, Yf, Yl⟩ := Y
 have ⟨Rc, Rf, Rl⟩ := R
 try simp only [pts]
 repeat (refine wpI_rd rfl rfl ?_; go_big_quiet_step (fail); refine wpQuiet_nil ?_)
 try simp only [pts]
 refine wpI_call (f := 74) (args := #[.agg #[.slice o3 (Pl.unionR (Pl.invR r) (Pl.invR t)).length k3]]) rfl rfl rfl (by simp [go_sem]) ?_
 refine (invert_any _ o3 k3 _ A3.out U.out (by omega)).mono ?_
 rintro e w5 ⟨o4, k4, rfl, A4, hb⟩
 rw [E.out] at A4 ⊢
 replace A4 := Hd A4
 refine ⟨_, rfl, hb, ?_⟩
 skip
 have B5 := bcm w hb
 have q5 : w4.heap.size ≤ w5.heap.size := qle hb
 replace A3 := Hd (A3.out.bl hb)
 replace X := X.bw hb
 replace Y := Y.bw hb
 replace R := R.bw hb
 clear hb
 have s5 := B5.size
 clear Xc Xf Xl Yc Yf Yl Rc Rf Rl
 have ⟨Xc, Xf, Xl⟩ := X
 have ⟨Yc, Yf, Yl⟩ := Y
 have ⟨Rc, Rf, Rl⟩ := R
 try simp only [pts]
 refine wpI_st rfl rfl rfl (w' := w5.setCell ⟨w.heap.size + 1 + 1, 0, none⟩ (.slice o4 (Pl.commonR r t).length k4)) (by simp [go_sem, Rc, Rf]) ?_
 try simp only [Act.put]
 refine wpI_nil ?_
 try simp only [pts]
 go_wp2_with fail
 have RN := R.st 0 (.slice o4 (Pl.commonR r t).length k4)
 obtain ⟨RNc, RNf, RNl⟩ := RN
 refine bodyPost_ret (v := .agg #[.slice o4 (Pl.commonR r t).length k4]) (by simp [results, Tryz.results63, go_sem, RNc]) rfl ⟨o4, k4, rfl, A4.out.setBk R (by simp) (j := 0) rfl (by nofun) _, by go_grown⟩
set_option maxHeartbeats 4000000 in
theorem union_bad (r t : List Pl.Ivl) (a b : Option Addr) (c d : Nat) (w : World) (h1 : RIn w r a c) (h2 : RIn w t b d) (f1 f2 : Int) (hf : f1 ≠ 0) (e1 : Pl.pairF r t = (f1, f2)) :
 Calls Tryz.prog 22 #[.agg #[.slice a r.length c], .agg #[.slice b t.length d]] w (RRngF (Pl.opV (Pl.pairF r t) (Pl.unionR r t)) (Pl.opF (Pl.pairF r t) (Pl.unionR r t)) w) := by
 have E := Pl.op_bad (P := Pl.pairF r t) (r := Pl.unionR r t) (by rw [e1]; exact hf)
 rw [E.1, E.2, e1]
 have CB := Hd (fun (W : World) (g1 : RIn W r a c) (g2 : RIn W t b d) => both_any r t a b c d W g1 g2)
 rw [e1] at CB
 simp only [fltV] at CB
 have H := Hd h1
 have K := Hd h2
 have u1 := bneT hf
 have u2 := beqF hf
 clear h1 h2 E e1 hf
 go_enter Tryz.func22, Tryz.ntmps22
 have B0 := brl w
 go_wp2_with fail
 refine (CB.out _ (H.out.bl (by go_grown)) (K.out.bl (by go_grown))).mono ?_
 rintro e w1 ⟨rfl, hb⟩
 have B1 := bcm w hb
 have q1 : w.heap.size + 4 ≤ w1.heap.size := qle hb
 replace H := Hd (((((H.out.al _).al _).al _).al _).bl hb)
 replace K := Hd (((((K.out.al _).al _).al _).al _).bl hb)
 have X := (((((bkn w.heap.size [.slice a r.length c] 33).alloc _).alloc _).alloc _)).bw hb
 have Y := ((((bkn (w.heap.size + 1) [.slice b t.length d] 33).alloc _).alloc _)).bw hb
 have R := (((bkn (w.heap.size + 1 + 1) [.slice none 0 0] 33).alloc _)).bw hb
 have F := ((bkn (w.heap.size + 1 + 1 + 1) [.int .i64 0, .int .i64 0] 27)).bw hb
 clear hb
 have s1 := B1.size
 have ⟨Xc, Xf, Xl⟩ := X
 have ⟨Yc, Yf, Yl⟩ := Y
 have ⟨Rc, Rf, Rl⟩ := R
 have ⟨Fc, Ff, Fl⟩ := F
 go_wp2_with fail
 refine wp_region_ordD [(2, w.heap.size + 1 + 1), (3, w.heap.size + 1 + 1 + 1)] [0, 1, 2, 3] (by kernel_rfl) (by kernel_rfl) ?_
 have B2 : Below w.heap.size w (w1.alloc (.cells #[.int .i64 f1, .int .i64 f2] 27)).drew := by go_grown
 have q2 : w1.heap.size + 1 ≤ (w1.alloc (.cells #[.int .i64 f1, .int .i64 f2] 27)).drew.heap.size := by simp only [World.size_alloc, World.size_drew]; omega
 replace H := Hd ((H.out.al (.cells #[.int .i64 f1, .int .i64 f2] 27)).bl (Below.refl _ _).drew)
 replace K := Hd ((K.out.al (.cells #[.int .i64 f1, .int .i64 f2] 27)).bl (Below.refl _ _).drew)
 replace X := (X.alloc (.cells #[.int .i64 f1, .int .i64 f2] 27)).drew
 replace Y := (Y.alloc (.cells #[.int .i64 f1, .int .i64 f2] 27)).drew
 replace R := (R.alloc (.cells #[.int .i64 f1, .int .i64 f2] 27)).drew
 replace F := (F.alloc (.cells #[.int .i64 f1, .int .i64 f2] 27)).drew
 have T := (Bk.new (r := w1.heap.size) (cs := [.int .i64 f1, .int .i64 f2]) w1 27 (by simp)).drew
 clear Xc Xf Xl Yc Yf Yl Rc Rf Rl Fc Ff Fl
 generalize (w1.alloc (.cells #[.int .i64 f1, .int .i64 f2] 27)).drew = w2 at *
 have s2 := B2.size
 have ⟨Xc, Xf, Xl⟩ := X
 have ⟨Yc, Yf, Yl⟩ := Y
 have ⟨Rc, Rf, Rl⟩ := R
 have ⟨Fc, Ff, Fl⟩ := F
 have ⟨Tc, Tf, Tl⟩ := T
 have nz : w1.heap.size ≠ w.heap.size + 1 + 1 := by omega
 repeat (refine wpD_pure rfl rfl ?_; go_big_quiet_step (fail); refine wpQuiet_nil ?_)
 refine wpD_rd [w.heap.size + 1 + 1] (by kernel_rfl) rfl rfl ?_; go_big_quiet_step (fail); refine wpQuiet_nil ?_
 try simp only [pts]
 refine wpD_st rfl rfl rfl (w' := w2.setCell ⟨w.heap.size + 1 + 1, 0, none⟩ (.slice none 0 0)) (by simp [go_sem, Rc, Rf]) ((ExtD.refl _ _).s1) ?_
 try simp only [Act.put]
 have F2 := F.fr (w.heap.size + 1 + 1) 0 (by omega) (.slice none 0 0)
 have ⟨F2c, F2f, _⟩ := F2
 refine wpD_st rfl rfl rfl (w' := ((w2.setCell ⟨w.heap.size + 1 + 1, 0, none⟩ (.slice none 0 0)).setCell ⟨w.heap.size + 1 + 1 + 1, 0, none⟩ (.int .i64 f1)).setCell ⟨w.heap.size + 1 + 1 + 1, 1, none⟩ (.int .i64 f2)) (by simp [go_sem, F2c, F2f]) (((ExtD.refl _ _).s1).s1) ?_
 refine wpD_nil ?_
 try simp only [Act.put]
 go_wp2_with fail
 have FN := (F2.st 0 (.int .i64 f1)).st 1 (.int .i64 f2)
 have RN := ((R.st 0 (.slice none 0 0)).fr (w.heap.size + 1 + 1 + 1) 0 (by omega) (.int .i64 f1)).fr (w.heap.size + 1 + 1 + 1) 1 (by omega) (.int .i64 f2)
 obtain ⟨FNc, FNf, FNl⟩ := FN
 obtain ⟨RNc, RNf, RNl⟩ := RN
 refine bodyPost_ret (v := .tuple #[.agg #[.slice none 0 0], .agg #[.int .i64 f1, .int .i64 f2]]) (by simp [results, Tryz.results22, go_sem, RNc, FNc]) rfl ⟨none, 0, rfl, RIn.nil _, by go_grown⟩
set_option maxHeartbeats 4000000 in
theorem union_ok (r t : List Pl.Ivl) (a b : Option Addr) (c d : Nat) (w : World) (h1 : RIn w r a c) (h2 : RIn w t b d) (can1 : Pl.Can r) (can2 : Pl.Can t) (hn1 : r.length ≤ 12) (hn2 : t.length ≤ 12) (e1 : Pl.pairF r t = (0, 0)) :
 Calls Tryz.prog 22 #[.agg #[.slice a r.length c], .agg #[.slice b t.length d]] w (RRngF (Pl.opV (Pl.pairF r t) (Pl.unionR r t)) (Pl.opF (Pl.pairF r t) (Pl.unionR r t)) w) := by
 have E := Pl.op_ok (r := Pl.unionR r t)
 rw [e1, E.1, E.2]
 have CB := Hd (fun (W : World) (g1 : RIn W r a c) (g2 : RIn W t b d) => both_any r t a b c d W g1 g2)
 rw [e1] at CB
 simp only [fltV] at CB
 have H := Hd h1
 have K := Hd h2
 have CJ := Hd (fun (W : World) (g1 : RIn W r a c) (g2 : RIn W t b d) => join_any r t a b c d W g1 g2 can1 can2 (by omega) (by omega))
 obtain ⟨V, hV⟩ : ∃ V, Pl.unionR r t = V := ⟨_, rfl⟩
 rw [hV] at CJ ⊢
 have CL := Hd (fun (W : World) (o : Option Addr) (k : Nat) (g1 : RIn W V o k) => limited_any V o k W g1)
 obtain ⟨L, hL⟩ : ∃ L, Pl.limR V = L := ⟨_, rfl⟩
 obtain ⟨Q, hQ⟩ : ∃ Q, Pl.limF V = Q := ⟨_, rfl⟩
 rw [hL, hQ] at CL ⊢
 obtain ⟨y1, y2⟩ := Q
 delta RRngF at CL
 simp only [fltV] at CL
 clear hL hQ
 clear h1 h2 E e1 can1 can2 hV
 go_enter Tryz.func22, Tryz.ntmps22
 have B0 := brl w
 go_wp2_with fail
 refine (CB.out _ (H.out.bl (by go_grown)) (K.out.bl (by go_grown))).mono ?_
 rintro e w1 ⟨rfl, hb⟩
 have B1 := bcm w hb
 have q1 : w.heap.size + 4 ≤ w1.heap.size := qle hb
 replace H := Hd (((((H.out.al _).al _).al _).al _).bl hb)
 replace K := Hd (((((K.out.al _).al _).al _).al _).bl hb)
 have X := (((((bkn w.heap.size [.slice a r.length c] 33).alloc _).alloc _).alloc _)).bw hb
 have Y := ((((bkn (w.heap.size + 1) [.slice b t.length d] 33).alloc _).alloc _)).bw hb
 have R := (((bkn (w.heap.size + 1 + 1) [.slice none 0 0] 33).alloc _)).bw hb
 have F := ((bkn (w.heap.size + 1 + 1 + 1) [.int .i64 0, .int .i64 0] 27)).bw hb
 clear hb
 have s1 := B1.size
 have ⟨Xc, Xf, Xl⟩ := X
 have ⟨Yc, Yf, Yl⟩ := Y
 have ⟨Rc, Rf, Rl⟩ := R
 have ⟨Fc, Ff, Fl⟩ := F
 go_wp2_with fail
 refine (CJ.out _ (H.out.bl (by go_grown)) (K.out.bl (by go_grown))).mono ?_
 rintro e w2 ⟨o3, k3, rfl, A3, hb⟩
 replace A3 := Hd A3
 have B2 := bcm w hb
 have q2 : w1.heap.size + 1 ≤ w2.heap.size := qle hb
 replace H := Hd ((H.out.al _).bl hb)
 replace K := Hd ((K.out.al _).bl hb)
 replace X := ((X.alloc _)).bw hb
 replace Y := ((Y.alloc _)).bw hb
 replace R := ((R.alloc _)).bw hb
 replace F := ((F.alloc _)).bw hb
 clear hb
 have s2 := B2.size
 clear Xc Xf Xl Yc Yf Yl Rc Rf Rl Fc Ff Fl
 have ⟨Xc, Xf, Xl⟩ := X
 have ⟨Yc, Yf, Yl⟩ := Y
 have ⟨Rc, Rf, Rl⟩ := R
 have ⟨Fc, Ff, Fl⟩ := F
 go_wp2_with fail
 refine (CL.out _ o3 k3 A3.out).mono ?_
 rintro e w3 ⟨o4, k4, rfl, A4, hb⟩
 replace A4 := Hd A4
 have B3 := bcm w hb
 have q3 : w2.heap.size ≤ w3.heap.size := qle hb
 replace A3 := Hd (A3.out.bl hb)
 replace X := X.bw hb
 replace Y := Y.bw hb
 replace R := R.bw hb
 replace F := F.bw hb
 clear hb
 have s3 := B3.size
 clear Xc Xf Xl Yc Yf Yl Rc Rf Rl Fc Ff Fl
 have ⟨Xc, Xf, Xl⟩ := X
 have ⟨Yc, Yf, Yl⟩ := Y
 have ⟨Rc, Rf, Rl⟩ := R
 have ⟨Fc, Ff, Fl⟩ := F
 go_wp2_with fail
 have RN := ((R.st 0 (.slice o4 L.length k4)).fr (w.heap.size + 1 + 1 + 1) 0 (by omega) (.int .i64 y1)).fr (w.heap.size + 1 + 1 + 1) 1 (by omega) (.int .i64 y2)
 have F1 := F.fr (w.heap.size + 1 + 1) 0 (by omega) (.slice o4 L.length k4)
 have FN := (F1.st 0 (.int .i64 y1)).st 1 (.int .i64 y2)
 obtain ⟨RNc, RNf, RNl⟩ := RN
 obtain ⟨FNc, FNf, FNl⟩ := FN
 refine bodyPost_ret (v := .tuple #[.agg #[.slice o4 L.length k4], .agg #[.int .i64 y1, .int .i64 y2]]) (by simp [results, Tryz.results22, go_sem, RNc, FNc]) rfl ⟨o4, k4, rfl, ((A4.out.setBk R (by simp) (j := 0) rfl (by nofun) _).setBk F1 (by simp) (j := 0) rfl (by nofun) _).setBk (F1.st 0 (.int .i64 y1)) (by simp) (j := 1) rfl (by nofun) _, by go_grown⟩
theorem union_any (r t : List Pl.Ivl) (a b : Option Addr) (c d : Nat) (w : World) (h1 : RIn w r a c) (h2 : RIn w t b d) :
 Calls Tryz.prog 22 #[.agg #[.slice a r.length c], .agg #[.slice b t.length d]] w (RRngF (Pl.opV (Pl.pairF r t) (Pl.unionR r t)) (Pl.opF (Pl.pairF r t) (Pl.unionR r t)) w) := by
 by_cases f1 : (Pl.rngF r).1 = 0
 · by_cases f2 : (Pl.rngF t).1 = 0
   · exact union_ok r t a b c d w h1 h2 (Pl.rng_ok f1).2 (Pl.rng_ok f2).2 (Pl.rng_ok f1).1 (Pl.rng_ok f2).1 (Pl.pairF_ok f1 f2)
   · exact union_bad r t a b c d w h1 h2 _ _ f2 (Pl.pairF_b f1 f2)
 · exact union_bad r t a b c d w h1 h2 _ _ f1 (Pl.pairF_a f1)
set_option maxHeartbeats 4000000 in
theorem inter_bad (r t : List Pl.Ivl) (a b : Option Addr) (c d : Nat) (w : World) (h1 : RIn w r a c) (h2 : RIn w t b d) (f1 f2 : Int) (hf : f1 ≠ 0) (e1 : Pl.pairF r t = (f1, f2)) :
 Calls Tryz.prog 23 #[.agg #[.slice a r.length c], .agg #[.slice b t.length d]] w (RRngF (Pl.opV (Pl.pairF r t) (Pl.commonR r t)) (Pl.opF (Pl.pairF r t) (Pl.commonR r t)) w) := by
 have E := Pl.op_bad (P := Pl.pairF r t) (r := Pl.commonR r t) (by rw [e1]; exact hf)
 rw [E.1, E.2, e1]
 have CB := Hd (fun (W : World) (g1 : RIn W r a c) (g2 : RIn W t b d) => both_any r t a b c d W g1 g2)
 rw [e1] at CB
 simp only [fltV] at CB
 have H := Hd h1
 have K := Hd h2
 have u1 := bneT hf
 have u2 := beqF hf
 clear h1 h2 E e1 hf
 go_enter Tryz.func23, Tryz.ntmps23
 have B0 := brl w
 go_wp2_with fail
 refine (CB.out _ (H.out.bl (by go_grown)) (K.out.bl (by go_grown))).mono ?_
 rintro e w1 ⟨rfl, hb⟩
 have B1 := bcm w hb
 have q1 : w.heap.size + 4 ≤ w1.heap.size := qle hb
 replace H := Hd (((((H.out.al _).al _).al _).al _).bl hb)
 replace K := Hd (((((K.out.al _).al _).al _).al _).bl hb)
 have X := (((((bkn w.heap.size [.slice a r.length c] 33).alloc _).alloc _).alloc _)).bw hb
 have Y := ((((bkn (w.heap.size + 1) [.slice b t.length d] 33).alloc _).alloc _)).bw hb
 have R := (((bkn (w.heap.size + 1 + 1) [.slice none 0 0] 33).alloc _)).bw hb
 have F := ((bkn (w.heap.size + 1 + 1 + 1) [.int .i64 0, .int .i64 0] 27)).bw hb
 clear hb
 have s1 := B1.size
 have ⟨Xc, Xf, Xl⟩ := X
 have ⟨Yc, Yf, Yl⟩ := Y
 have ⟨Rc, Rf, Rl⟩ := R
 have ⟨Fc, Ff, Fl⟩ := F
 go_wp2_with fail
 refine wp_region_ordD [(2, w.heap.size + 1 + 1), (3, w.heap.size + 1 + 1 + 1)] [0, 1, 2, 3] (by kernel_rfl) (by kernel_rfl) ?_
 have B2 : Below w.heap.size w (w1.alloc (.cells #[.int .i64 f1, .int .i64 f2] 27)).drew := by go_grown
 have q2 : w1.heap.size + 1 ≤ (w1.alloc (.cells #[.int .i64 f1, .int .i64 f2] 27)).drew.heap.size := by simp only [World.size_alloc, World.size_drew]; omega
 replace H := Hd ((H.out.al (.cells #[.int .i64 f1, .int .i64 f2] 27)).bl (Below.refl _ _).drew)
 replace K := Hd ((K.out.al (.cells #[.int .i64 f1, .int .i64 f2] 27)).bl (Below.refl _ _).drew)
 replace X := (X.alloc (.cells #[.int .i64 f1, .int .i64 f2] 27)).drew
 replace Y := (Y.alloc (.cells #[.int .i64 f1, .int .i64 f2] 27)).drew
 replace R := (R.alloc (.cells #[.int .i64 f1, .int .i64 f2] 27)).drew
 replace F := (F.alloc (.cells #[.int .i64 f1, .int .i64 f2] 27)).drew
 have T := (Bk.new (r := w1.heap.size) (cs := [.int .i64 f1, .int .i64 f2]) w1 27 (by simp)).drew
 clear Xc Xf Xl Yc Yf Yl Rc Rf Rl Fc Ff Fl
 generalize (w1.alloc (.cells #[.int .i64 f1, .int .i64 f2] 27)).drew = w2 at *
 have s2 := B2.size
 have ⟨Xc, Xf, Xl⟩ := X
 have ⟨Yc, Yf, Yl⟩ := Y
 have ⟨Rc, Rf, Rl⟩ := R
 have ⟨Fc, Ff, Fl⟩ := F
 have ⟨Tc, Tf, Tl⟩ := T
 have nz : w1.heap.size ≠ w.heap.size + 1 + 1 := by omega
 repeat (refine wpD_pure rfl rfl ?_; go_big_quiet_step (fail); refine wpQuiet_nil ?_)
 refine wpD_rd [w.heap.size + 1 + 1] (by kernel_rfl) rfl rfl ?_; go_big_quiet_step (fail); refine wpQuiet_nil ?_
 try simp only [pts]
 refine wpD_st rfl rfl rfl (w' := w2.setCell ⟨w.heap.size + 1 + 1, 0, none⟩ (.slice none 0 0)) (by simp [go_sem, Rc, Rf]) ((ExtD.refl _ _).s1) ?_
 try simp only [Act.put]
 have F2 := F.fr (w.heap.size + 1 + 1) 0 (by omega) (.slice none 0 0)
 have ⟨F2c, F2f, _⟩ := F2
 refine wpD_st rfl rfl rfl (w' := ((w2.setCell ⟨w.heap.size + 1 + 1, 0, none⟩ (.slice none 0 0)).setCell ⟨w.heap.size + 1 + 1 + 1, 0, none⟩ (.int .i64 f1)).setCell ⟨w.heap.size + 1 + 1 + 1, 1, none⟩ (.int .i64 f2)) (by simp [go_sem, F2c, F2f]) (((ExtD.refl _ _).s1).s1) ?_
 refine wpD_nil ?_
 try simp only [Act.put]
 go_wp2_with fail
 have FN := (F2.st 0 (.int .i64 f1)).st 1 (.int .i64 f2)
 have RN := ((R.st 0 (.slice none 0 0)).fr (w.heap.size + 1 + 1 + 1) 0 (by omega) (.int .i64 f1)).fr (w.heap.size + 1 + 1 + 1) 1 (by omega) (.int .i64 f2)
 obtain ⟨FNc, FNf, FNl⟩ := FN
 obtain ⟨RNc, RNf, RNl⟩ := RN
 refine bodyPost_ret (v := .tuple #[.agg #[.slice none 0 0], .agg #[.int .i64 f1, .int .i64 f2]]) (by simp [results, Tryz.results23, go_sem, RNc, FNc]) rfl ⟨none, 0, rfl, RIn.nil _, by go_grown⟩
set_option maxHeartbeats 4000000 in
theorem inter_ok (r t : List Pl.Ivl) (a b : Option Addr) (c d : Nat) (w : World) (h1 : RIn w r a c) (h2 : RIn w t b d) (can1 : Pl.Can r) (can2 : Pl.Can t) (hn1 : r.length ≤ 12) (hn2 : t.length ≤ 12) (e1 : Pl.pairF r t = (0, 0)) :
 Calls Tryz.prog 23 #[.agg #[.slice a r.length c], .agg #[.slice b t.length d]] w (RRngF (Pl.opV (Pl.pairF r t) (Pl.commonR r t)) (Pl.opF (Pl.pairF r t) (Pl.commonR r t)) w) := by
 have E := Pl.op_ok (r := Pl.commonR r t)
 rw [e1, E.1, E.2]
 have CB := Hd (fun (W : World) (g1 : RIn W r a c) (g2 : RIn W t b d) => both_any r t a b c d W g1 g2)
 rw [e1] at CB
 simp only [fltV] at CB
 have H := Hd h1
 have K := Hd h2
 have CJ := Hd (fun (W : World) (g1 : RIn W r a c) (g2 : RIn W t b d) => meet_any r t a b c d W g1 g2 can1 can2 (by omega) (by omega))
 obtain ⟨V, hV⟩ : ∃ V, Pl.commonR r t = V := ⟨_, rfl⟩
 rw [hV] at CJ ⊢
 have CL := Hd (fun (W : World) (o : Option Addr) (k : Nat) (g1 : RIn W V o k) => limited_any V o k W g1)
 obtain ⟨L, hL⟩ : ∃ L, Pl.limR V = L := ⟨_, rfl⟩
 obtain ⟨Q, hQ⟩ : ∃ Q, Pl.limF V = Q := ⟨_, rfl⟩
 rw [hL, hQ] at CL ⊢
 obtain ⟨y1, y2⟩ := Q
 delta RRngF at CL
 simp only [fltV] at CL
 clear hL hQ
 clear h1 h2 E e1 can1 can2 hV
 go_enter Tryz.func23, Tryz.ntmps23
 have B0 := brl w
 go_wp2_with fail
 refine (CB.out _ (H.out.bl (by go_grown)) (K.out.bl (by go_grown))).mono ?_
 rintro e w1 ⟨rfl, hb⟩
 have B1 := bcm w hb
 have q1 : w.heap.size + 4 ≤ w1.heap.size := qle hb
 replace H := Hd (((((H.out.al _).al _).al _).al _).bl hb)
 replace K := Hd (((((K.out.al _).al _).al _).al _).bl hb)
 have X := (((((bkn w.heap.size [.slice a r.length c] 33).alloc _).alloc _).alloc _)).bw hb
 have Y := ((((bkn (w.heap.size + 1) [.slice b t.length d] 33).alloc _).alloc _)).bw hb
 have R := (((bkn (w.heap.size + 1 + 1) [.slice none 0 0] 33).alloc _)).bw hb
 have F := ((bkn (w.heap.size + 1 + 1 + 1) [.int .i64 0, .int .i64 0] 27)).bw hb
 clear hb
 have s1 := B1.size
 have ⟨Xc, Xf, Xl⟩ := X
 have ⟨Yc, Yf, Yl⟩ := Y
 have ⟨Rc, Rf, Rl⟩ := R
 have ⟨Fc, Ff, Fl⟩ := F
 go_wp2_with fail
 refine (CJ.out _ (H.out.bl (by go_grown)) (K.out.bl (by go_grown))).mono ?_
 rintro e w2 ⟨o3, k3, rfl, A3, hb⟩
 replace A3 := Hd A3
 have B2 := bcm w hb
 have q2 : w1.heap.size + 1 ≤ w2.heap.size := qle hb
 replace H := Hd ((H.out.al _).bl hb)
 replace K := Hd ((K.out.al _).bl hb)
 replace X := ((X.alloc _)).bw hb
 replace Y := ((Y.alloc _)).bw hb
 replace R := ((R.alloc _)).bw hb
 replace F := ((F.alloc _)).bw hb
 clear hb
 have s2 := B2.size
 clear Xc Xf Xl Yc Yf Yl Rc Rf Rl Fc Ff Fl
 have ⟨Xc, Xf, Xl⟩ := X
 have ⟨Yc, Yf, Yl⟩ := Y
 have ⟨Rc, Rf, Rl⟩ := R
 have ⟨Fc, Ff, Fl⟩ := F
 go_wp2_with fail
 refine (CL.out _ o3 k3 A3.out).mono ?_
 rintro e w3 ⟨o4, k4, rfl, A4, hb⟩
 replace A4 := Hd A4
 have B3 := bcm w hb
 have q3 : w2.heap.size ≤ w3.heap.size := qle hb
 replace A3 := Hd (A3.out.bl hb)
 replace X := X.bw hb
 replace Y := Y.bw hb
 replace R := R.bw hb
 replace F := F.bw hb
 clear hb
 have s3 := B3.size
 clear Xc Xf Xl Yc Yf Yl Rc Rf Rl Fc Ff Fl
 have ⟨Xc, Xf, Xl⟩ := X
 have ⟨Yc, Yf, Yl⟩ := Y
 have ⟨Rc, Rf, Rl⟩ := R
 have ⟨Fc, Ff, Fl⟩ := F
 go_wp2_with fail
 have RN := ((R.st 0 (.slice o4 L.length k4)).fr (w.heap.size + 1 + 1 + 1) 0 (by omega) (.int .i64 y1)).fr (w.heap.size + 1 + 1 + 1) 1 (by omega) (.int .i64 y2)
 have F1 := F.fr (w.heap.size + 1 + 1) 0 (by omega) (.slice o4 L.length k4)
 have FN := (F1.st 0 (.int .i64 y1)).st 1 (.int .i64 y2)
 obtain ⟨RNc, RNf, RNl⟩ := RN
 obtain ⟨FNc, FNf, FNl⟩ := FN
 refine bodyPost_ret (v := .tuple #[.agg #[.slice o4 L.length k4], .agg #[.int .i64 y1, .int .i64 y2]]) (by simp [results, Tryz.results23, go_sem, RNc, FNc]) rfl ⟨o4, k4, rfl, ((A4.out.setBk R (by simp) (j := 0) rfl (by nofun) _).setBk F1 (by simp) (j := 0) rfl (by nofun) _).setBk (F1.st 0 (.int .i64 y1)) (by simp) (j := 1) rfl (by nofun) _, by go_grown⟩
theorem inter_any (r t : List Pl.Ivl) (a b : Option Addr) (c d : Nat) (w : World) (h1 : RIn w r a c) (h2 : RIn w t b d) :
 Calls Tryz.prog 23 #[.agg #[.slice a r.length c], .agg #[.slice b t.length d]] w (RRngF (Pl.opV (Pl.pairF r t) (Pl.commonR r t)) (Pl.opF (Pl.pairF r t) (Pl.commonR r t)) w) := by
 by_cases f1 : (Pl.rngF r).1 = 0
 · by_cases f2 : (Pl.rngF t).1 = 0
   · exact inter_ok r t a b c d w h1 h2 (Pl.rng_ok f1).2 (Pl.rng_ok f2).2 (Pl.rng_ok f1).1 (Pl.rng_ok f2).1 (Pl.pairF_ok f1 f2)
   · exact inter_bad r t a b c d w h1 h2 _ _ f2 (Pl.pairF_b f1 f2)
 · exact inter_bad r t a b c d w h1 h2 _ _ f1 (Pl.pairF_a f1)
set_option maxHeartbeats 4000000 in
theorem compl_bad (r : List Pl.Ivl) (a : Option Addr) (c : Nat) (w : World) (h1 : RIn w r a c) (f1 f2 : Int) (hf : f1 ≠ 0) (e1 : Pl.rngF r = (f1, f2)) :
 Calls Tryz.prog 24 #[.agg #[.slice a r.length c]] w (RRngF (Pl.opV (Pl.rngF r) (Pl.invR r)) (Pl.opF (Pl.rngF r) (Pl.invR r)) w) := by
 have E := Pl.op_bad (P := Pl.rngF r) (r := Pl.invR r) (by rw [e1]; exact hf)
 rw [E.1, E.2, e1]
 have CB := Hd (fun (W : World) (g1 : RIn W r a c) => rngValidate_any r a c W g1)
 rw [e1] at CB
 simp only [fltV] at CB
 have H := Hd h1
 have u1 := bneT hf
 have u2 := beqF hf
 clear h1 E e1 hf
 go_enter Tryz.func24, Tryz.ntmps24
 have B0 := brl w
 go_wp2_with fail
 refine (CB.out _ (H.out.bl (by go_grown))).mono ?_
 rintro e w1 ⟨rfl, hb⟩
 have B1 := bcm w hb
 have q1 : w.heap.size + 3 ≤ w1.heap.size := qle hb
 replace H := Hd ((((H.out.al _).al _).al _).bl hb)
 have X := ((((bkn w.heap.size [.slice a r.length c] 33).alloc _).alloc _)).bw hb
 have R := (((bkn (w.heap.size + 1) [.slice none 0 0] 33).alloc _)).bw hb
 have F := ((bkn (w.heap.size + 1 + 1) [.int .i64 0, .int .i64 0] 27)).bw hb
 clear hb
 have s1 := B1.size
 have ⟨Xc, Xf, Xl⟩ := X
 have ⟨Rc, Rf, Rl⟩ := R
 have ⟨Fc, Ff, Fl⟩ := F
 go_wp2_with fail
 refine wp_region_ordD [(2, w.heap.size + 1), (3, w.heap.size + 1 + 1)] [0, 1, 2, 3] (by kernel_rfl) (by kernel_rfl) ?_
 have B2 : Below w.heap.size w (w1.alloc (.cells #[.int .i64 f1, .int .i64 f2] 27)).drew := by go_grown
 have q2 : w1.heap.size + 1 ≤ (w1.alloc (.cells #[.int .i64 f1, .int .i64 f2] 27)).drew.heap.size := by simp only [World.size_alloc, World.size_drew]; omega
 replace H := Hd ((H.out.al (.cells #[.int .i64 f1, .int .i64 f2] 27)).bl (Below.refl _ _).drew)
 replace X := (X.alloc (.cells #[.int .i64 f1, .int .i64 f2] 27)).drew
 replace R := (R.alloc (.cells #[.int .i64 f1, .int .i64 f2] 27)).drew
 replace F := (F.alloc (.cells #[.int .i64 f1, .int .i64 f2] 27)).drew
 have T := (Bk.new (r := w1.heap.size) (cs := [.int .i64 f1, .int .i64 f2]) w1 27 (by simp)).drew
 clear Xc Xf Xl Rc Rf Rl Fc Ff Fl
 generalize (w1.alloc (.cells #[.int .i64 f1, .int .i64 f2] 27)).drew = w2 at *
 have s2 := B2.size
 have ⟨Xc, Xf, Xl⟩ := X
 have ⟨Rc, Rf, Rl⟩ := R
 have ⟨Fc, Ff, Fl⟩ := F
 have ⟨Tc, Tf, Tl⟩ := T
 have nz : w1.heap.size ≠ w.heap.size + 1 := by omega
 repeat (refine wpD_pure rfl rfl ?_; go_big_quiet_step (fail); refine wpQuiet_nil ?_)
 refine wpD_rd [w.heap.size + 1] (by kernel_rfl) rfl rfl ?_; go_big_quiet_step (fail); refine wpQuiet_nil ?_
 try simp only [pts]
 refine wpD_st rfl rfl rfl (w' := w2.setCell ⟨w.heap.size + 1, 0, none⟩ (.slice none 0 0)) (by simp [go_sem, Rc, Rf]) ((ExtD.refl _ _).s1) ?_
 try simp only [Act.put]
 have F2 := F.fr (w.heap.size + 1) 0 (by omega) (.slice none 0 0)
 have ⟨F2c, F2f, _⟩ := F2
 refine wpD_st rfl rfl rfl (w' := ((w2.setCell ⟨w.heap.size + 1, 0, none⟩ (.slice none 0 0)).setCell ⟨w.heap.size + 1 + 1, 0, none⟩ (.int .i64 f1)).setCell ⟨w.heap.size + 1 + 1, 1, none⟩ (.int .i64 f2)) (by simp [go_sem, F2c, F2f]) (((ExtD.refl _ _).s1).s1) ?_
 refine wpD_nil ?_
 try simp only [Act.put]
 go_wp2_with fail
 have FN := (F2.st 0 (.int .i64 f1)).st 1 (.int .i64 f2)
 have RN := ((R.st 0 (.slice none 0 0)).fr (w.heap.size + 1 + 1) 0 (by omega) (.int .i64 f1)).fr (w.heap.size + 1 + 1) 1 (by omega) (.int .i64 f2)
 obtain ⟨FNc, FNf, FNl⟩ := FN
 obtain ⟨RNc, RNf, RNl⟩ := RN
 refine bodyPost_ret (v := .tuple #[.agg #[.slice none 0 0], .agg #[.int .i64 f1, .int .i64 f2]]) (by simp [results, Tryz.results24, go_sem, RNc, FNc]) rfl ⟨none, 0, rfl, RIn.nil _, by go_grown⟩
set_option maxHeartbeats 4000000 in
theorem compl_ok (r : List Pl.Ivl) (a : Option Addr) (c : Nat) (w : World) (h1 : RIn w r a c) (can1 : Pl.Can r) (hn1 : r.length ≤ 12) (e1 : Pl.rngF r = (0, 0)) :
 Calls Tryz.prog 24 #[.agg #[.slice a r.length c]] w (RRngF (Pl.opV (Pl.rngF r) (Pl.invR r)) (Pl.opF (Pl.rngF r) (Pl.invR r)) w) := by
 have E := Pl.op_ok (r := Pl.invR r)
 rw [e1, E.1, E.2]
 have CB := Hd (fun (W : World) (g1 : RIn W r a c) => rngValidate_any r a c W g1)
 rw [e1] at CB
 simp only [fltV] at CB
 have H := Hd h1
 have CJ := Hd (fun (W : World) (g1 : RIn W r a c) => invert_any r a c W g1 can1 (by omega))
 obtain ⟨V, hV⟩ : ∃ V, Pl.invR r = V := ⟨_, rfl⟩
 rw [hV] at CJ ⊢
 have CL := Hd (fun (W : World) (o : Option Addr) (k : Nat) (g1 : RIn W V o k) => limited_any V o k W g1)
 obtain ⟨L, hL⟩ : ∃ L, Pl.limR V = L := ⟨_, rfl⟩
 obtain ⟨Q, hQ⟩ : ∃ Q, Pl.limF V = Q := ⟨_, rfl⟩
 rw [hL, hQ] at CL ⊢
 obtain ⟨y1, y2⟩ := Q
 delta RRngF at CL
 simp only [fltV] at CL
 clear hL hQ
 clear h1 E e1 can1 hV
 go_enter Tryz.func24, Tryz.ntmps24
 have B0 := brl w
 go_wp2_with fail
 refine (CB.out _ (H.out.bl (by go_grown))).mono ?_
 rintro e w1 ⟨rfl, hb⟩
 have B1 := bcm w hb
 have q1 : w.heap.size + 3 ≤ w1.heap.size := qle hb
 replace H := Hd ((((H.out.al _).al _).al _).bl hb)
 have X := ((((bkn w.heap.size [.slice a r.length c] 33).alloc _).alloc _)).bw hb
 have R := (((bkn (w.heap.size + 1) [.slice none 0 0] 33).alloc _)).bw hb
 have F := ((bkn (w.heap.size + 1 + 1) [.int .i64 0, .int .i64 0] 27)).bw hb
 clear hb
 have s1 := B1.size
 have ⟨Xc, Xf, Xl⟩ := X
 have ⟨Rc, Rf, Rl⟩ := R
 have ⟨Fc, Ff, Fl⟩ := F
 go_wp2_with fail
 refine (CJ.out _ (H.out.bl (by go_grown))).mono ?_
 rintro e w2 ⟨o3, k3, rfl, A3, hb⟩
 replace A3 := Hd A3
 have B2 := bcm w hb
 have q2 : w1.heap.size + 1 ≤ w2.heap.size := qle hb
 replace H := Hd ((H.out.al _).bl hb)
 replace X := ((X.alloc _)).bw hb
 replace R := ((R.alloc _)).bw hb
 replace F := ((F.alloc _)).bw hb
 clear hb
 have s2 := B2.size
 clear Xc Xf Xl Rc Rf Rl Fc Ff Fl
 have ⟨Xc, Xf, Xl⟩ := X
 have ⟨Rc, Rf, Rl⟩ := R
 have ⟨Fc, Ff, Fl⟩ := F
 go_wp2_with fail
 refine (CL.out _ o3 k3 A3.out).mono ?_
 rintro e w3 ⟨o4, k4, rfl, A4, hb⟩
 replace A4 := Hd A4
 have B3 := bcm w hb
 have q3 : w2.heap.size ≤ w3.heap.size := qle hb
 replace A3 := Hd (A3.out.bl hb)
 replace X := X.bw hb
 replace R := R.bw hb
 replace F := F.bw hb
 clear hb
 have s3 := B3.size
 clear Xc Xf Xl Rc Rf Rl Fc Ff Fl
 have ⟨Xc, Xf, Xl⟩ := X
 have ⟨Rc, Rf, Rl⟩ := R
 have ⟨Fc, Ff, Fl⟩ := F
 go_wp2_with fail
 have RN := ((R.st 0 (.slice o4 L.length k4)).fr (w.heap.size + 1 + 1) 0 (by omega) (.int .i64 y1)).fr (w.heap.size + 1 + 1) 1 (by omega) (.int .i64 y2)
 have F1 := F.fr (w.heap.size + 1) 0 (by omega) (.slice o4 L.length k4)
 have FN := (F1.st 0 (.int .i64 y1)).st 1 (.int .i64 y2)
 obtain ⟨RNc, RNf, RNl⟩ := RN
 obtain ⟨FNc, FNf, FNl⟩ := FN
 refine bodyPost_ret (v := .tuple #[.agg #[.slice o4 L.length k4], .agg #[.int .i64 y1, .int .i64 y2]]) (by simp [results, Tryz.results24, go_sem, RNc, FNc]) rfl ⟨o4, k4, rfl, ((A4.out.setBk R (by simp) (j := 0) rfl (by nofun) _).setBk F1 (by simp) (j := 0) rfl (by nofun) _).setBk (F1.st 0 (.int .i64 y1)) (by simp) (j := 1) rfl (by nofun) _, by go_grown⟩
theorem compl_any (r : List Pl.Ivl) (a : Option Addr) (c : Nat) (w : World) (h1 : RIn w r a c) :
 Calls Tryz.prog 24 #[.agg #[.slice a r.length c]] w (RRngF (Pl.opV (Pl.rngF r) (Pl.invR r)) (Pl.opF (Pl.rngF r) (Pl.invR r)) w) := by
 by_cases f1 : (Pl.rngF r).1 = 0
 · exact compl_ok r a c w h1 (Pl.rng_ok f1).2 (Pl.rng_ok f1).1 (Pl.rng_zero f1)
 · exact compl_bad r a c w h1 _ _ f1 rfl
end Go.Proofs.YtolfgcoalihmgaaGreatDoor
