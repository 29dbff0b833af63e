/- The law SolverSolveMatchesSpec: what it computes is true. -/
import Derived.Test.YtolfgcoalihmgaaGreatDoorZOv
import Derived.Test.YtolfgcoalihmgaaGreatDoorZNj
namespace Go.Proofs.YtolfgcoalihmgaaGreatDoor
open Go.RowKit
set_option maxRecDepth 100000 in
set_option maxHeartbeats 4000000 in
theorem slvL_a (RG : RangesHold) (u : Pl.Uni) (ws : List Pl.Need) (a b : Option Addr) (c d : Nat) (w : World) (h1 : UIn w u a c) (h2 : NsIn w ws b d) (E : Env w) (f1 f2 : Int) (hf : f1 ≠ 0) (e1 : Pl.wantsF u ws = (f1, f2)) :
 Calls Tryz.prog 7 #[.agg #[.slice a u.length c], .slice b ws.length d] w fun e w' => e = .returned (.bool true) ∧ Below w.heap.size w w' := by
 have u1 := bneT hf
 have u2 := beqF hf
 have CW := Hd (fun (W : World) (g1 : UIn W u a c) (g2 : NsIn W ws b d) => rWants_any u ws a b c d W g1 g2)
 have CS := Hd (fun (W : World) (g1 : UIn W u a c) (g2 : NsIn W ws b d) => Solve_any u ws a b c d W g1 g2)
 rw [show Pl.slvR u ws = none by unfold Pl.slvR; rw [e1, if_pos hf], e1] at CS
 rw [e1] at CW
 simp only [fltV] at CW
 clear e1 hf
 have HS := Hd (fun (W : World) (E : Env W) => solves_any RG W E)
 have H := Hd h1
 have K := Hd h2
 have HE := Hd E
 clear h1 h2 E RG
 go_enter Tryz.func7, Tryz.ntmps7
 have B0 := brl w
 go_wp2_with fail
 refine (HS.out _ (HE.out.bl (by go_grown))).mono ?_
 rintro e w1 ⟨rfl, hb⟩
 have B1 := bcm w hb
 have q1 : w.heap.size + 1 ≤ w1.heap.size := qle hb
 replace H := Hd ((H.out.al _).bl hb)
 replace K := Hd ((K.out.al _).bl hb)
 have X := ((bkn w.heap.size [.slice a u.length c] 56)).bw hb
 clear hb
 have s1 := B1.size
 have ⟨Xc, Xf, Xl⟩ := X
 go_wp2_with fail
 clear HS HE
 refine (vast_any u ws a b c d _ (H.out) (K.out)).mono ?_
 rintro e w2 ⟨⟨g0, rfl, -⟩, hb⟩
 have B2 := bcm w hb
 have q2 : w1.heap.size ≤ w2.heap.size := qle hb
 replace H := Hd (H.out.bl hb)
 replace K := Hd (K.out.bl hb)
 replace X := X.bw hb
 clear hb
 have s2 := B2.size
 clear Xc Xf Xl
 have ⟨Xc, Xf, Xl⟩ := X
 cases g0 with
 | true =>
   go_wp2_with fail
   go_ret
   exact ⟨rfl, by go_grown⟩
 | false =>
   go_wp2_with fail
   refine (CW.out _ (H.out) (K.out)).mono ?_
   rintro e w3 ⟨rfl, hb⟩
   have B3 := bcm w hb
   have q3 : w2.heap.size ≤ w3.heap.size := qle hb
   replace H := Hd (H.out.bl hb)
   replace K := Hd (K.out.bl hb)
   replace X := X.bw hb
   clear hb
   have s3 := B3.size
   clear Xc Xf Xl
   have ⟨Xc, Xf, Xl⟩ := X
   go_wp2_with fail
   refine (CS.out _ ((H.out.al _)) ((K.out.al _))).mono ?_
   rintro e w4 ⟨o1, m1, rfl, -, hb⟩
   have B4 := bcm w hb
   have q4 : w3.heap.size + 1 ≤ w4.heap.size := qle hb
   replace H := Hd ((H.out.al _).bl hb)
   replace K := Hd ((K.out.al _).bl hb)
   replace X := ((X.alloc _)).bw hb
   have F := ((bkn w3.heap.size [.int .i64 f1, .int .i64 f2] 27)).bw hb
   clear hb
   have s4 := B4.size
   clear Xc Xf Xl
   have ⟨Xc, Xf, Xl⟩ := X
   have ⟨Fc, Ff, Fl⟩ := F
   go_wp2_with fail
   go_ret
   exact ⟨rfl, by go_grown⟩
set_option maxRecDepth 100000 in
set_option maxHeartbeats 8000000 in
theorem slvL_b (RG : RangesHold) (u : Pl.Uni) (ws : List Pl.Need) (a b : Option Addr) (c d : Nat) (w : World) (h1 : UIn w u a c) (h2 : NsIn w ws b d) (E : Env w) (e1 : Pl.wantsF u ws = (0, 0)) :
 Calls Tryz.prog 7 #[.agg #[.slice a u.length c], .slice b ws.length d] w fun e w' => e = .returned (.bool true) ∧ Below w.heap.size w w' := by
 obtain ⟨ok, okw⟩ := Pl.wantsF_ok.1 (show (Pl.wantsF u ws).1 = 0 by rw [e1])
 have CW := Hd (fun (W : World) (g1 : UIn W u a c) (g2 : NsIn W ws b d) => rWants_any u ws a b c d W g1 g2)
 have CS := Hd (fun (W : World) (g1 : UIn W u a c) (g2 : NsIn W ws b d) => Solve_any u ws a b c d W g1 g2)
 have CN := Hd (fun (W : World) (g1 : UIn W u a c) => Selections_any u a c W g1 ok)
 have CB := Hd (fun (W : World) (g1 : UIn W u a c) (g2 : NsIn W ws b d) => Best_any u ws a b c d W g1 g2 ok okw fun ch okc => Pl.solR_chk ok okw okc)
 have hN15 := Pl.prod_le ok
 rw [show Pl.slvR u ws = Pl.best u ws by unfold Pl.slvR; rw [e1]; rfl, e1] at CS
 rw [e1] at CW
 obtain ⟨N, hN⟩ : ∃ N, Pl.prodS (Pl.sizes u) = N := ⟨_, rfl⟩
 obtain ⟨r, hr⟩ : ∃ r, Pl.best u ws = r := ⟨_, rfl⟩
 obtain ⟨l, hl⟩ : ∃ l, r.getD [] = l := ⟨_, rfl⟩
 obtain ⟨k, hk⟩ : ∃ k, r.isSome = k := ⟨_, rfl⟩
 rw [hN] at CN hN15
 rw [hr] at CS CB
 unfold RSolve at CS
 unfold RBest at CB
 rw [hl, hk] at CS CB
 simp only [fltV] at CW CS
 have CI := Hd (fun (W : World) (p q : Option Addr) (s t : Nat) (g1 : Sl W p l.length s 1 (intVals l)) (g2 : Sl W q l.length t 1 (intVals l)) => intsEq_any l l p q s t W g1 g2)
 rw [show Pl.intsB l l = true from decide_eq_true rfl] at CI
 clear e1 ok okw hN hr hl hk
 have HS := Hd (fun (W : World) (E : Env W) => solves_any RG W E)
 have H := Hd h1
 have K := Hd h2
 have HE := Hd E
 clear h1 h2 E RG
 go_enter Tryz.func7, Tryz.ntmps7
 have B0 := brl w
 go_wp2_with fail
 refine (HS.out _ (HE.out.bl (by go_grown))).mono ?_
 rintro e w1 ⟨rfl, hb⟩
 have B1 := bcm w hb
 have q1 : w.heap.size + 1 ≤ w1.heap.size := qle hb
 replace H := Hd ((H.out.al _).bl hb)
 replace K := Hd ((K.out.al _).bl hb)
 have X := ((bkn w.heap.size [.slice a u.length c] 56)).bw hb
 clear hb
 have s1 := B1.size
 have ⟨Xc, Xf, Xl⟩ := X
 go_wp2_with fail
 clear HS HE
 refine (vast_any u ws a b c d _ (H.out) (K.out)).mono ?_
 rintro e w2 ⟨⟨g0, rfl, -⟩, hb⟩
 have B2 := bcm w hb
 have q2 : w1.heap.size ≤ w2.heap.size := qle hb
 replace H := Hd (H.out.bl hb)
 replace K := Hd (K.out.bl hb)
 replace X := X.bw hb
 clear hb
 have s2 := B2.size
 clear Xc Xf Xl
 have ⟨Xc, Xf, Xl⟩ := X
 cases g0 with
 | true =>
   go_wp2_with fail
   go_ret
   exact ⟨rfl, by go_grown⟩
 | false =>
   go_wp2_with fail
   refine (CW.out _ (H.out) (K.out)).mono ?_
   rintro e w3 ⟨rfl, hb⟩
   have B3 := bcm w hb
   have q3 : w2.heap.size ≤ w3.heap.size := qle hb
   replace H := Hd (H.out.bl hb)
   replace K := Hd (K.out.bl hb)
   replace X := X.bw hb
   clear hb
   have s3 := B3.size
   clear Xc Xf Xl
   have ⟨Xc, Xf, Xl⟩ := X
   go_wp2_with fail
   refine (CS.out _ ((H.out.al _)) ((K.out.al _))).mono ?_
   rintro e w4 ⟨o1, m1, rfl, SS, hb⟩
   replace SS := Hd SS
   have B4 := bcm w hb
   have q4 : w3.heap.size + 1 ≤ w4.heap.size := qle hb
   replace H := Hd ((H.out.al _).bl hb)
   replace K := Hd ((K.out.al _).bl hb)
   replace X := ((X.alloc _)).bw hb
   have F := ((bkn w3.heap.size [.int .i64 0, .int .i64 0] 27)).bw hb
   clear hb
   have s4 := B4.size
   clear Xc Xf Xl
   have ⟨Xc, Xf, Xl⟩ := X
   have ⟨Fc, Ff, Fl⟩ := F
   go_wp2_with fail
   refine (CN.out _ ((H.out.al _))).mono ?_
   rintro e w5 ⟨rfl, hb⟩
   have B5 := bcm w hb
   have q5 : w4.heap.size + 1 ≤ w5.heap.size := qle hb
   replace H := Hd ((H.out.al _).bl hb)
   replace K := Hd ((K.out.al _).bl hb)
   replace SS := Hd ((SS.out.al _).bl hb)
   replace X := ((X.alloc _)).bw hb
   replace F := ((F.alloc _)).bw hb
   have G := ((bkn w4.heap.size [.int .i64 0, .int .i64 0] 27)).bw hb
   clear hb
   have s5 := B5.size
   clear Xc Xf Xl Fc Ff Fl
   have ⟨Xc, Xf, Xl⟩ := X
   have ⟨Fc, Ff, Fl⟩ := F
   have ⟨Gc, Gf, Gl⟩ := G
   by_cases hb8 : N > 800
   · have t1 : decide ((N : Int) > 800) = true := decT (by omega)
     have t1' : decide ((800 : Int) < (N : Int)) = true := decT (by omega)
     have t1'' : decide (800 < N) = true := decT hb8
     go_wp2_with fail
     go_ret
     exact ⟨rfl, by go_grown⟩
   · have t1 : decide ((N : Int) > 800) = false := decF (by omega)
     have t1' : decide ((800 : Int) < (N : Int)) = false := decF (by omega)
     have t1'' : decide (800 < N) = false := decF hb8
     go_wp2_with fail
     refine (CB.out _ (H.out) (K.out)).mono ?_
     rintro e w6 ⟨o2, m2, rfl, TT, hb⟩
     replace TT := Hd TT
     have B6 := bcm w hb
     have q6 : w5.heap.size ≤ w6.heap.size := qle hb
     replace H := Hd (H.out.bl hb)
     replace K := Hd (K.out.bl hb)
     replace SS := Hd (SS.out.bl hb)
     replace X := X.bw hb
     replace F := F.bw hb
     replace G := G.bw hb
     clear hb
     have s6 := B6.size
     clear Xc Xf Xl Fc Ff Fl Gc Gf Gl
     have ⟨Xc, Xf, Xl⟩ := X
     have ⟨Fc, Ff, Fl⟩ := F
     have ⟨Gc, Gf, Gl⟩ := G
     have tk : (k == k) = true := by simp
     go_wp2_with fail
     refine (CI.out _ _ _ _ _ (SS.out) (TT.out)).mono ?_
     rintro e w7 ⟨rfl, hb⟩
     have B7 := bcm w hb
     have q7 : w6.heap.size ≤ w7.heap.size := qle hb
     replace H := Hd (H.out.bl hb)
     replace K := Hd (K.out.bl hb)
     replace SS := Hd (SS.out.bl hb)
     replace TT := Hd (TT.out.bl hb)
     replace X := X.bw hb
     replace F := F.bw hb
     replace G := G.bw hb
     clear hb
     have s7 := B7.size
     clear Xc Xf Xl Fc Ff Fl Gc Gf Gl
     have ⟨Xc, Xf, Xl⟩ := X
     have ⟨Fc, Ff, Fl⟩ := F
     have ⟨Gc, Gf, Gl⟩ := G
     go_wp2_with fail
     go_ret
     exact ⟨rfl, by go_grown⟩
theorem SolverSolveMatchesSpec_any (RG : RangesHold) (u : Pl.Uni) (ws : List Pl.Need) (a b : Option Addr) (c d : Nat) (w : World) (h1 : UIn w u a c) (h2 : NsIn w ws b d) (E : Env w) :
 Calls Tryz.prog 7 #[.agg #[.slice a u.length c], .slice b ws.length d] w fun e w' => e = .returned (.bool true) ∧ Below w.heap.size w w' := by
 by_cases f1 : (Pl.wantsF u ws).1 = 0
 · exact slvL_b RG u ws a b c d w h1 h2 E (Pl.wantsF_ne f1).1
 · exact slvL_a RG u ws a b c d w h1 h2 E _ _ f1 rfl
end Go.Proofs.YtolfgcoalihmgaaGreatDoor
