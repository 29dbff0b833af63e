/- The law SolverSolutionsAreBest: what it computes is true. -/
import Derived.Test.YtolfgcoalihmgaaGreatDoorZMOs
namespace Go.Proofs.YtolfgcoalihmgaaGreatDoor
open Go.RowKit
theorem Pl.chk_ok {u : Pl.Uni} {ws : List Pl.Need} {ch : List Int} : (Pl.chkF u ws ch).1 = 0 ↔ (Pl.wantsF u ws).1 = 0 ∧ Pl.ChOk u ch := by
 unfold Pl.chkF
 by_cases h : (Pl.wantsF u ws).1 = 0
 · rw [if_neg (fun e => e h), Pl.chosF_ok]; exact ⟨fun g => ⟨h, g⟩, fun g => g.2⟩
 · rw [if_pos h]; exact ⟨fun g => absurd g h, fun g => absurd g.1 h⟩
theorem Pl.chk_true {u : Pl.Uni} {ws : List Pl.Need} {ch : List Int} (h : (Pl.chkF u ws ch).1 = 0) : Pl.chkB u ws ch = Pl.solB u ws ch := by
 unfold Pl.chkB; rw [if_neg (fun e => e h)]
set_option maxRecDepth 100000 in
set_option maxHeartbeats 4000000 in
theorem bestL_a (RG : RangesHold) (u : Pl.Uni) (ws : List Pl.Need) (ot : List Int) (a b o : Option Addr) (c d m : Nat) (w : World) (h1 : UIn w u a c) (h2 : NsIn w ws b d) (h3 : Sl w o ot.length m 1 (intVals ot)) (E : Env w) (f1 f2 : Int) (hf : f1 ≠ 0) (e1 : Pl.wantsF u ws = (f1, f2)) :
 Calls Tryz.prog 8 #[.agg #[.slice a u.length c], .slice b ws.length d, .slice o ot.length m] w fun e w' => e = .returned (.bool true) ∧ Below w.heap.size w w' := by
 have u1 := bneT hf
 have u2 := beqF hf
 have CS := Hd (fun (W : World) (g1 : UIn W u a c) (g2 : NsIn W ws b d) => Solve_any u ws a b c d W g1 g2)
 rw [show Pl.slvR u ws = none by unfold Pl.slvR; rw [e1, if_pos hf], e1] at CS
 clear e1 hf
 have HS := Hd (fun (W : World) (E : Env W) => solves_any RG W E)
 have H := Hd h1
 have K := Hd h2
 have L := Hd h3
 have HE := Hd E
 clear h1 h2 h3 E RG
 go_enter Tryz.func8, Tryz.ntmps8
 have B0 := brl w
 go_wp2_with fail
 refine (HS.out _ (HE.out.bl (by go_grown))).mono ?_
 rintro e w1 ⟨rfl, hb⟩
 have B1 := bcm w hb
 have q1 : w.heap.size + 1 ≤ w1.heap.size := qle hb
 replace H := Hd ((H.out.al _).bl hb)
 replace K := Hd ((K.out.al _).bl hb)
 replace L := Hd ((L.out.al _).bl hb)
 have X := ((bkn w.heap.size [.slice a u.length c] 56)).bw hb
 clear hb
 have s1 := B1.size
 have ⟨Xc, Xf, Xl⟩ := X
 go_wp2_with fail
 clear HS HE
 refine (vast_any u ws a b c d _ (H.out) (K.out)).mono ?_
 rintro e w2 ⟨⟨g0, rfl, -⟩, hb⟩
 have B2 := bcm w hb
 have q2 : w1.heap.size ≤ w2.heap.size := qle hb
 replace H := Hd (H.out.bl hb)
 replace K := Hd (K.out.bl hb)
 replace L := Hd (L.out.bl hb)
 replace X := X.bw hb
 clear hb
 have s2 := B2.size
 clear Xc Xf Xl
 have ⟨Xc, Xf, Xl⟩ := X
 cases g0 with
 | true =>
   go_wp2_with fail
   go_ret
   exact ⟨rfl, by go_grown⟩
 | false =>
   go_wp2_with fail
   refine (CS.out _ (H.out) (K.out)).mono ?_
   rintro e w3 ⟨o1, m1, rfl, -, hb⟩
   have B3 := bcm w hb
   have q3 : w2.heap.size ≤ w3.heap.size := qle hb
   replace H := Hd (H.out.bl hb)
   replace K := Hd (K.out.bl hb)
   replace L := Hd (L.out.bl hb)
   replace X := X.bw hb
   clear hb
   have s3 := B3.size
   clear Xc Xf Xl
   have ⟨Xc, Xf, Xl⟩ := X
   go_wp2_with fail
   go_ret
   exact ⟨rfl, by go_grown⟩
set_option maxRecDepth 100000 in
set_option maxHeartbeats 8000000 in
theorem bestL_b (RG : RangesHold) (u : Pl.Uni) (ws : List Pl.Need) (ot : List Int) (a b o : Option Addr) (c d m : Nat) (w : World) (h1 : UIn w u a c) (h2 : NsIn w ws b d) (h3 : Sl w o ot.length m 1 (intVals ot)) (E : Env w) (ok : Bool) (l : List Int) (g1 g2 p1 p2 : Int) (b1 b2 : Bool)
 (cs : ∀ W, UIn W u a c → NsIn W ws b d → Calls Tryz.prog 43 #[.agg #[.slice a u.length c], .slice b ws.length d] W fun e w' => ∃ o m, e = .returned (.tuple #[.slice o l.length m, .bool ok, .agg #[.int .i64 0, .int .i64 0]]) ∧ Sl w' o l.length m 1 (intVals l) ∧ Below W.heap.size W w')
 (c1 : ∀ W ol ml, UIn W u a c → NsIn W ws b d → Sl W ol l.length ml 1 (intVals l) → Calls Tryz.prog 41 #[.agg #[.slice a u.length c], .slice b ws.length d, .slice ol l.length ml] W fun e w' => e = .returned (.tuple #[.bool b1, .agg #[.int .i64 g1, .int .i64 g2]]) ∧ Below W.heap.size W w')
 (c2 : ∀ W, UIn W u a c → NsIn W ws b d → Sl W o ot.length m 1 (intVals ot) → Calls Tryz.prog 41 #[.agg #[.slice a u.length c], .slice b ws.length d, .slice o ot.length m] W fun e w' => e = .returned (.tuple #[.bool b2, .agg #[.int .i64 p1, .int .i64 p2]]) ∧ Below W.heap.size W w')
 (cl : ∀ W ol ml, Sl W ol l.length ml 1 (intVals l) → Sl W o ot.length m 1 (intVals ot) → Calls Tryz.prog 47 #[.slice ol l.length ml, .slice o ot.length m] W fun e w' => e = .returned (.bool (Pl.lexLt l ot)) ∧ Below W.heap.size W w')
 (k1 : ok = true → g1 = 0 ∧ b1 = true) (k2 : ok = false → l.length = 0) (k3 : p1 = 0 → b2 = true → ok = true ∧ Pl.lexLt l ot = false) :
 Calls Tryz.prog 8 #[.agg #[.slice a u.length c], .slice b ws.length d, .slice o ot.length m] w fun e w' => e = .returned (.bool true) ∧ Below w.heap.size w w' := by
 have CS := Hd cs
 have C1 := Hd c1
 have C2 := Hd c2
 have CL := Hd cl
 have K1 := Hd k1
 have K2 := Hd k2
 have K3 := Hd k3
 clear cs c1 c2 cl k1 k2 k3
 have HS := Hd (fun (W : World) (E : Env W) => solves_any RG W E)
 have H := Hd h1
 have K := Hd h2
 have L := Hd h3
 have HE := Hd E
 clear h1 h2 h3 E RG
 go_enter Tryz.func8, Tryz.ntmps8
 have B0 := brl w
 go_wp2_with fail
 refine (HS.out _ (HE.out.bl (by go_grown))).mono ?_
 rintro e w1 ⟨rfl, hb⟩
 have B1 := bcm w hb
 have q1 : w.heap.size + 1 ≤ w1.heap.size := qle hb
 replace H := Hd ((H.out.al _).bl hb)
 replace K := Hd ((K.out.al _).bl hb)
 replace L := Hd ((L.out.al _).bl hb)
 have X := ((bkn w.heap.size [.slice a u.length c] 56)).bw hb
 clear hb
 have s1 := B1.size
 have ⟨Xc, Xf, Xl⟩ := X
 go_wp2_with fail
 clear HS HE
 refine (vast_any u ws a b c d _ (H.out) (K.out)).mono ?_
 rintro e w2 ⟨⟨g0, rfl, -⟩, hb⟩
 have B2 := bcm w hb
 have q2 : w1.heap.size ≤ w2.heap.size := qle hb
 replace H := Hd (H.out.bl hb)
 replace K := Hd (K.out.bl hb)
 replace L := Hd (L.out.bl hb)
 replace X := X.bw hb
 clear hb
 have s2 := B2.size
 clear Xc Xf Xl
 have ⟨Xc, Xf, Xl⟩ := X
 cases g0 with
 | true =>
   go_wp2_with fail
   go_ret
   exact ⟨rfl, by go_grown⟩
 | false =>
   go_wp2_with fail
   refine (CS.out _ (H.out) (K.out)).mono ?_
   rintro e w3 ⟨o1, m1, rfl, SS, hb⟩
   replace SS := Hd SS
   have B3 := bcm w hb
   have q3 : w2.heap.size ≤ w3.heap.size := qle hb
   replace H := Hd (H.out.bl hb)
   replace K := Hd (K.out.bl hb)
   replace L := Hd (L.out.bl hb)
   replace X := X.bw hb
   clear hb
   have s3 := B3.size
   clear Xc Xf Xl
   have ⟨Xc, Xf, Xl⟩ := X
   go_wp2_with fail
   refine (C1.out _ _ _ ((H.out.al _)) ((K.out.al _)) ((SS.out.al _))).mono ?_
   rintro e w4 ⟨rfl, hb⟩
   have B4 := bcm w hb
   have q4 : w3.heap.size + 1 ≤ w4.heap.size := qle hb
   replace H := Hd ((H.out.al _).bl hb)
   replace K := Hd ((K.out.al _).bl hb)
   replace L := Hd ((L.out.al _).bl hb)
   replace SS := Hd ((SS.out.al _).bl hb)
   replace X := ((X.alloc _)).bw hb
   have F1 := ((bkn w3.heap.size [.int .i64 0, .int .i64 0] 27)).bw hb
   clear hb
   have s4 := B4.size
   clear Xc Xf Xl
   have ⟨Xc, Xf, Xl⟩ := X
   have ⟨F1c, F1f, F1l⟩ := F1
   go_wp2_with fail
   refine (C2.out _ ((H.out.al _)) ((K.out.al _)) ((L.out.al _))).mono ?_
   rintro e w5 ⟨rfl, hb⟩
   have B5 := bcm w hb
   have q5 : w4.heap.size + 1 ≤ w5.heap.size := qle hb
   replace H := Hd ((H.out.al _).bl hb)
   replace K := Hd ((K.out.al _).bl hb)
   replace L := Hd ((L.out.al _).bl hb)
   replace SS := Hd ((SS.out.al _).bl hb)
   replace X := ((X.alloc _)).bw hb
   replace F1 := ((F1.alloc _)).bw hb
   have F2 := ((bkn w4.heap.size [.int .i64 g1, .int .i64 g2] 27)).bw hb
   clear hb
   have s5 := B5.size
   clear Xc Xf Xl F1c F1f F1l
   have ⟨Xc, Xf, Xl⟩ := X
   have ⟨F1c, F1f, F1l⟩ := F1
   have ⟨F2c, F2f, F2l⟩ := F2
   cases ok with
   | true =>
     obtain ⟨z3, z4⟩ := K1.out rfl
     subst z3
     subst z4
     by_cases hp : p1 = 0
     · cases hb2 : b2 with
       | false =>
         subst hp
         subst hb2
         go_wp2_with fail
         go_ret
         exact ⟨rfl, by go_grown⟩
       | true =>
         have KL := Hd (K3.out hp hb2).2
         subst hp
         subst hb2
         go_wp2_with fail
         refine (CL.out _ _ _ ((SS.out.al _)) ((L.out.al _))).mono ?_
         rintro e w6 ⟨rfl, hb⟩
         rw [KL.out]
         have B6 := bcm w hb
         have q6 : w5.heap.size + 1 ≤ w6.heap.size := qle hb
         replace H := Hd ((H.out.al _).bl hb)
         replace K := Hd ((K.out.al _).bl hb)
         replace L := Hd ((L.out.al _).bl hb)
         replace SS := Hd ((SS.out.al _).bl hb)
         replace X := ((X.alloc _)).bw hb
         replace F1 := ((F1.alloc _)).bw hb
         replace F2 := ((F2.alloc _)).bw hb
         have F3 := ((bkn w5.heap.size [.int .i64 0, .int .i64 p2] 27)).bw hb
         clear hb
         have s6 := B6.size
         clear Xc Xf Xl F1c F1f F1l F2c F2f F2l
         have ⟨Xc, Xf, Xl⟩ := X
         have ⟨F1c, F1f, F1l⟩ := F1
         have ⟨F2c, F2f, F2l⟩ := F2
         have ⟨F3c, F3f, F3l⟩ := F3
         go_wp2_with fail
         go_ret
         exact ⟨rfl, by go_grown⟩
     · clear K3
       have z1 := bneT hp
       have z2 := beqF hp
       go_wp2_with fail
       go_ret
       exact ⟨rfl, by go_grown⟩
   | false =>
     have z5 := K2.out rfl
     by_cases hp : p1 = 0
     · cases hb2 : b2 with
       | false =>
         subst hp
         subst hb2
         go_wp2_with fail
         go_ret
         exact ⟨rfl, by go_grown⟩
       | true => exact absurd (K3.out hp hb2).1 (by decide)
     · clear K3
       have z1 := bneT hp
       have z2 := beqF hp
       go_wp2_with fail
       go_ret
       exact ⟨rfl, by go_grown⟩
theorem SolverSolutionsAreBest_any (RG : RangesHold) (u : Pl.Uni) (ws : List Pl.Need) (ot : List Int) (a b o : Option Addr) (c d m : Nat) (w : World) (h1 : UIn w u a c) (h2 : NsIn w ws b d) (h3 : Sl w o ot.length m 1 (intVals ot)) (E : Env w) :
 Calls Tryz.prog 8 #[.agg #[.slice a u.length c], .slice b ws.length d, .slice o ot.length m] w fun e w' => e = .returned (.bool true) ∧ Below w.heap.size w w' := by
 by_cases f1 : (Pl.wantsF u ws).1 = 0
 · have hz := (Pl.wantsF_ne f1).1
   obtain ⟨ou, on⟩ := Pl.wantsF_ok.1 f1
   have hu6 := ou.len
   have hs : Pl.slvR u ws = Pl.best u ws := by unfold Pl.slvR; rw [if_neg (fun e => e f1)]
   have h6 : ∀ ch, Pl.ChOk u ch → ch.length ≤ 6 := fun ch h => by rw [h.len]; exact hu6
   have CO := fun (W : World) (g1 : UIn W u a c) (g2 : NsIn W ws b d) (g3 : Sl W o ot.length m 1 (intVals ot)) => Check_any u ws ot a b o c d m W g1 g2 g3
   obtain ⟨q1, p2, hp2⟩ : ∃ q1 p2, Pl.chkF u ws ot = (q1, p2) := ⟨_, _, rfl⟩
   rw [hp2] at CO
   have other : q1 = 0 → Pl.chkB u ws ot = true → Pl.ChOk u ot ∧ Pl.Sol u ws ot := fun e1 e2 => by
    have e3 : (Pl.chkF u ws ot).1 = 0 := by rw [hp2]; exact e1
    have oc := (Pl.chk_ok.1 e3).2
    rw [Pl.chk_true e3] at e2
    exact ⟨oc, (Pl.solB_iff (h6 _ oc)).1 e2⟩
   cases hb : Pl.best u ws with
   | some l =>
     have B := (Pl.best_some hu6).1 hb
     have e3 : (Pl.chkF u ws l).1 = 0 := Pl.chk_ok.2 ⟨f1, B.ok⟩
     have e4 : Pl.chkB u ws l = true := by rw [Pl.chk_true e3]; exact (Pl.solB_iff (h6 _ B.ok)).2 B.sol
     refine bestL_b RG u ws ot a b o c d m w h1 h2 h3 E true l (Pl.chkF u ws l).1 (Pl.chkF u ws l).2 q1 p2 (Pl.chkB u ws l) (Pl.chkB u ws ot) ?_ ?_ CO ?_ (fun _ => ⟨e3, e4⟩) (fun h => by cases h) (fun e1 e2 => ⟨rfl, B.top _ (other e1 e2).1 (other e1 e2).2⟩)
     · intro W g1 g2
       have h := Solve_any u ws a b c d W g1 g2
       rw [hs, hb, hz] at h
       exact h
     · intro W ol ml g1 g2 g3
       exact Check_any u ws l a b ol c d ml W g1 g2 g3
     · intro W ol ml g1 g2
       exact less_any l ot ol o ml m W g1 g2
   | none =>
     refine bestL_b RG u ws ot a b o c d m w h1 h2 h3 E false [] (Pl.chkF u ws []).1 (Pl.chkF u ws []).2 q1 p2 (Pl.chkB u ws []) (Pl.chkB u ws ot) ?_ ?_ CO ?_ (fun h => by cases h) (fun _ => rfl) (fun e1 e2 => absurd (other e1 e2).2 ((Pl.best_none hu6).1 hb _ (other e1 e2).1))
     · intro W g1 g2
       have h := Solve_any u ws a b c d W g1 g2
       rw [hs, hb, hz] at h
       exact h
     · intro W ol ml g1 g2 g3
       exact Check_any u ws [] a b ol c d ml W g1 g2 g3
     · intro W ol ml g1 g2
       exact less_any [] ot ol o ml m W g1 g2
 · exact bestL_a RG u ws ot a b o c d m w h1 h2 h3 E _ _ f1 rfl
end Go.Proofs.YtolfgcoalihmgaaGreatDoor
