/- The law SolverMatchesSpec: what it computes is true. -/
import Derived.Test.YtolfgcoalihmgaaGreatDoorZMOs
import Derived.Test.YtolfgcoalihmgaaGreatDoorZMOu
import Derived.Test.YtolfgcoalihmgaaGreatDoorZNh
namespace Go.Proofs.YtolfgcoalihmgaaGreatDoor
open Go.RowKit
theorem Pl.solR_chk {u : Pl.Uni} {ws : List Pl.Need} {ch : List Int} (ok : Pl.UniOk u) (okw : Pl.NeedsOk u.length ws) (okc : Pl.ChOk u ch) : Pl.solR u ws ch = Pl.solB u ws ch := by
 have hl := okc.len
 refine Pl.solR_solB (by have := ok.len; omega) (fun p d hd => ?_) (fun d hd => ?_)
 · unfold Pl.needsAt Pl.needsOf at hd
   split at hd
   · split at hd
     · rename_i l hl2
       split at hd
       · rename_i r hr
         have h1 := List.mem_of_getElem? hl2
         have h2 := List.mem_of_getElem? hr
         have := ((ok.rels l h1).ns r h2).pk d hd
         unfold Pl.Need.at'; omega
       · cases hd
     · cases hd
   · cases hd
 · have := okw.pk d hd
   unfold Pl.Need.at'; omega
set_option maxRecDepth 100000 in
set_option maxHeartbeats 8000000 in
theorem matL_a (RG : RangesHold) (u : Pl.Uni) (ws : List Pl.Need) (ot : List Int) (a b o : Option Addr) (c d m : Nat) (w : World) (h1 : UIn w u a c) (h2 : NsIn w ws b d) (h3 : Sl w o ot.length m 1 (intVals ot)) (E : Env w) (v1 v2 f1 f2 : Int) (hf : f1 ≠ 0) (e0 : Pl.uniF u = (v1, v2)) (e1 : Pl.wantsF u ws = (f1, f2)) :
 Calls Tryz.prog 6 #[.agg #[.slice a u.length c], .slice b ws.length d, .slice o ot.length m] w fun e w' => e = .returned (.bool true) ∧ Below w.heap.size w w' := by
 have u1 := bneT hf
 have u2 := beqF hf
 have C0 := Hd (fun (W : World) (g1 : UIn W u a c) => rUni_any u a c W g1)
 rw [e0] at C0
 have C1 := Hd (fun (W : World) (g1 : UIn W u a c) => sUni_any u a c W g1)
 rw [e0] at C1
 have C2 := Hd (fun (W : World) (g1 : UIn W u a c) (g2 : NsIn W ws b d) => rWants_any u ws a b c d W g1 g2)
 rw [e1] at C2
 have E1 : Pl.chkF u ws ot = (f1, f2) := by unfold Pl.chkF; rw [e1, if_pos hf]
 have E2 : Pl.chkB u ws ot = false := by unfold Pl.chkB; rw [E1, if_pos hf]
 have C4 := Hd (fun (W : World) (g1 : UIn W u a c) (g2 : NsIn W ws b d) (g3 : Sl W o ot.length m 1 (intVals ot)) => Check_any u ws ot a b o c d m W g1 g2 g3)
 rw [E1, E2] at C4
 simp only [fltV] at C0 C1 C2 C4
 have HS := Hd (fun (W : World) (E : Env W) => solves_any RG W E)
 have H := Hd h1
 have H0 := Hd h1
 have K0 := Hd h2
 have L0 := Hd h3
 have K := Hd h2
 have L := Hd h3
 have HE := Hd E
 clear h1 h2 h3 E RG E1 E2 e0 e1 hf
 go_enter Tryz.func6, Tryz.ntmps6
 have B0 := brl w
 go_wp2_with fail
 refine (HS.out _ (HE.out.bl (by go_grown))).mono ?_
 rintro e w1 ⟨rfl, hb⟩
 have B1 := bcm w hb
 have q1 : w.heap.size + 1 ≤ w1.heap.size := qle hb
 replace H := Hd ((H.out.al _).bl hb)
 replace K := Hd ((K.out.al _).bl hb)
 replace L := Hd ((L.out.al _).bl hb)
 have X := ((bkn w.heap.size [.slice a u.length c] 56)).bw hb
 clear hb
 have s1 := B1.size
 have ⟨Xc, Xf, Xl⟩ := X
 go_wp2_with fail
 clear HS HE
 refine (vast_any u ws a b c d _ (H.out) (K.out)).mono ?_
 rintro e w2 ⟨⟨g0, rfl, -⟩, hb⟩
 have B2 := bcm w hb
 have q2 : w1.heap.size ≤ w2.heap.size := qle hb
 replace H := Hd (H.out.bl hb)
 replace K := Hd (K.out.bl hb)
 replace L := Hd (L.out.bl hb)
 replace X := X.bw hb
 clear hb
 have s2 := B2.size
 clear Xc Xf Xl
 have ⟨Xc, Xf, Xl⟩ := X
 cases g0 with
 | true =>
   go_wp2_with fail
   go_ret
   exact ⟨rfl, by go_grown⟩
 | false =>
   go_wp2_with fail
   refine (C0.out _ (H.out)).mono ?_
   rintro e w3 ⟨rfl, hb⟩
   have B3 := bcm w hb
   have q3 : w2.heap.size ≤ w3.heap.size := qle hb
   replace H := Hd (H.out.bl hb)
   replace K := Hd (K.out.bl hb)
   replace L := Hd (L.out.bl hb)
   replace X := X.bw hb
   clear hb
   have s3 := B3.size
   clear Xc Xf Xl
   have ⟨Xc, Xf, Xl⟩ := X
   go_wp2_with fail
   refine wp_region_ord [0, 2, 1, 3] (by kernel_rfl) (by kernel_rfl) ?_
   have B4 : Below w.heap.size w (w3.alloc (.cells #[.int .i64 v1, .int .i64 v2] 27)).drew := by go_grown
   have q4 : w3.heap.size + 1 ≤ (w3.alloc (.cells #[.int .i64 v1, .int .i64 v2] 27)).drew.heap.size := by simp only [World.size_alloc, World.size_drew]; omega
   replace H := Hd ((H.out.al (.cells #[.int .i64 v1, .int .i64 v2] 27)).bl (Below.refl _ _).drew)
   replace K := Hd ((K.out.al (.cells #[.int .i64 v1, .int .i64 v2] 27)).bl (Below.refl _ _).drew)
   replace L := Hd ((L.out.al (.cells #[.int .i64 v1, .int .i64 v2] 27)).bl (Below.refl _ _).drew)
   replace X := (X.alloc (.cells #[.int .i64 v1, .int .i64 v2] 27)).drew
   have F := (Bk.new (r := w3.heap.size) (cs := [.int .i64 v1, .int .i64 v2]) w3 27 (by simp)).drew
   clear Xc Xf Xl
   generalize (w3.alloc (.cells #[.int .i64 v1, .int .i64 v2] 27)).drew = w4 at *
   have s4 := B4.size
   have ⟨Xc, Xf, Xl⟩ := X
   have ⟨Fc, Ff, Fl⟩ := F
   repeat (refine wpI_rd rfl rfl ?_; go_big_quiet_step (fail); refine wpQuiet_nil ?_)
   try simp only [pts]
   refine wpI_call (f := 38) rfl rfl rfl (by simp [go_sem]; rfl) ?_
   refine (C1.out _ H.out).mono ?_
   rintro e w5 ⟨rfl, hb⟩
   refine ⟨_, rfl, hb, ?_⟩
   skip
   have B5 := bcm w hb
   have q5 : w4.heap.size ≤ w5.heap.size := qle hb
   replace H := Hd (H.out.bl hb)
   replace K := Hd (K.out.bl hb)
   replace L := Hd (L.out.bl hb)
   replace X := X.bw hb
   replace F := F.bw hb
   clear hb
   have s5 := B5.size
   clear Xc Xf Xl Fc Ff Fl
   have ⟨Xc, Xf, Xl⟩ := X
   have ⟨Fc, Ff, Fl⟩ := F
   try simp only [pts]
   repeat (refine wpI_rd rfl rfl ?_; go_big_quiet_step (fail); refine wpQuiet_nil ?_)
   try simp only [pts]
   refine wpI_nil ?_
   try simp only [pts]
   go_wp2_with fail
   refine (C2.out _ (H.out) (K.out)).mono ?_
   rintro e w6 ⟨rfl, hb⟩
   have B6 := bcm w hb
   have q6 : w5.heap.size ≤ w6.heap.size := qle hb
   replace H := Hd (H.out.bl hb)
   replace K := Hd (K.out.bl hb)
   replace L := Hd (L.out.bl hb)
   replace X := X.bw hb
   replace F := F.bw hb
   clear hb
   have s6 := B6.size
   clear Xc Xf Xl Fc Ff Fl
   have ⟨Xc, Xf, Xl⟩ := X
   have ⟨Fc, Ff, Fl⟩ := F
   go_wp2_with fail
   have B7 : Below w.heap.size w ((w6.setCell ⟨w3.heap.size, 0, none⟩ (.int .i64 f1)).setCell ⟨w3.heap.size, 1, none⟩ (.int .i64 f2)) := by go_grown
   have q7 : w6.heap.size ≤ ((w6.setCell ⟨w3.heap.size, 0, none⟩ (.int .i64 f1)).setCell ⟨w3.heap.size, 1, none⟩ (.int .i64 f2)).heap.size := by simp only [World.size_setCell]; omega
   replace F := (F.st 0 (.int .i64 f1)).st 1 (.int .i64 f2)
   replace X := (X.fr w3.heap.size 0 (by omega) (.int .i64 f1)).fr w3.heap.size 1 (by omega) (.int .i64 f2)
   clear Xc Xf Xl Fc Ff Fl
   generalize ((w6.setCell ⟨w3.heap.size, 0, none⟩ (.int .i64 f1)).setCell ⟨w3.heap.size, 1, none⟩ (.int .i64 f2)) = w7 at *
   replace H := Hd (H0.out.bl B7)
   replace K := Hd (K0.out.bl B7)
   replace L := Hd (L0.out.bl B7)
   have s7 := B7.size
   have ⟨Xc, Xf, Xl⟩ := X
   have ⟨Fc, Ff, Fl⟩ := F
   refine (C4.out _ (H.out) (K.out) (L.out)).mono ?_
   rintro e w8 ⟨rfl, hb⟩
   have B8 := bcm w hb
   have q8 : w7.heap.size ≤ w8.heap.size := qle hb
   replace H := Hd (H.out.bl hb)
   replace K := Hd (K.out.bl hb)
   replace L := Hd (L.out.bl hb)
   replace X := X.bw hb
   replace F := F.bw hb
   clear hb
   have s8 := B8.size
   clear Xc Xf Xl Fc Ff Fl
   have ⟨Xc, Xf, Xl⟩ := X
   have ⟨Fc, Ff, Fl⟩ := F
   go_wp2_with fail
   go_ret
   exact ⟨rfl, by go_grown⟩
set_option maxRecDepth 100000 in
set_option maxHeartbeats 8000000 in
theorem matL_b (RG : RangesHold) (u : Pl.Uni) (ws : List Pl.Need) (ot : List Int) (a b o : Option Addr) (c d m : Nat) (w : World) (h1 : UIn w u a c) (h2 : NsIn w ws b d) (h3 : Sl w o ot.length m 1 (intVals ot)) (E : Env w) (f1 f2 : Int) (hf : f1 ≠ 0) (e0 : Pl.uniF u = (0, 0)) (e1 : Pl.wantsF u ws = (0, 0)) (e2 : Pl.chosF u ot = (f1, f2)) :
 Calls Tryz.prog 6 #[.agg #[.slice a u.length c], .slice b ws.length d, .slice o ot.length m] w fun e w' => e = .returned (.bool true) ∧ Below w.heap.size w w' := by
 have u1 := bneT hf
 have u2 := beqF hf
 have C0 := Hd (fun (W : World) (g1 : UIn W u a c) => rUni_any u a c W g1)
 rw [e0] at C0
 have C1 := Hd (fun (W : World) (g1 : UIn W u a c) => sUni_any u a c W g1)
 rw [e0] at C1
 have C2 := Hd (fun (W : World) (g1 : UIn W u a c) (g2 : NsIn W ws b d) => rWants_any u ws a b c d W g1 g2)
 rw [e1] at C2
 have E1 : Pl.chkF u ws ot = (f1, f2) := by unfold Pl.chkF; rw [e1, if_neg (by decide), e2]
 have E2 : Pl.chkB u ws ot = false := by unfold Pl.chkB; rw [E1, if_pos hf]
 have C3 := Hd (fun (W : World) (g1 : UIn W u a c) (g3 : Sl W o ot.length m 1 (intVals ot)) => rChos_any u ot a o c m W g1 g3)
 rw [e2] at C3
 simp only [fltV] at C3
 have C4 := Hd (fun (W : World) (g1 : UIn W u a c) (g2 : NsIn W ws b d) (g3 : Sl W o ot.length m 1 (intVals ot)) => Check_any u ws ot a b o c d m W g1 g2 g3)
 rw [E1, E2] at C4
 simp only [fltV] at C0 C1 C2 C4
 have HS := Hd (fun (W : World) (E : Env W) => solves_any RG W E)
 have H := Hd h1
 have H0 := Hd h1
 have K0 := Hd h2
 have L0 := Hd h3
 have K := Hd h2
 have L := Hd h3
 have HE := Hd E
 clear h1 h2 h3 E RG E1 E2 e0 e1 e2 hf
 go_enter Tryz.func6, Tryz.ntmps6
 have B0 := brl w
 go_wp2_with fail
 refine (HS.out _ (HE.out.bl (by go_grown))).mono ?_
 rintro e w1 ⟨rfl, hb⟩
 have B1 := bcm w hb
 have q1 : w.heap.size + 1 ≤ w1.heap.size := qle hb
 replace H := Hd ((H.out.al _).bl hb)
 replace K := Hd ((K.out.al _).bl hb)
 replace L := Hd ((L.out.al _).bl hb)
 have X := ((bkn w.heap.size [.slice a u.length c] 56)).bw hb
 clear hb
 have s1 := B1.size
 have ⟨Xc, Xf, Xl⟩ := X
 go_wp2_with fail
 clear HS HE
 refine (vast_any u ws a b c d _ (H.out) (K.out)).mono ?_
 rintro e w2 ⟨⟨g0, rfl, -⟩, hb⟩
 have B2 := bcm w hb
 have q2 : w1.heap.size ≤ w2.heap.size := qle hb
 replace H := Hd (H.out.bl hb)
 replace K := Hd (K.out.bl hb)
 replace L := Hd (L.out.bl hb)
 replace X := X.bw hb
 clear hb
 have s2 := B2.size
 clear Xc Xf Xl
 have ⟨Xc, Xf, Xl⟩ := X
 cases g0 with
 | true =>
   go_wp2_with fail
   go_ret
   exact ⟨rfl, by go_grown⟩
 | false =>
   go_wp2_with fail
   refine (C0.out _ (H.out)).mono ?_
   rintro e w3 ⟨rfl, hb⟩
   have B3 := bcm w hb
   have q3 : w2.heap.size ≤ w3.heap.size := qle hb
   replace H := Hd (H.out.bl hb)
   replace K := Hd (K.out.bl hb)
   replace L := Hd (L.out.bl hb)
   replace X := X.bw hb
   clear hb
   have s3 := B3.size
   clear Xc Xf Xl
   have ⟨Xc, Xf, Xl⟩ := X
   go_wp2_with fail
   refine wp_region_ord [0, 2, 1, 3] (by kernel_rfl) (by kernel_rfl) ?_
   have B4 : Below w.heap.size w (w3.alloc (.cells #[.int .i64 0, .int .i64 0] 27)).drew := by go_grown
   have q4 : w3.heap.size + 1 ≤ (w3.alloc (.cells #[.int .i64 0, .int .i64 0] 27)).drew.heap.size := by simp only [World.size_alloc, World.size_drew]; omega
   replace H := Hd ((H.out.al (.cells #[.int .i64 0, .int .i64 0] 27)).bl (Below.refl _ _).drew)
   replace K := Hd ((K.out.al (.cells #[.int .i64 0, .int .i64 0] 27)).bl (Below.refl _ _).drew)
   replace L := Hd ((L.out.al (.cells #[.int .i64 0, .int .i64 0] 27)).bl (Below.refl _ _).drew)
   replace X := (X.alloc (.cells #[.int .i64 0, .int .i64 0] 27)).drew
   have F := (Bk.new (r := w3.heap.size) (cs := [.int .i64 0, .int .i64 0]) w3 27 (by simp)).drew
   clear Xc Xf Xl
   generalize (w3.alloc (.cells #[.int .i64 0, .int .i64 0] 27)).drew = w4 at *
   have s4 := B4.size
   have ⟨Xc, Xf, Xl⟩ := X
   have ⟨Fc, Ff, Fl⟩ := F
   repeat (refine wpI_rd rfl rfl ?_; go_big_quiet_step (fail); refine wpQuiet_nil ?_)
   try simp only [pts]
   refine wpI_call (f := 38) rfl rfl rfl (by simp [go_sem]; rfl) ?_
   refine (C1.out _ H.out).mono ?_
   rintro e w5 ⟨rfl, hb⟩
   refine ⟨_, rfl, hb, ?_⟩
   skip
   have B5 := bcm w hb
   have q5 : w4.heap.size ≤ w5.heap.size := qle hb
   replace H := Hd (H.out.bl hb)
   replace K := Hd (K.out.bl hb)
   replace L := Hd (L.out.bl hb)
   replace X := X.bw hb
   replace F := F.bw hb
   clear hb
   have s5 := B5.size
   clear Xc Xf Xl Fc Ff Fl
   have ⟨Xc, Xf, Xl⟩ := X
   have ⟨Fc, Ff, Fl⟩ := F
   try simp only [pts]
   repeat (refine wpI_rd rfl rfl ?_; go_big_quiet_step (fail); refine wpQuiet_nil ?_)
   try simp only [pts]
   refine wpI_nil ?_
   try simp only [pts]
   go_wp2_with fail
   refine (C2.out _ (H.out) (K.out)).mono ?_
   rintro e w6 ⟨rfl, hb⟩
   have B6 := bcm w hb
   have q6 : w5.heap.size ≤ w6.heap.size := qle hb
   replace H := Hd (H.out.bl hb)
   replace K := Hd (K.out.bl hb)
   replace L := Hd (L.out.bl hb)
   replace X := X.bw hb
   replace F := F.bw hb
   clear hb
   have s6 := B6.size
   clear Xc Xf Xl Fc Ff Fl
   have ⟨Xc, Xf, Xl⟩ := X
   have ⟨Fc, Ff, Fl⟩ := F
   go_wp2_with fail
   have B7 : Below w.heap.size w ((w6.setCell ⟨w3.heap.size, 0, none⟩ (.int .i64 0)).setCell ⟨w3.heap.size, 1, none⟩ (.int .i64 0)) := by go_grown
   have q7 : w6.heap.size ≤ ((w6.setCell ⟨w3.heap.size, 0, none⟩ (.int .i64 0)).setCell ⟨w3.heap.size, 1, none⟩ (.int .i64 0)).heap.size := by simp only [World.size_setCell]; omega
   replace F := (F.st 0 (.int .i64 0)).st 1 (.int .i64 0)
   replace X := (X.fr w3.heap.size 0 (by omega) (.int .i64 0)).fr w3.heap.size 1 (by omega) (.int .i64 0)
   clear Xc Xf Xl Fc Ff Fl
   generalize ((w6.setCell ⟨w3.heap.size, 0, none⟩ (.int .i64 0)).setCell ⟨w3.heap.size, 1, none⟩ (.int .i64 0)) = w7 at *
   replace H := Hd (H0.out.bl B7)
   replace K := Hd (K0.out.bl B7)
   replace L := Hd (L0.out.bl B7)
   have s7 := B7.size
   have ⟨Xc, Xf, Xl⟩ := X
   have ⟨Fc, Ff, Fl⟩ := F
   refine (C3.out _ (H.out) (L.out)).mono ?_
   rintro e w8 ⟨rfl, hb⟩
   have B8 := bcm w hb
   have q8 : w7.heap.size ≤ w8.heap.size := qle hb
   replace H := Hd (H.out.bl hb)
   replace K := Hd (K.out.bl hb)
   replace L := Hd (L.out.bl hb)
   replace X := X.bw hb
   replace F := F.bw hb
   clear hb
   have s8 := B8.size
   clear Xc Xf Xl Fc Ff Fl
   have ⟨Xc, Xf, Xl⟩ := X
   have ⟨Fc, Ff, Fl⟩ := F
   go_wp2_with fail
   have B9 : Below w.heap.size w ((w8.setCell ⟨w3.heap.size, 0, none⟩ (.int .i64 f1)).setCell ⟨w3.heap.size, 1, none⟩ (.int .i64 f2)) := by go_grown
   have q9 : w8.heap.size ≤ ((w8.setCell ⟨w3.heap.size, 0, none⟩ (.int .i64 f1)).setCell ⟨w3.heap.size, 1, none⟩ (.int .i64 f2)).heap.size := by simp only [World.size_setCell]; omega
   replace F := (F.st 0 (.int .i64 f1)).st 1 (.int .i64 f2)
   replace X := (X.fr w3.heap.size 0 (by omega) (.int .i64 f1)).fr w3.heap.size 1 (by omega) (.int .i64 f2)
   clear Xc Xf Xl Fc Ff Fl
   generalize ((w8.setCell ⟨w3.heap.size, 0, none⟩ (.int .i64 f1)).setCell ⟨w3.heap.size, 1, none⟩ (.int .i64 f2)) = w9 at *
   replace H := Hd (H0.out.bl B9)
   replace K := Hd (K0.out.bl B9)
   replace L := Hd (L0.out.bl B9)
   have s9 := B9.size
   have ⟨Xc, Xf, Xl⟩ := X
   have ⟨Fc, Ff, Fl⟩ := F
   refine (C4.out _ (H.out) (K.out) (L.out)).mono ?_
   rintro e w10 ⟨rfl, hb⟩
   have B10 := bcm w hb
   have q10 : w9.heap.size ≤ w10.heap.size := qle hb
   replace H := Hd (H.out.bl hb)
   replace K := Hd (K.out.bl hb)
   replace L := Hd (L.out.bl hb)
   replace X := X.bw hb
   replace F := F.bw hb
   clear hb
   have s10 := B10.size
   clear Xc Xf Xl Fc Ff Fl
   have ⟨Xc, Xf, Xl⟩ := X
   have ⟨Fc, Ff, Fl⟩ := F
   go_wp2_with fail
   go_ret
   exact ⟨rfl, by go_grown⟩
set_option maxRecDepth 100000 in
set_option maxHeartbeats 8000000 in
theorem matL_c (RG : RangesHold) (u : Pl.Uni) (ws : List Pl.Need) (ot : List Int) (a b o : Option Addr) (c d m : Nat) (w : World) (h1 : UIn w u a c) (h2 : NsIn w ws b d) (h3 : Sl w o ot.length m 1 (intVals ot)) (E : Env w) (e0 : Pl.uniF u = (0, 0)) (e1 : Pl.wantsF u ws = (0, 0)) (e2 : Pl.chosF u ot = (0, 0)) :
 Calls Tryz.prog 6 #[.agg #[.slice a u.length c], .slice b ws.length d, .slice o ot.length m] w fun e w' => e = .returned (.bool true) ∧ Below w.heap.size w w' := by
 have C0 := Hd (fun (W : World) (g1 : UIn W u a c) => rUni_any u a c W g1)
 rw [e0] at C0
 have C1 := Hd (fun (W : World) (g1 : UIn W u a c) => sUni_any u a c W g1)
 rw [e0] at C1
 have C2 := Hd (fun (W : World) (g1 : UIn W u a c) (g2 : NsIn W ws b d) => rWants_any u ws a b c d W g1 g2)
 rw [e1] at C2
 have E1 : Pl.chkF u ws ot = (0, 0) := by unfold Pl.chkF; rw [e1, if_neg (by decide), e2]
 have E2 : Pl.chkB u ws ot = Pl.solB u ws ot := by unfold Pl.chkB; rw [E1, if_neg (by decide)]
 obtain ⟨ok, okw⟩ := Pl.wantsF_ok.1 (show (Pl.wantsF u ws).1 = 0 by rw [e1])
 have okc := Pl.chosF_ok.1 (show (Pl.chosF u ot).1 = 0 by rw [e2])
 have E3 := Pl.solR_chk ok okw okc
 have C3 := Hd (fun (W : World) (g1 : UIn W u a c) (g3 : Sl W o ot.length m 1 (intVals ot)) => rChos_any u ot a o c m W g1 g3)
 rw [e2] at C3
 simp only [fltV] at C3
 have C4 := Hd (fun (W : World) (g1 : UIn W u a c) (g2 : NsIn W ws b d) (g3 : Sl W o ot.length m 1 (intVals ot)) => Check_any u ws ot a b o c d m W g1 g2 g3)
 rw [E1, E2] at C4
 simp only [fltV] at C0 C1 C2 C4
 have C5 := Hd (fun (W : World) (g1 : UIn W u a c) (g2 : NsIn W ws b d) (g3 : Sl W o ot.length m 1 (intVals ot)) => Solution_any u ws ot a b o c d m W g1 g2 g3 ok okw okc)
 rw [E3] at C5
 obtain ⟨bb, hbb⟩ : ∃ bb, Pl.solB u ws ot = bb := ⟨_, rfl⟩
 rw [hbb] at C4 C5
 clear hbb E3 ok okw okc
 have HS := Hd (fun (W : World) (E : Env W) => solves_any RG W E)
 have H := Hd h1
 have H0 := Hd h1
 have K0 := Hd h2
 have L0 := Hd h3
 have K := Hd h2
 have L := Hd h3
 have HE := Hd E
 clear h1 h2 h3 E RG E1 E2 e0 e1 e2
 go_enter Tryz.func6, Tryz.ntmps6
 have B0 := brl w
 go_wp2_with fail
 refine (HS.out _ (HE.out.bl (by go_grown))).mono ?_
 rintro e w1 ⟨rfl, hb⟩
 have B1 := bcm w hb
 have q1 : w.heap.size + 1 ≤ w1.heap.size := qle hb
 replace H := Hd ((H.out.al _).bl hb)
 replace K := Hd ((K.out.al _).bl hb)
 replace L := Hd ((L.out.al _).bl hb)
 have X := ((bkn w.heap.size [.slice a u.length c] 56)).bw hb
 clear hb
 have s1 := B1.size
 have ⟨Xc, Xf, Xl⟩ := X
 go_wp2_with fail
 clear HS HE
 refine (vast_any u ws a b c d _ (H.out) (K.out)).mono ?_
 rintro e w2 ⟨⟨g0, rfl, -⟩, hb⟩
 have B2 := bcm w hb
 have q2 : w1.heap.size ≤ w2.heap.size := qle hb
 replace H := Hd (H.out.bl hb)
 replace K := Hd (K.out.bl hb)
 replace L := Hd (L.out.bl hb)
 replace X := X.bw hb
 clear hb
 have s2 := B2.size
 clear Xc Xf Xl
 have ⟨Xc, Xf, Xl⟩ := X
 cases g0 with
 | true =>
   go_wp2_with fail
   go_ret
   exact ⟨rfl, by go_grown⟩
 | false =>
   go_wp2_with fail
   refine (C0.out _ (H.out)).mono ?_
   rintro e w3 ⟨rfl, hb⟩
   have B3 := bcm w hb
   have q3 : w2.heap.size ≤ w3.heap.size := qle hb
   replace H := Hd (H.out.bl hb)
   replace K := Hd (K.out.bl hb)
   replace L := Hd (L.out.bl hb)
   replace X := X.bw hb
   clear hb
   have s3 := B3.size
   clear Xc Xf Xl
   have ⟨Xc, Xf, Xl⟩ := X
   go_wp2_with fail
   refine wp_region_ord [0, 2, 1, 3] (by kernel_rfl) (by kernel_rfl) ?_
   have B4 : Below w.heap.size w (w3.alloc (.cells #[.int .i64 0, .int .i64 0] 27)).drew := by go_grown
   have q4 : w3.heap.size + 1 ≤ (w3.alloc (.cells #[.int .i64 0, .int .i64 0] 27)).drew.heap.size := by simp only [World.size_alloc, World.size_drew]; omega
   replace H := Hd ((H.out.al (.cells #[.int .i64 0, .int .i64 0] 27)).bl (Below.refl _ _).drew)
   replace K := Hd ((K.out.al (.cells #[.int .i64 0, .int .i64 0] 27)).bl (Below.refl _ _).drew)
   replace L := Hd ((L.out.al (.cells #[.int .i64 0, .int .i64 0] 27)).bl (Below.refl _ _).drew)
   replace X := (X.alloc (.cells #[.int .i64 0, .int .i64 0] 27)).drew
   have F := (Bk.new (r := w3.heap.size) (cs := [.int .i64 0, .int .i64 0]) w3 27 (by simp)).drew
   clear Xc Xf Xl
   generalize (w3.alloc (.cells #[.int .i64 0, .int .i64 0] 27)).drew = w4 at *
   have s4 := B4.size
   have ⟨Xc, Xf, Xl⟩ := X
   have ⟨Fc, Ff, Fl⟩ := F
   repeat (refine wpI_rd rfl rfl ?_; go_big_quiet_step (fail); refine wpQuiet_nil ?_)
   try simp only [pts]
   refine wpI_call (f := 38) rfl rfl rfl (by simp [go_sem]; rfl) ?_
   refine (C1.out _ H.out).mono ?_
   rintro e w5 ⟨rfl, hb⟩
   refine ⟨_, rfl, hb, ?_⟩
   skip
   have B5 := bcm w hb
   have q5 : w4.heap.size ≤ w5.heap.size := qle hb
   replace H := Hd (H.out.bl hb)
   replace K := Hd (K.out.bl hb)
   replace L := Hd (L.out.bl hb)
   replace X := X.bw hb
   replace F := F.bw hb
   clear hb
   have s5 := B5.size
   clear Xc Xf Xl Fc Ff Fl
   have ⟨Xc, Xf, Xl⟩ := X
   have ⟨Fc, Ff, Fl⟩ := F
   try simp only [pts]
   repeat (refine wpI_rd rfl rfl ?_; go_big_quiet_step (fail); refine wpQuiet_nil ?_)
   try simp only [pts]
   refine wpI_nil ?_
   try simp only [pts]
   go_wp2_with fail
   refine (C2.out _ (H.out) (K.out)).mono ?_
   rintro e w6 ⟨rfl, hb⟩
   have B6 := bcm w hb
   have q6 : w5.heap.size ≤ w6.heap.size := qle hb
   replace H := Hd (H.out.bl hb)
   replace K := Hd (K.out.bl hb)
   replace L := Hd (L.out.bl hb)
   replace X := X.bw hb
   replace F := F.bw hb
   clear hb
   have s6 := B6.size
   clear Xc Xf Xl Fc Ff Fl
   have ⟨Xc, Xf, Xl⟩ := X
   have ⟨Fc, Ff, Fl⟩ := F
   go_wp2_with fail
   have B7 : Below w.heap.size w ((w6.setCell ⟨w3.heap.size, 0, none⟩ (.int .i64 0)).setCell ⟨w3.heap.size, 1, none⟩ (.int .i64 0)) := by go_grown
   have q7 : w6.heap.size ≤ ((w6.setCell ⟨w3.heap.size, 0, none⟩ (.int .i64 0)).setCell ⟨w3.heap.size, 1, none⟩ (.int .i64 0)).heap.size := by simp only [World.size_setCell]; omega
   replace F := (F.st 0 (.int .i64 0)).st 1 (.int .i64 0)
   replace X := (X.fr w3.heap.size 0 (by omega) (.int .i64 0)).fr w3.heap.size 1 (by omega) (.int .i64 0)
   clear Xc Xf Xl Fc Ff Fl
   generalize ((w6.setCell ⟨w3.heap.size, 0, none⟩ (.int .i64 0)).setCell ⟨w3.heap.size, 1, none⟩ (.int .i64 0)) = w7 at *
   replace H := Hd (H0.out.bl B7)
   replace K := Hd (K0.out.bl B7)
   replace L := Hd (L0.out.bl B7)
   have s7 := B7.size
   have ⟨Xc, Xf, Xl⟩ := X
   have ⟨Fc, Ff, Fl⟩ := F
   refine (C3.out _ (H.out) (L.out)).mono ?_
   rintro e w8 ⟨rfl, hb⟩
   have B8 := bcm w hb
   have q8 : w7.heap.size ≤ w8.heap.size := qle hb
   replace H := Hd (H.out.bl hb)
   replace K := Hd (K.out.bl hb)
   replace L := Hd (L.out.bl hb)
   replace X := X.bw hb
   replace F := F.bw hb
   clear hb
   have s8 := B8.size
   clear Xc Xf Xl Fc Ff Fl
   have ⟨Xc, Xf, Xl⟩ := X
   have ⟨Fc, Ff, Fl⟩ := F
   go_wp2_with fail
   have B9 : Below w.heap.size w ((w8.setCell ⟨w3.heap.size, 0, none⟩ (.int .i64 0)).setCell ⟨w3.heap.size, 1, none⟩ (.int .i64 0)) := by go_grown
   have q9 : w8.heap.size ≤ ((w8.setCell ⟨w3.heap.size, 0, none⟩ (.int .i64 0)).setCell ⟨w3.heap.size, 1, none⟩ (.int .i64 0)).heap.size := by simp only [World.size_setCell]; omega
   replace F := (F.st 0 (.int .i64 0)).st 1 (.int .i64 0)
   replace X := (X.fr w3.heap.size 0 (by omega) (.int .i64 0)).fr w3.heap.size 1 (by omega) (.int .i64 0)
   clear Xc Xf Xl Fc Ff Fl
   generalize ((w8.setCell ⟨w3.heap.size, 0, none⟩ (.int .i64 0)).setCell ⟨w3.heap.size, 1, none⟩ (.int .i64 0)) = w9 at *
   replace H := Hd (H0.out.bl B9)
   replace K := Hd (K0.out.bl B9)
   replace L := Hd (L0.out.bl B9)
   have s9 := B9.size
   have ⟨Xc, Xf, Xl⟩ := X
   have ⟨Fc, Ff, Fl⟩ := F
   refine (C4.out _ (H.out) (K.out) (L.out)).mono ?_
   rintro e w10 ⟨rfl, hb⟩
   have B10 := bcm w hb
   have q10 : w9.heap.size ≤ w10.heap.size := qle hb
   replace H := Hd (H.out.bl hb)
   replace K := Hd (K.out.bl hb)
   replace L := Hd (L.out.bl hb)
   replace X := X.bw hb
   replace F := F.bw hb
   clear hb
   have s10 := B10.size
   clear Xc Xf Xl Fc Ff Fl
   have ⟨Xc, Xf, Xl⟩ := X
   have ⟨Fc, Ff, Fl⟩ := F
   go_wp2_with fail
   refine (C5.out _ ((H.out.al _)) ((K.out.al _)) ((L.out.al _))).mono ?_
   rintro e w11 ⟨rfl, hb⟩
   have B11 := bcm w hb
   have q11 : w10.heap.size + 1 ≤ w11.heap.size := qle hb
   replace H := Hd ((H.out.al _).bl hb)
   replace K := Hd ((K.out.al _).bl hb)
   replace L := Hd ((L.out.al _).bl hb)
   replace X := ((X.alloc _)).bw hb
   replace F := ((F.alloc _)).bw hb
   have G := ((bkn w10.heap.size [.int .i64 0, .int .i64 0] 27)).bw hb
   clear hb
   have s11 := B11.size
   clear Xc Xf Xl Fc Ff Fl
   have ⟨Xc, Xf, Xl⟩ := X
   have ⟨Fc, Ff, Fl⟩ := F
   have ⟨Gc, Gf, Gl⟩ := G
   cases bb <;> (go_wp2_with fail; go_ret; exact ⟨rfl, by go_grown⟩)
theorem SolverMatchesSpec_any (RG : RangesHold) (u : Pl.Uni) (ws : List Pl.Need) (ot : List Int) (a b o : Option Addr) (c d m : Nat) (w : World) (h1 : UIn w u a c) (h2 : NsIn w ws b d) (h3 : Sl w o ot.length m 1 (intVals ot)) (E : Env w) :
 Calls Tryz.prog 6 #[.agg #[.slice a u.length c], .slice b ws.length d, .slice o ot.length m] w fun e w' => e = .returned (.bool true) ∧ Below w.heap.size w w' := by
 by_cases f1 : (Pl.wantsF u ws).1 = 0
 · obtain ⟨hz, hu, -⟩ := Pl.wantsF_ne f1
   by_cases f2 : (Pl.chosF u ot).1 = 0
   · exact matL_c RG u ws ot a b o c d m w h1 h2 h3 E (Pl.uniF_ne hu) hz (Pl.chosF_ne f2)
   · exact matL_b RG u ws ot a b o c d m w h1 h2 h3 E _ _ f2 (Pl.uniF_ne hu) hz rfl
 · exact matL_a RG u ws ot a b o c d m w h1 h2 h3 E _ _ _ _ f1 rfl rfl
end Go.Proofs.YtolfgcoalihmgaaGreatDoor
