/- Texts joined. -/
import Derived.Test.YtolfgcoalihmgaaGreatDoorZMOf
import Derived.Test.YtolfgcoalihmgaaGreatDoorZMEa
import Derived.Test.YtolfgcoalihmgaaGreatDoorZMQi
namespace Go.Proofs.YtolfgcoalihmgaaGreatDoor
section
open Go.RowKit
set_option maxRecDepth 100000 in
set_option maxHeartbeats 4000000 in
theorem rUni_any (u : Pl.Uni) (a : Option Addr) (c : Nat) (w : World) (h : UIn w u a c) :
 Calls Tryz.prog 37 #[.agg #[.slice a u.length c]] w fun e w' => e = .returned (fltV (Pl.uniF u)) ∧ Below w.heap.size w w' := by
 have hm := h.len
 obtain ⟨F, hF⟩ : ∃ F, Pl.uniF u = F := ⟨_, rfl⟩
 rw [hF]
 have H := Hd h
 clear h
 by_cases hn : 6 < u.length
 · have E : F = (2, -1) := by rw [← hF]; unfold Pl.uniF; rw [if_pos hn]
   subst E
   have t1 : decide ((6 : Int) < (u.length : Int)) = true := by simp; omega
   clear hF hn
   go_enter Tryz.func37, Tryz.ntmps37
   have B0 := brl w
   go_wp2_with fail
   refine (rfault_any 2 (-1) _).mono ?_
   rintro e w1 ⟨rfl, hb⟩
   have B1 := bcm w hb
   have q1 : w.heap.size + 2 ≤ w1.heap.size := qle hb
   replace H := Hd (((H.out.al _).al _).bl hb)
   have X := (((bkn w.heap.size [.slice a u.length c] 56).alloc _)).bw hb
   have R := ((bkn (w.heap.size + 1) [.int .i64 0, .int .i64 0] 27)).bw hb
   clear hb
   have s1 := B1.size
   have ⟨Xc, Xf, Xl⟩ := X
   have ⟨Rc, Rf, Rl⟩ := R
   go_wp2_with fail
   have RN := ((R.st 0 (.int .i64 2)).st 1 (.int .i64 (-1)))
   obtain ⟨RNc, RNf, RNl⟩ := RN
   refine bodyPost_ret (v := .agg #[.int .i64 2, .int .i64 (-1)]) (by simp [results, Tryz.results37, go_sem, RNc]) rfl ⟨rfl, by go_grown⟩
 · have HF := Hd (show Pl.codeAt (Pl.uniI u) u.length 0 = F by rw [← hF]; unfold Pl.uniF; rw [if_neg hn])
   have t1 : decide ((6 : Int) < (u.length : Int)) = false := by simp; omega
   clear hF hn
   go_enter Tryz.func37, Tryz.ntmps37
   go_wp2_with fail
   go_loopw [3] (fun i wr => ∃ k : Nat, k ≤ u.length ∧ i = .int .i64 k ∧ Hid (Pl.codeAt (Pl.uniI u) u.length k = F) ∧ Below (w.heap.size + 2) ((w.alloc (.cells #[.slice a u.length c] 56)).alloc (.cells #[.int .i64 0, .int .i64 0] 27)) wr) (fun i _ => u.length - (intOf i).toNat)
   case atStart => exact ⟨0, Nat.zero_le _, rfl, HF, Below.refl _ _⟩
   case round =>
    obtain ⟨k, hk, rfl, hu, hb⟩ := hrel
    have HB := hb
    have B1 : Below w.heap.size w wr := bcall (by go_grown) hb (by simp)
    have q0 : w.heap.size + 2 ≤ wr.heap.size := qle hb
    have X : Bk wr w.heap.size [.slice a u.length c] := ((Bk.new (cs := [.slice a u.length c]) _ _ rfl).alloc _).below hb (by simp)
    have R : Bk wr (w.heap.size + 1) [.int .i64 0, .int .i64 0] := (Bk.new (cs := [.int .i64 0, .int .i64 0]) _ _ (by simp)).below hb (by simp)
    by_cases hlt2 : k < u.length
    · obtain ⟨b, off, rfl, hlt, hat⟩ := (H.out.bl B1).at (by omega)
      obtain ⟨a1, c1, I⟩ := hat k hlt2
      have HGO := Hd (Pl.codeAt_go hlt2 hu.out)
      have EI : Pl.uniI u k = Pl.relsC u.length u[k] := by unfold Pl.uniI; rw [dif_pos hlt2]
      have ⟨e0, G⟩ := I
      replace G := Hd G
      clear hat I
      have tz : decide (k < u.length) = true := by simp; omega
      have ty : decide ((k : Int) < (u.length : Int)) = true := by simp; omega
      obtain ⟨C, hC⟩ : ∃ C, Pl.relsC u.length u[k] = C := ⟨_, rfl⟩
      have HC := Hd hC
      rw [EI, hC] at HGO
      clear EI hC hu
      by_cases c0 : C = 0
      · subst c0
        have E := Hd (HGO.out.1 rfl)
        clear HGO
        generalize u[k] = l at *
        have ⟨Xc, Xf, Xl⟩ := X
        have ⟨Rc, Rf, Rl⟩ := R
        go_wp2_with fail
        refine wp_region_ord [0, 1, 2, 3, 4, 5, 6, 7, 8, 9] (by kernel_rfl) (by kernel_rfl) ?_
        have B2 : Below w.heap.size w wr.drew := by go_grown
        have q2 : wr.heap.size ≤ wr.drew.heap.size := by simp only [World.size_drew]; omega
        replace G := Hd (G.out.bl (Below.refl _ _).drew)
        replace X := X.drew
        replace R := R.drew
        replace HB := HB.drew
        replace e0 := (show (wr.drew).cell? ⟨b, off + k, none⟩ = some (.slice a1 l.length c1) from e0)
        replace hbl := (show b < (wr.drew).heap.size from hlt)
        clear Xc Xf Xl Rc Rf Rl
        generalize wr.drew = w2 at *
        have s2 := B2.size
        have ⟨Xc, Xf, Xl⟩ := X
        have ⟨Rc, Rf, Rl⟩ := R
        repeat (first | (refine wpI_rd rfl rfl ?_; go_big_quiet_step (fail); refine wpQuiet_nil ?_) | (refine wpI_skip rfl rfl ?_; try simp only [pts]))
        try simp only [pts]
        refine wpI_call (f := 85) rfl rfl rfl (by simp [go_sem]; rfl) ?_
        refine (rRels_any l a1 c1 u.length _ G.out (by omega) (by omega)).mono ?_
        rintro e w3 ⟨rfl, hb⟩
        rw [HC.out]
        have hbN : Below (w.heap.size + 2) _ w3 := bcall HB hb (by omega)
        refine ⟨_, rfl, hb, ?_⟩
        skip
        have B3 := bcm w hb
        have q3 : w2.heap.size ≤ w3.heap.size := qle hb
        replace G := Hd (G.out.bl hb)
        replace X := X.bw hb
        replace R := R.bw hb
        clear hb
        have s3 := B3.size
        clear Xc Xf Xl Rc Rf Rl
        have ⟨Xc, Xf, Xl⟩ := X
        have ⟨Rc, Rf, Rl⟩ := R
        try simp only [pts]
        clear e0 HB
        repeat (first | (refine wpI_rd rfl rfl ?_; go_big_quiet_step (fail); refine wpQuiet_nil ?_) | (refine wpI_skip rfl rfl ?_; try simp only [pts]))
        try simp only [pts]
        refine wpI_nil ?_
        try simp only [pts]
        go_wp2_with fail
        go_roundw
        case rel => exact ⟨k + 1, hlt2, by go_num, E, hbN⟩
        case measure => simp [intOf]; omega
      · have E := Hd (HGO.out.2 c0)
        have t2 := beqF c0
        have t3 := bneT c0
        clear HGO c0
        generalize u[k] = l at *
        have ⟨Xc, Xf, Xl⟩ := X
        have ⟨Rc, Rf, Rl⟩ := R
        go_wp2_with fail
        refine wp_region_ord [0, 1, 2, 3, 4, 5, 6, 7, 8, 9] (by kernel_rfl) (by kernel_rfl) ?_
        have B2 : Below w.heap.size w wr.drew := by go_grown
        have q2 : wr.heap.size ≤ wr.drew.heap.size := by simp only [World.size_drew]; omega
        replace G := Hd (G.out.bl (Below.refl _ _).drew)
        replace X := X.drew
        replace R := R.drew
        replace HB := HB.drew
        replace e0 := (show (wr.drew).cell? ⟨b, off + k, none⟩ = some (.slice a1 l.length c1) from e0)
        replace hbl := (show b < (wr.drew).heap.size from hlt)
        clear Xc Xf Xl Rc Rf Rl
        generalize wr.drew = w2 at *
        have s2 := B2.size
        have ⟨Xc, Xf, Xl⟩ := X
        have ⟨Rc, Rf, Rl⟩ := R
        repeat (first | (refine wpI_rd rfl rfl ?_; go_big_quiet_step (fail); refine wpQuiet_nil ?_) | (refine wpI_skip rfl rfl ?_; try simp only [pts]))
        try simp only [pts]
        refine wpI_call (f := 85) rfl rfl rfl (by simp [go_sem]; rfl) ?_
        refine (rRels_any l a1 c1 u.length _ G.out (by omega) (by omega)).mono ?_
        rintro e w3 ⟨rfl, hb⟩
        rw [HC.out]
        have hbN : Below (w.heap.size + 2) _ w3 := bcall HB hb (by omega)
        refine ⟨_, rfl, hb, ?_⟩
        skip
        have B3 := bcm w hb
        have q3 : w2.heap.size ≤ w3.heap.size := qle hb
        replace G := Hd (G.out.bl hb)
        replace X := X.bw hb
        replace R := R.bw hb
        clear hb
        have s3 := B3.size
        clear Xc Xf Xl Rc Rf Rl
        have ⟨Xc, Xf, Xl⟩ := X
        have ⟨Rc, Rf, Rl⟩ := R
        try simp only [pts]
        clear e0 HB
        repeat (first | (refine wpI_rd rfl rfl ?_; go_big_quiet_step (fail); refine wpQuiet_nil ?_) | (refine wpI_skip rfl rfl ?_; try simp only [pts]))
        try simp only [pts]
        refine wpI_nil ?_
        try simp only [pts]
        go_wp2_with fail
        clear hbN
        refine (rfault_any C (k : Int) _).mono ?_
        rintro e w4 ⟨rfl, hb⟩
        have B4 := bcm w hb
        have q4 : w3.heap.size ≤ w4.heap.size := qle hb
        replace G := Hd (G.out.bl hb)
        replace X := X.bw hb
        replace R := R.bw hb
        clear hb
        have s4 := B4.size
        clear Xc Xf Xl Rc Rf Rl
        have ⟨Xc, Xf, Xl⟩ := X
        have ⟨Rc, Rf, Rl⟩ := R
        go_wp2_with fail
        have RN := ((R.st 0 (.int .i64 C)).st 1 (.int .i64 (k : Int)))
        obtain ⟨RNc, RNf, RNl⟩ := RN
        refine bodyPost_ret (v := .agg #[.int .i64 C, .int .i64 (k : Int)]) (by simp [results, Tryz.results37, go_sem, RNc]) rfl ⟨by rw [E.out], by go_grown⟩
    · have E := Hd (Pl.codeAt_end (by omega) hu.out)
      obtain ⟨Xc, Xf, Xl⟩ := X
      obtain ⟨Rc, Rf, Rl⟩ := R
      have t2 : decide ((k : Int) < (u.length : Int)) = false := by simp; omega
      have t3 : decide (k < u.length) = false := by simp; omega
      go_wp2_with fail
      refine bodyPost_ret (v := .agg #[.int .i64 0, .int .i64 0]) (by simp [results, Tryz.results37, go_sem, Rc]) rfl ⟨by rw [E.out], by go_grown⟩
end
section
open Go.RowKit
set_option maxRecDepth 100000 in
set_option maxHeartbeats 2000000 in
theorem sArgs_a (u : Pl.Uni) (ws : List Pl.Need) (a b : Option Addr) (c d : Nat) (w : World) (h1 : UIn w u a c) (h2 : NsIn w ws b d) (f1 f2 : Int) (hf : f1 ≠ 0) (e1 : Pl.uniF u = (f1, f2)) :
 Calls Tryz.prog 88 #[.agg #[.slice a u.length c], .slice b ws.length d] w fun e w' => e = .returned (fltV (f1, f2)) ∧ Below w.heap.size w w' := by
 have hm := h1.len
 have CA := Hd (fun (W : World) (g1 : UIn W u a c) => sUni_any u a c W g1)
 have CB := Hd (fun (W : World) (g1 : NsIn W ws b d) => sNeeds_any ws b d u.length W g1)
 have H := Hd h1
 have K := Hd h2
 rw [e1] at CA
 have u1 := bneT hf
 have u2 := beqF hf
 clear e1 hf
 simp only [fltV] at CA CB ⊢
 clear h1 h2
 go_enter Tryz.func88, Tryz.ntmps88
 have B0 := brl w
 go_wp2_with fail
 refine (CA.out _ (H.out.bl (by go_grown))).mono ?_
 rintro e w1 ⟨rfl, hb⟩
 have B1 := bcm w hb
 have q1 : w.heap.size + 2 ≤ w1.heap.size := qle hb
 replace H := Hd (((H.out.al _).al _).bl hb)
 replace K := Hd (((K.out.al _).al _).bl hb)
 have X := (((bkn w.heap.size [.slice a u.length c] 56).alloc _)).bw hb
 have R := ((bkn (w.heap.size + 1) [.int .i64 0, .int .i64 0] 27)).bw hb
 clear hb
 have s1 := B1.size
 have ⟨Xc, Xf, Xl⟩ := X
 have ⟨Rc, Rf, Rl⟩ := R
 go_wp2_with fail
 have RN := (((R.st 0 (.int .i64 f1)).st 1 (.int .i64 f2)).alloc (.cells #[.int .i64 f1, .int .i64 f2] 27))
 obtain ⟨RNc, RNf, RNl⟩ := RN
 refine bodyPost_ret (v := .agg #[.int .i64 f1, .int .i64 f2]) (by simp [results, Tryz.results88, go_sem, RNc]) rfl ⟨rfl, by go_grown⟩
set_option maxRecDepth 100000 in
set_option maxHeartbeats 2000000 in
theorem sArgs_b (u : Pl.Uni) (ws : List Pl.Need) (a b : Option Addr) (c d : Nat) (w : World) (h1 : UIn w u a c) (h2 : NsIn w ws b d) (f1 : Int) (hf : f1 ≠ 0) (e1 : Pl.uniF u = (0, 0)) (e2 : Pl.needsC u.length ws = f1) :
 Calls Tryz.prog 88 #[.agg #[.slice a u.length c], .slice b ws.length d] w fun e w' => e = .returned (fltV (f1, -2)) ∧ Below w.heap.size w w' := by
 have hm := h1.len
 have CA := Hd (fun (W : World) (g1 : UIn W u a c) => sUni_any u a c W g1)
 have CB := Hd (fun (W : World) (g1 : NsIn W ws b d) => sNeeds_any ws b d u.length W g1)
 have H := Hd h1
 have K := Hd h2
 rw [e1] at CA
 rw [e2] at CB
 have u1 := bneT hf
 have u2 := beqF hf
 clear e1 e2 hf
 simp only [fltV] at CA CB ⊢
 clear h1 h2
 go_enter Tryz.func88, Tryz.ntmps88
 have B0 := brl w
 go_wp2_with fail
 refine (CA.out _ (H.out.bl (by go_grown))).mono ?_
 rintro e w1 ⟨rfl, hb⟩
 have B1 := bcm w hb
 have q1 : w.heap.size + 2 ≤ w1.heap.size := qle hb
 replace H := Hd (((H.out.al _).al _).bl hb)
 replace K := Hd (((K.out.al _).al _).bl hb)
 have X := (((bkn w.heap.size [.slice a u.length c] 56).alloc _)).bw hb
 have R := ((bkn (w.heap.size + 1) [.int .i64 0, .int .i64 0] 27)).bw hb
 clear hb
 have s1 := B1.size
 have ⟨Xc, Xf, Xl⟩ := X
 have ⟨Rc, Rf, Rl⟩ := R
 go_wp2_with fail
 refine (CB.out _ (K.out.bl (by go_grown))).mono ?_
 rintro e w2 ⟨rfl, hb⟩
 have B2 := bcm w hb
 have q2 : w1.heap.size + 1 ≤ w2.heap.size := qle hb
 replace H := Hd ((H.out.al _).bl hb)
 replace K := Hd ((K.out.al _).bl hb)
 replace X := ((X.alloc _)).bw hb
 replace R := ((R.alloc _)).bw hb
 have Z := ((bkn w1.heap.size [.int .i64 0, .int .i64 0] 27)).bw hb
 clear hb
 have s2 := B2.size
 clear Xc Xf Xl Rc Rf Rl
 have ⟨Xc, Xf, Xl⟩ := X
 have ⟨Rc, Rf, Rl⟩ := R
 have ⟨Zc, Zf, Zl⟩ := Z
 go_wp2_with fail
 have RN := ((R.st 0 (.int .i64 f1)).st 1 (.int .i64 (-2)))
 obtain ⟨RNc, RNf, RNl⟩ := RN
 refine bodyPost_ret (v := .agg #[.int .i64 f1, .int .i64 (-2)]) (by simp [results, Tryz.results88, go_sem, RNc]) rfl ⟨rfl, by go_grown⟩
set_option maxRecDepth 100000 in
set_option maxHeartbeats 2000000 in
theorem sArgs_c (u : Pl.Uni) (ws : List Pl.Need) (a b : Option Addr) (c d : Nat) (w : World) (h1 : UIn w u a c) (h2 : NsIn w ws b d) (e1 : Pl.uniF u = (0, 0)) (e2 : Pl.needsC u.length ws = 0) :
 Calls Tryz.prog 88 #[.agg #[.slice a u.length c], .slice b ws.length d] w fun e w' => e = .returned (fltV (0, 0)) ∧ Below w.heap.size w w' := by
 have hm := h1.len
 have CA := Hd (fun (W : World) (g1 : UIn W u a c) => sUni_any u a c W g1)
 have CB := Hd (fun (W : World) (g1 : NsIn W ws b d) => sNeeds_any ws b d u.length W g1)
 have H := Hd h1
 have K := Hd h2
 rw [e1] at CA
 rw [e2] at CB
 clear e1 e2
 simp only [fltV] at CA CB ⊢
 clear h1 h2
 go_enter Tryz.func88, Tryz.ntmps88
 have B0 := brl w
 go_wp2_with fail
 refine (CA.out _ (H.out.bl (by go_grown))).mono ?_
 rintro e w1 ⟨rfl, hb⟩
 have B1 := bcm w hb
 have q1 : w.heap.size + 2 ≤ w1.heap.size := qle hb
 replace H := Hd (((H.out.al _).al _).bl hb)
 replace K := Hd (((K.out.al _).al _).bl hb)
 have X := (((bkn w.heap.size [.slice a u.length c] 56).alloc _)).bw hb
 have R := ((bkn (w.heap.size + 1) [.int .i64 0, .int .i64 0] 27)).bw hb
 clear hb
 have s1 := B1.size
 have ⟨Xc, Xf, Xl⟩ := X
 have ⟨Rc, Rf, Rl⟩ := R
 go_wp2_with fail
 refine (CB.out _ (K.out.bl (by go_grown))).mono ?_
 rintro e w2 ⟨rfl, hb⟩
 have B2 := bcm w hb
 have q2 : w1.heap.size + 1 ≤ w2.heap.size := qle hb
 replace H := Hd ((H.out.al _).bl hb)
 replace K := Hd ((K.out.al _).bl hb)
 replace X := ((X.alloc _)).bw hb
 replace R := ((R.alloc _)).bw hb
 have Z := ((bkn w1.heap.size [.int .i64 0, .int .i64 0] 27)).bw hb
 clear hb
 have s2 := B2.size
 clear Xc Xf Xl Rc Rf Rl
 have ⟨Xc, Xf, Xl⟩ := X
 have ⟨Rc, Rf, Rl⟩ := R
 have ⟨Zc, Zf, Zl⟩ := Z
 go_wp2_with fail
 have RN := ((R.st 0 (.int .i64 0)).st 1 (.int .i64 0))
 obtain ⟨RNc, RNf, RNl⟩ := RN
 refine bodyPost_ret (v := .agg #[.int .i64 0, .int .i64 0]) (by simp [results, Tryz.results88, go_sem, RNc]) rfl ⟨rfl, by go_grown⟩
theorem sArgs_any (u : Pl.Uni) (ws : List Pl.Need) (a b : Option Addr) (c d : Nat) (w : World) (h1 : UIn w u a c) (h2 : NsIn w ws b d) :
 Calls Tryz.prog 88 #[.agg #[.slice a u.length c], .slice b ws.length d] w fun e w' => e = .returned (fltV (Pl.wantsF u ws)) ∧ Below w.heap.size w w' := by
 unfold Pl.wantsF
 by_cases f1 : (Pl.uniF u).1 = 0
 · rw [if_neg (fun e => e f1)]
   by_cases f2 : Pl.needsC u.length ws = 0
   · rw [if_neg (fun e => e f2)]
     exact sArgs_c u ws a b c d w h1 h2 (Pl.uniF_ne f1) f2
   · rw [if_pos f2]
     exact sArgs_b u ws a b c d w h1 h2 _ f2 (Pl.uniF_ne f1) rfl
 · rw [if_pos f1]
   obtain ⟨X, hX⟩ : ∃ X, Pl.uniF u = X := ⟨_, rfl⟩
   obtain ⟨x1, x2⟩ := X
   rw [hX] at f1 ⊢
   exact sArgs_a u ws a b c d w h1 h2 x1 x2 f1 hX
set_option maxRecDepth 100000 in
set_option maxHeartbeats 2000000 in
theorem rWants_a (u : Pl.Uni) (ws : List Pl.Need) (a b : Option Addr) (c d : Nat) (w : World) (h1 : UIn w u a c) (h2 : NsIn w ws b d) (f1 f2 : Int) (hf : f1 ≠ 0) (e1 : Pl.uniF u = (f1, f2)) :
 Calls Tryz.prog 39 #[.agg #[.slice a u.length c], .slice b ws.length d] w fun e w' => e = .returned (fltV (f1, f2)) ∧ Below w.heap.size w w' := by
 have hm := h1.len
 have CA := Hd (fun (W : World) (g1 : UIn W u a c) => rUni_any u a c W g1)
 have CB := Hd (fun (W : World) (g1 : NsIn W ws b d) => rNeeds_any ws b d u.length W g1 (by omega) (by omega))
 have H := Hd h1
 have K := Hd h2
 rw [e1] at CA
 have u1 := bneT hf
 have u2 := beqF hf
 clear e1 hf
 simp only [fltV] at CA CB ⊢
 clear h1 h2
 go_enter Tryz.func39, Tryz.ntmps39
 have B0 := brl w
 go_wp2_with fail
 refine (CA.out _ (H.out.bl (by go_grown))).mono ?_
 rintro e w1 ⟨rfl, hb⟩
 have B1 := bcm w hb
 have q1 : w.heap.size + 2 ≤ w1.heap.size := qle hb
 replace H := Hd (((H.out.al _).al _).bl hb)
 replace K := Hd (((K.out.al _).al _).bl hb)
 have X := (((bkn w.heap.size [.slice a u.length c] 56).alloc _)).bw hb
 have R := ((bkn (w.heap.size + 1) [.int .i64 0, .int .i64 0] 27)).bw hb
 clear hb
 have s1 := B1.size
 have ⟨Xc, Xf, Xl⟩ := X
 have ⟨Rc, Rf, Rl⟩ := R
 go_wp2_with fail
 have RN := (((R.st 0 (.int .i64 f1)).st 1 (.int .i64 f2)).alloc (.cells #[.int .i64 f1, .int .i64 f2] 27))
 obtain ⟨RNc, RNf, RNl⟩ := RN
 refine bodyPost_ret (v := .agg #[.int .i64 f1, .int .i64 f2]) (by simp [results, Tryz.results39, go_sem, RNc]) rfl ⟨rfl, by go_grown⟩
set_option maxRecDepth 100000 in
set_option maxHeartbeats 2000000 in
theorem rWants_b (u : Pl.Uni) (ws : List Pl.Need) (a b : Option Addr) (c d : Nat) (w : World) (h1 : UIn w u a c) (h2 : NsIn w ws b d) (f1 : Int) (hf : f1 ≠ 0) (e1 : Pl.uniF u = (0, 0)) (e2 : Pl.needsC u.length ws = f1) :
 Calls Tryz.prog 39 #[.agg #[.slice a u.length c], .slice b ws.length d] w fun e w' => e = .returned (fltV (f1, -2)) ∧ Below w.heap.size w w' := by
 have hm := h1.len
 have CA := Hd (fun (W : World) (g1 : UIn W u a c) => rUni_any u a c W g1)
 have CB := Hd (fun (W : World) (g1 : NsIn W ws b d) => rNeeds_any ws b d u.length W g1 (by omega) (by omega))
 have H := Hd h1
 have K := Hd h2
 rw [e1] at CA
 rw [e2] at CB
 have u1 := bneT hf
 have u2 := beqF hf
 clear e1 e2 hf
 simp only [fltV] at CA CB ⊢
 clear h1 h2
 go_enter Tryz.func39, Tryz.ntmps39
 have B0 := brl w
 go_wp2_with fail
 refine (CA.out _ (H.out.bl (by go_grown))).mono ?_
 rintro e w1 ⟨rfl, hb⟩
 have B1 := bcm w hb
 have q1 : w.heap.size + 2 ≤ w1.heap.size := qle hb
 replace H := Hd (((H.out.al _).al _).bl hb)
 replace K := Hd (((K.out.al _).al _).bl hb)
 have X := (((bkn w.heap.size [.slice a u.length c] 56).alloc _)).bw hb
 have R := ((bkn (w.heap.size + 1) [.int .i64 0, .int .i64 0] 27)).bw hb
 clear hb
 have s1 := B1.size
 have ⟨Xc, Xf, Xl⟩ := X
 have ⟨Rc, Rf, Rl⟩ := R
 go_wp2_with fail
 refine (CB.out _ (K.out.bl (by go_grown))).mono ?_
 rintro e w2 ⟨rfl, hb⟩
 have B2 := bcm w hb
 have q2 : w1.heap.size + 1 ≤ w2.heap.size := qle hb
 replace H := Hd ((H.out.al _).bl hb)
 replace K := Hd ((K.out.al _).bl hb)
 replace X := ((X.alloc _)).bw hb
 replace R := ((R.alloc _)).bw hb
 have Z := ((bkn w1.heap.size [.int .i64 0, .int .i64 0] 27)).bw hb
 clear hb
 have s2 := B2.size
 clear Xc Xf Xl Rc Rf Rl
 have ⟨Xc, Xf, Xl⟩ := X
 have ⟨Rc, Rf, Rl⟩ := R
 have ⟨Zc, Zf, Zl⟩ := Z
 go_wp2_with fail
 refine (rfault_any f1 (-2) _).mono ?_
 rintro e w3 ⟨rfl, hb⟩
 have B3 := bcm w hb
 have q3 : w2.heap.size ≤ w3.heap.size := qle hb
 replace H := Hd (H.out.bl hb)
 replace K := Hd (K.out.bl hb)
 replace X := X.bw hb
 replace R := R.bw hb
 replace Z := Z.bw hb
 clear hb
 have s3 := B3.size
 clear Xc Xf Xl Rc Rf Rl Zc Zf Zl
 have ⟨Xc, Xf, Xl⟩ := X
 have ⟨Rc, Rf, Rl⟩ := R
 have ⟨Zc, Zf, Zl⟩ := Z
 go_wp2_with fail
 have RN := ((((R.fr w1.heap.size 0 (by omega) (.int .i64 f1)).fr w1.heap.size 1 (by omega) (.int .i64 (-2))).st 0 (.int .i64 f1)).st 1 (.int .i64 (-2)))
 obtain ⟨RNc, RNf, RNl⟩ := RN
 refine bodyPost_ret (v := .agg #[.int .i64 f1, .int .i64 (-2)]) (by simp [results, Tryz.results39, go_sem, RNc]) rfl ⟨rfl, by go_grown⟩
set_option maxRecDepth 100000 in
set_option maxHeartbeats 2000000 in
theorem rWants_c (u : Pl.Uni) (ws : List Pl.Need) (a b : Option Addr) (c d : Nat) (w : World) (h1 : UIn w u a c) (h2 : NsIn w ws b d) (e1 : Pl.uniF u = (0, 0)) (e2 : Pl.needsC u.length ws = 0) :
 Calls Tryz.prog 39 #[.agg #[.slice a u.length c], .slice b ws.length d] w fun e w' => e = .returned (fltV (0, 0)) ∧ Below w.heap.size w w' := by
 have hm := h1.len
 have CA := Hd (fun (W : World) (g1 : UIn W u a c) => rUni_any u a c W g1)
 have CB := Hd (fun (W : World) (g1 : NsIn W ws b d) => rNeeds_any ws b d u.length W g1 (by omega) (by omega))
 have H := Hd h1
 have K := Hd h2
 rw [e1] at CA
 rw [e2] at CB
 clear e1 e2
 simp only [fltV] at CA CB ⊢
 clear h1 h2
 go_enter Tryz.func39, Tryz.ntmps39
 have B0 := brl w
 go_wp2_with fail
 refine (CA.out _ (H.out.bl (by go_grown))).mono ?_
 rintro e w1 ⟨rfl, hb⟩
 have B1 := bcm w hb
 have q1 : w.heap.size + 2 ≤ w1.heap.size := qle hb
 replace H := Hd (((H.out.al _).al _).bl hb)
 replace K := Hd (((K.out.al _).al _).bl hb)
 have X := (((bkn w.heap.size [.slice a u.length c] 56).alloc _)).bw hb
 have R := ((bkn (w.heap.size + 1) [.int .i64 0, .int .i64 0] 27)).bw hb
 clear hb
 have s1 := B1.size
 have ⟨Xc, Xf, Xl⟩ := X
 have ⟨Rc, Rf, Rl⟩ := R
 go_wp2_with fail
 refine (CB.out _ (K.out.bl (by go_grown))).mono ?_
 rintro e w2 ⟨rfl, hb⟩
 have B2 := bcm w hb
 have q2 : w1.heap.size + 1 ≤ w2.heap.size := qle hb
 replace H := Hd ((H.out.al _).bl hb)
 replace K := Hd ((K.out.al _).bl hb)
 replace X := ((X.alloc _)).bw hb
 replace R := ((R.alloc _)).bw hb
 have Z := ((bkn w1.heap.size [.int .i64 0, .int .i64 0] 27)).bw hb
 clear hb
 have s2 := B2.size
 clear Xc Xf Xl Rc Rf Rl
 have ⟨Xc, Xf, Xl⟩ := X
 have ⟨Rc, Rf, Rl⟩ := R
 have ⟨Zc, Zf, Zl⟩ := Z
 go_wp2_with fail
 have RN := ((R.st 0 (.int .i64 0)).st 1 (.int .i64 0))
 obtain ⟨RNc, RNf, RNl⟩ := RN
 refine bodyPost_ret (v := .agg #[.int .i64 0, .int .i64 0]) (by simp [results, Tryz.results39, go_sem, RNc]) rfl ⟨rfl, by go_grown⟩
theorem rWants_any (u : Pl.Uni) (ws : List Pl.Need) (a b : Option Addr) (c d : Nat) (w : World) (h1 : UIn w u a c) (h2 : NsIn w ws b d) :
 Calls Tryz.prog 39 #[.agg #[.slice a u.length c], .slice b ws.length d] w fun e w' => e = .returned (fltV (Pl.wantsF u ws)) ∧ Below w.heap.size w w' := by
 unfold Pl.wantsF
 by_cases f1 : (Pl.uniF u).1 = 0
 · rw [if_neg (fun e => e f1)]
   by_cases f2 : Pl.needsC u.length ws = 0
   · rw [if_neg (fun e => e f2)]
     exact rWants_c u ws a b c d w h1 h2 (Pl.uniF_ne f1) f2
   · rw [if_pos f2]
     exact rWants_b u ws a b c d w h1 h2 _ f2 (Pl.uniF_ne f1) rfl
 · rw [if_pos f1]
   obtain ⟨X, hX⟩ : ∃ X, Pl.uniF u = X := ⟨_, rfl⟩
   obtain ⟨x1, x2⟩ := X
   rw [hX] at f1 ⊢
   exact rWants_a u ws a b c d w h1 h2 x1 x2 f1 hX
end
section
open Go.RowKit
namespace Pl
def chkF (u : Uni) (ws : List Need) (ch : List Int) : Int × Int := if (wantsF u ws).1 ≠ 0 then wantsF u ws else chosF u ch
def chkB (u : Uni) (ws : List Need) (ch : List Int) : Bool := if (chkF u ws ch).1 ≠ 0 then false else solB u ws ch
end Pl
set_option maxHeartbeats 2000000 in
theorem chk_a (u : Pl.Uni) (ws : List Pl.Need) (ch : List Int) (a b o : Option Addr) (c d m : Nat) (w : World) (h1 : UIn w u a c) (h2 : NsIn w ws b d) (h3 : Sl w o ch.length m 1 (intVals ch)) (f1 f2 : Int) (hf : f1 ≠ 0) (e1 : Pl.wantsF u ws = (f1, f2)) :
 Calls Tryz.prog 41 #[.agg #[.slice a u.length c], .slice b ws.length d, .slice o ch.length m] w fun e w' => e = .returned (.tuple #[.bool (Pl.chkB u ws ch), fltV (Pl.chkF u ws ch)]) ∧ Below w.heap.size w w' := by
 have E1 : Pl.chkF u ws ch = (f1, f2) := by unfold Pl.chkF; rw [e1, if_pos hf]
 have E2 : Pl.chkB u ws ch = false := by unfold Pl.chkB; rw [E1, if_pos hf]
 rw [E1, E2]
 have u1 := bneT hf
 have u2 := beqF hf
 clear hf
 have CA := Hd (fun (W : World) (g1 : UIn W u a c) (g2 : NsIn W ws b d) => sArgs_any u ws a b c d W g1 g2)
 rw [e1] at CA
 simp only [fltV] at CA
 have H := Hd h1
 have K := Hd h2
 have L := Hd h3
 clear h1 h2 h3 E1 E2 e1
 go_enter Tryz.func41, Tryz.ntmps41
 have B0 := brl w
 go_wp2_with fail
 refine (CA.out _ (H.out.bl (by go_grown)) (K.out.bl (by go_grown))).mono ?_
 rintro e w1 ⟨rfl, hb⟩
 have B1 := bcm w hb
 have q1 : w.heap.size + 2 ≤ w1.heap.size := qle hb
 replace H := Hd (((H.out.al _).al _).bl hb)
 replace K := Hd (((K.out.al _).al _).bl hb)
 replace L := Hd (((L.out.al _).al _).bl hb)
 have X := (((bkn w.heap.size [.slice a u.length c] 56).alloc _)).bw hb
 have R := ((bkn (w.heap.size + 1) [.int .i64 0, .int .i64 0] 27)).bw hb
 clear hb
 have s1 := B1.size
 have ⟨Xc, Xf, Xl⟩ := X
 have ⟨Rc, Rf, Rl⟩ := R
 go_wp2_with fail
 go_region
 go_wp2_with fail
 refine bodyPost_ret (v := .tuple #[.bool false, .agg #[.int .i64 f1, .int .i64 f2]]) (by simp [results, Tryz.results41, go_sem, Rc, Rl]) rfl ⟨rfl, by go_grown⟩
set_option maxHeartbeats 2000000 in
theorem chk_b (u : Pl.Uni) (ws : List Pl.Need) (ch : List Int) (a b o : Option Addr) (c d m : Nat) (w : World) (h1 : UIn w u a c) (h2 : NsIn w ws b d) (h3 : Sl w o ch.length m 1 (intVals ch)) (e1 : Pl.wantsF u ws = (0, 0)) (f1 f2 : Int) (hf : f1 ≠ 0) (e2 : Pl.chosF u ch = (f1, f2)) :
 Calls Tryz.prog 41 #[.agg #[.slice a u.length c], .slice b ws.length d, .slice o ch.length m] w fun e w' => e = .returned (.tuple #[.bool (Pl.chkB u ws ch), fltV (Pl.chkF u ws ch)]) ∧ Below w.heap.size w w' := by
 have E1 : Pl.chkF u ws ch = (f1, f2) := by unfold Pl.chkF; rw [e1, if_neg (by decide), e2]
 have E2 : Pl.chkB u ws ch = false := by unfold Pl.chkB; rw [E1, if_pos hf]
 rw [E1, E2]
 have u1 := bneT hf
 have u2 := beqF hf
 clear hf
 have CA := Hd (fun (W : World) (g1 : UIn W u a c) (g2 : NsIn W ws b d) => sArgs_any u ws a b c d W g1 g2)
 rw [e1] at CA
 simp only [fltV] at CA
 have CB := Hd (fun (W : World) (g1 : UIn W u a c) (g3 : Sl W o ch.length m 1 (intVals ch)) => sChos_any u ch a o c m W g1 g3)
 rw [e2] at CB
 simp only [fltV] at CB
 have H := Hd h1
 have K := Hd h2
 have L := Hd h3
 clear h1 h2 h3 E1 E2 e1 e2
 go_enter Tryz.func41, Tryz.ntmps41
 have B0 := brl w
 go_wp2_with fail
 refine (CA.out _ (H.out.bl (by go_grown)) (K.out.bl (by go_grown))).mono ?_
 rintro e w1 ⟨rfl, hb⟩
 have B1 := bcm w hb
 have q1 : w.heap.size + 2 ≤ w1.heap.size := qle hb
 replace H := Hd (((H.out.al _).al _).bl hb)
 replace K := Hd (((K.out.al _).al _).bl hb)
 replace L := Hd (((L.out.al _).al _).bl hb)
 have X := (((bkn w.heap.size [.slice a u.length c] 56).alloc _)).bw hb
 have R := ((bkn (w.heap.size + 1) [.int .i64 0, .int .i64 0] 27)).bw hb
 clear hb
 have s1 := B1.size
 have ⟨Xc, Xf, Xl⟩ := X
 have ⟨Rc, Rf, Rl⟩ := R
 go_wp2_with fail
 refine (CB.out _ (H.out.bl (by go_grown)) (L.out.bl (by go_grown))).mono ?_
 rintro e w2 ⟨rfl, hb⟩
 have B2 := bcm w hb
 have q2 : w1.heap.size + 1 ≤ w2.heap.size := qle hb
 replace H := Hd ((H.out.al _).bl hb)
 replace K := Hd ((K.out.al _).bl hb)
 replace L := Hd ((L.out.al _).bl hb)
 replace X := ((X.alloc _)).bw hb
 replace R := ((R.alloc _)).bw hb
 clear hb
 have s2 := B2.size
 clear Xc Xf Xl Rc Rf Rl
 have ⟨Xc, Xf, Xl⟩ := X
 have ⟨Rc, Rf, Rl⟩ := R
 go_wp2_with fail
 go_region
 go_wp2_with fail
 refine bodyPost_ret (v := .tuple #[.bool false, .agg #[.int .i64 f1, .int .i64 f2]]) (by simp [results, Tryz.results41, go_sem, Rc, Rl]) rfl ⟨rfl, by go_grown⟩
set_option maxHeartbeats 2000000 in
theorem chk_c (u : Pl.Uni) (ws : List Pl.Need) (ch : List Int) (a b o : Option Addr) (c d m : Nat) (w : World) (h1 : UIn w u a c) (h2 : NsIn w ws b d) (h3 : Sl w o ch.length m 1 (intVals ch)) (e1 : Pl.wantsF u ws = (0, 0)) (e2 : Pl.chosF u ch = (0, 0)) :
 Calls Tryz.prog 41 #[.agg #[.slice a u.length c], .slice b ws.length d, .slice o ch.length m] w fun e w' => e = .returned (.tuple #[.bool (Pl.chkB u ws ch), fltV (Pl.chkF u ws ch)]) ∧ Below w.heap.size w w' := by
 have E1 : Pl.chkF u ws ch = (0, 0) := by unfold Pl.chkF; rw [e1, if_neg (by decide), e2]
 have E2 : Pl.chkB u ws ch = Pl.solB u ws ch := by unfold Pl.chkB; rw [E1, if_neg (by decide)]
 rw [E1, E2]
 have CA := Hd (fun (W : World) (g1 : UIn W u a c) (g2 : NsIn W ws b d) => sArgs_any u ws a b c d W g1 g2)
 rw [e1] at CA
 simp only [fltV] at CA
 have CB := Hd (fun (W : World) (g1 : UIn W u a c) (g3 : Sl W o ch.length m 1 (intVals ch)) => sChos_any u ch a o c m W g1 g3)
 rw [e2] at CB
 simp only [fltV] at CB
 have OK := Hd (Pl.wantsF_ok.1 (show (Pl.wantsF u ws).1 = 0 by rw [e1]))
 have OC := Hd (Pl.chosF_ok.1 (show (Pl.chosF u ch).1 = 0 by rw [e2]))
 obtain ⟨bb, hbb⟩ : ∃ bb, Pl.solB u ws ch = bb := ⟨_, rfl⟩
 rw [hbb]
 replace hbb := Hd hbb
 have H := Hd h1
 have K := Hd h2
 have L := Hd h3
 clear h1 h2 h3 E1 E2 e1 e2
 go_enter Tryz.func41, Tryz.ntmps41
 have B0 := brl w
 go_wp2_with fail
 refine (CA.out _ (H.out.bl (by go_grown)) (K.out.bl (by go_grown))).mono ?_
 rintro e w1 ⟨rfl, hb⟩
 have B1 := bcm w hb
 have q1 : w.heap.size + 2 ≤ w1.heap.size := qle hb
 replace H := Hd (((H.out.al _).al _).bl hb)
 replace K := Hd (((K.out.al _).al _).bl hb)
 replace L := Hd (((L.out.al _).al _).bl hb)
 have X := (((bkn w.heap.size [.slice a u.length c] 56).alloc _)).bw hb
 have R := ((bkn (w.heap.size + 1) [.int .i64 0, .int .i64 0] 27)).bw hb
 clear hb
 have s1 := B1.size
 have ⟨Xc, Xf, Xl⟩ := X
 have ⟨Rc, Rf, Rl⟩ := R
 go_wp2_with fail
 refine (CB.out _ (H.out.bl (by go_grown)) (L.out.bl (by go_grown))).mono ?_
 rintro e w2 ⟨rfl, hb⟩
 have B2 := bcm w hb
 have q2 : w1.heap.size + 1 ≤ w2.heap.size := qle hb
 replace H := Hd ((H.out.al _).bl hb)
 replace K := Hd ((K.out.al _).bl hb)
 replace L := Hd ((L.out.al _).bl hb)
 replace X := ((X.alloc _)).bw hb
 replace R := ((R.alloc _)).bw hb
 clear hb
 have s2 := B2.size
 clear Xc Xf Xl Rc Rf Rl
 have ⟨Xc, Xf, Xl⟩ := X
 have ⟨Rc, Rf, Rl⟩ := R
 go_wp2_with fail
 refine (open_any u ws a b c d _ (H.out.bl (by go_grown)) (K.out.bl (by go_grown)) OK.out.1 OK.out.2).mono ?_
 rintro e w3 ⟨o1, k1, o2, k2, rfl, PI, hb⟩
 have B3 := bcm w hb
 have q3 : w2.heap.size + 1 ≤ w3.heap.size := qle hb
 replace H := Hd ((H.out.al _).bl hb)
 replace K := Hd ((K.out.al _).bl hb)
 replace L := Hd ((L.out.al _).bl hb)
 replace X := ((X.alloc _)).bw hb
 replace R := ((R.alloc _)).bw hb
 clear hb
 have s3 := B3.size
 clear Xc Xf Xl Rc Rf Rl
 have ⟨Xc, Xf, Xl⟩ := X
 have ⟨Rc, Rf, Rl⟩ := R
 replace PI := Hd PI
 go_wp2_with fail
 refine (solved_any u ws ch o1 o2 o k1 k2 m _ _ PI.out L.out OK.out.1 OK.out.2 OC.out).mono ?_
 rintro e w4 ⟨rfl, hb⟩
 rw [hbb.out]
 have B4 := bcm w hb
 have q4 : w3.heap.size ≤ w4.heap.size := qle hb
 replace H := Hd (H.out.bl hb)
 replace K := Hd (K.out.bl hb)
 replace L := Hd (L.out.bl hb)
 replace X := X.bw hb
 replace R := R.bw hb
 clear hb
 have s4 := B4.size
 clear Xc Xf Xl Rc Rf Rl
 have ⟨Xc, Xf, Xl⟩ := X
 have ⟨Rc, Rf, Rl⟩ := R
 go_wp2_with fail
 refine bodyPost_ret (v := .tuple #[.bool bb, .agg #[.int .i64 0, .int .i64 0]]) (by simp [results, Tryz.results41, go_sem, Rc]) rfl ⟨rfl, by go_grown⟩
theorem Check_any (u : Pl.Uni) (ws : List Pl.Need) (ch : List Int) (a b o : Option Addr) (c d m : Nat) (w : World) (h1 : UIn w u a c) (h2 : NsIn w ws b d) (h3 : Sl w o ch.length m 1 (intVals ch)) :
 Calls Tryz.prog 41 #[.agg #[.slice a u.length c], .slice b ws.length d, .slice o ch.length m] w fun e w' => e = .returned (.tuple #[.bool (Pl.chkB u ws ch), fltV (Pl.chkF u ws ch)]) ∧ Below w.heap.size w w' := by
 by_cases f1 : (Pl.wantsF u ws).1 = 0
 · by_cases f2 : (Pl.chosF u ch).1 = 0
   · exact chk_c u ws ch a b o c d m w h1 h2 h3 (Pl.wantsF_ne f1).1 (Pl.chosF_ne f2)
   · exact chk_b u ws ch a b o c d m w h1 h2 h3 (Pl.wantsF_ne f1).1 _ _ f2 rfl
 · exact chk_a u ws ch a b o c d m w h1 h2 h3 _ _ f1 rfl
end
end Go.Proofs.YtolfgcoalihmgaaGreatDoor
