/- Contract: the next version, by the program. -/
import Derived.Test.YtolfgcoalihmgaaGreatDoorZMBf
import Derived.Test.YtolfgcoalihmgaaGreatDoorZMBj
import Derived.Test.YtolfgcoalihmgaaGreatDoorZMKb
import Derived.Test.YtolfgcoalihmgaaGreatDoorZMKd
import Derived.Test.YtolfgcoalihmgaaGreatDoorZMKe
import Derived.Test.YtolfgcoalihmgaaGreatDoorZMPo
import Derived.Test.YtolfgcoalihmgaaGreatDoorZMPq
import Derived.Test.YtolfgcoalihmgaaGreatDoorYBj
import Derived.Test.YtolfgcoalihmgaaGreatDoorYKn
namespace Go.Proofs.YtolfgcoalihmgaaGreatDoor
open Go.RowKit
namespace Pl
def nextF (v : Ver) : Int × Int := if (vrF v).1 ≠ 0 then vrF v else if (vrF (verNext v)).1 ≠ 0 then (10, -1) else (0, 0)
def nextV (v : Ver) : Ver := if (nextF v).1 ≠ 0 then Ver.zero else verNext v
end Pl
set_option maxHeartbeats 2000000 in
theorem Next_bad (v : Pl.Ver) (a : Option Addr) (c : Nat) (w : World) (h : VIn w v a c) (hbad : (Pl.vrF v).1 ≠ 0) :
 Calls Tryz.prog 16 #[verV v a c] w (RVerF (Pl.nextV v) (Pl.nextF v) w) := by
 have H := Lib.hid h
 have E : Pl.nextF v = Pl.vrF v := by unfold Pl.nextF; rw [if_pos hbad]
 have E2 : Pl.nextV v = Pl.Ver.zero := by unfold Pl.nextV; rw [E, if_pos hbad]
 rw [E, E2]
 obtain ⟨F, hF⟩ : ∃ F, Pl.vrF v = F := ⟨_, rfl⟩
 have HF := Lib.hid hF
 rw [hF] at hbad ⊢
 obtain ⟨f1, f2⟩ := F
 have u1 := bneT hbad
 have u2 := beqF hbad
 clear hbad hF E E2 h
 go_enter Tryz.func16, Tryz.ntmps16
 go_wp2_with fail
 refine (Validate_any v a c _ (H.out.below (by go_grown) (Nat.le_refl _))).mono ?_
 rw [HF.out]
 rintro e w1 ⟨rfl, hb1⟩
 have B1 : Below w.heap.size w w1 := bcall (by go_grown) hb1 (by go_size)
 have RB : Blk w1 (w.heap.size + 1) [.int .i64 0, .int .i64 0, .int .i64 0, .slice none 0 0] := ((Blk.new _ _ 24 (by simp)).alloc _).below hb1 (by simp)
 have FB : Box2 w1 (w.heap.size + 1 + 1) (.int .i64 0) (.int .i64 0) := (Box2.newAt (by simp)).below hb1 (by simp)
 have s1 := B1.size
 have z3 : w.heap.size + 3 ≤ w1.heap.size := by have h := hb1.size; simp at h; omega
 clear hb1
 go_wp2_with fail
 have ZB := (RB.alloc (.cells #[.int .i64 f1, .int .i64 f2] 27)).drew
 have baB := (FB.alloc (.cells #[.int .i64 f1, .int .i64 f2] 27)).drew
 have bbB := (Box2.new w1 (.int .i64 f1) (.int .i64 f2) 27).drew
 have BW := (B1.alloc s1 (.cells #[.int .i64 f1, .int .i64 f2] 27)).drew
 have nz : w1.heap.size ≠ w.heap.size + 1 := by omega
 clear RB FB
 refine wp_region_ordD [(2, w.heap.size + 1), (3, w.heap.size + 1 + 1)] [0, 1, 2, 3] (by kernel_rfl) (by kernel_rfl) ?_
 generalize (w1.alloc (.cells #[.int .i64 f1, .int .i64 f2] 27)).drew = W at *
 have Z0 := ZB.c 0 _ rfl
 have Zf0 := ZB.f 0 (Nat.le_of_ble_eq_true rfl)
 have Z1 := ZB.c 1 _ rfl
 have Zf1 := ZB.f 1 (Nat.le_of_ble_eq_true rfl)
 have Z2 := ZB.c 2 _ rfl
 have Zf2 := ZB.f 2 (Nat.le_of_ble_eq_true rfl)
 have Z3 := ZB.c 3 _ rfl
 have Zf3 := ZB.f 3 (Nat.le_of_ble_eq_true rfl)
 have Zl := ZB.lt
 obtain ⟨ba0, ba1, baf, bag, bal⟩ := baB
 obtain ⟨bb0, bb1, bbf, bbg, bbl⟩ := bbB
 repeat (refine wpD_pure rfl rfl ?_; go_big_quiet_step (fail); refine wpQuiet_nil ?_)
 refine wpD_rd [w.heap.size + 1] (by kernel_rfl) rfl rfl ?_; go_big_quiet_step (fail); refine wpQuiet_nil ?_
 try simp only [Act.put, List.setIfInBounds_toArray, List.set_cons_zero, List.set_cons_succ]
 refine wpD_st rfl rfl rfl (w' := W) (by simp [go_sem, Z0, Z1, Z2, Z3, Zf0, Zf1, Zf2, Zf3]; simp [setCell_id, Z0, Z1, Z2, Z3]) (ExtD.refl _ _) ?_
 try simp only [Act.put]
 refine wpD_st rfl rfl rfl (by simp [go_sem, ba0, ba1, baf, bag]; rfl) (((ExtD.refl _ _).setCell (by exact List.mem_singleton.2 rfl) _).setCell (by exact List.mem_singleton.2 rfl) _) ?_
 refine wpD_nil ?_
 try simp only [Act.put]
 go_wp2_with fail
 refine bodyPost_ret (v := .tuple #[.agg #[.int .i64 0, .int .i64 0, .int .i64 0, .slice none 0 0], .agg #[.int .i64 f1, .int .i64 f2]]) (by simp [results, Tryz.results16, go_sem, Z0, Z1, Z2, Z3, ba0, ba1]) rfl ⟨none, 0, rfl, VIn.zero _, by go_grown⟩
namespace Pl
theorem next_strs (v : Ver) : strVals (verNext v).pre = strVals v.pre ++ [.string zeroId] := strVals_append _ _
theorem next_yes {v : Ver} (h : vrF v = (0, 0)) (h2 : vrF (verNext v) = (0, 0)) : nextV v = verNext v ∧ nextF v = (0, 0) := by
 have e : nextF v = (0, 0) := by unfold nextF; rw [if_neg (by rw [h]; decide), if_neg (by rw [h2]; decide)]
 exact ⟨by unfold nextV; rw [e, if_neg (by decide)], e⟩
theorem next_no {v : Ver} (h : vrF v = (0, 0)) (h2 : (vrF (verNext v)).1 ≠ 0) : nextV v = Ver.zero ∧ nextF v = (10, -1) := by
 have e : nextF v = (10, -1) := by unfold nextF; rw [if_neg (by rw [h]; decide), if_pos h2]
 exact ⟨by unfold nextV; rw [e, if_pos (by decide)], e⟩
end Pl
set_option maxHeartbeats 8000000 in
theorem Next_good (v : Pl.Ver) (a : Option Addr) (c : Nat) (w : World) (h : VIn w v a c) (ok : v.Ok) :
 Calls Tryz.prog 16 #[verV v a c] w (RVerF (Pl.nextV v) (Pl.nextF v) w) := by
 have H := Lib.hid h
 have hn := ok.n
 have hp := Pl.inT ok.m3
 have hss := h.ss
 have HF := Lib.hid (Pl.vrF_ok ok)
 clear h ok
 have HN := Lib.hid (Pl.vrF_cases (Pl.verNext v))
 by_cases p1 : v.pre.length = 0
 · have q1 : ((v.pre.length : Int) == 0) = true := beqT (by omega)
   have HV := Lib.hid (show ∀ o c, verV (Pl.verNext v) o c = .agg #[.int .i64 v.maj, .int .i64 v.min, .int .i64 (v.pat + 1), .slice o (v.pre.length + 1) c] by intro o c; unfold Pl.verNext; simp [verV, p1])
   clear p1
   go_enter Tryz.func16, Tryz.ntmps16
   go_wp2_with fail
   refine (Validate_any v a c _ (H.out.below (by go_grown) (Nat.le_refl _))).mono ?_
   rw [HF.out]
   rintro e w1 ⟨rfl, hb1⟩
   have B1 : Below w.heap.size w w1 := bcall (by go_grown) hb1 (by go_size)
   have VB : Blk w1 w.heap.size [.int .i64 v.maj, .int .i64 v.min, .int .i64 v.pat, .slice a v.pre.length c] := (((Blk.new _ _ 24 (by simp)).alloc _).alloc _).below hb1 (by go_size)
   have RB : Blk w1 (w.heap.size + 1) [.int .i64 0, .int .i64 0, .int .i64 0, .slice none 0 0] := ((Blk.new _ _ 24 (by simp)).alloc _).below hb1 (by simp)
   have FB : Box2 w1 (w.heap.size + 1 + 1) (.int .i64 0) (.int .i64 0) := (Box2.newAt (by simp)).below hb1 (by simp)
   have z3 : w.heap.size + 3 ≤ w1.heap.size := by have h := hb1.size; simp at h; omega
   clear hb1
   have e0 := VB.c 0 _ rfl; have e1 := VB.c 1 _ rfl; have e2 := VB.c 2 _ rfl; have e3 := VB.c 3 _ rfl; have e4 := VB.f 0 (by simp); have e5 := VB.f 1 (by simp); have e6 := VB.f 2 (by simp); have e7 := VB.f 3 (by simp); have e8 := VB.lt
   go_wp2_with fail
   refine (Clone_any v.pre a c _ (H.out.sl.below (B := w.heap.size) (by go_grown) (Nat.le_refl _)) (by omega)).mono ?_
   rintro e w2 ⟨o2, c2, rfl, own2, hb2⟩
   simp only [World.size_alloc, World.size_setCell] at own2
   have B2 : Below w.heap.size w w2 := bcall (by go_grown) hb2 (by simp; omega)
   have VB2 : Blk w2 w.heap.size [.int .i64 v.maj, .int .i64 v.min, .int .i64 (v.pat + 1), .slice a v.pre.length c] := ((VB.set (k := 2) (by simp) (.int .i64 (v.pat + 1))).alloc _).below hb2 (by simp; omega)
   have RB2 := ((RB.far (a := ⟨w.heap.size, 2, none⟩) (by dsimp only; omega) (.int .i64 (v.pat + 1))).alloc (.cells #[.int .i64 0, .int .i64 0] 27)).below hb2 (by simp; omega)
   have FB2 := ((FB.far (a := ⟨w.heap.size, 2, none⟩) (by dsimp only; omega) (.int .i64 (v.pat + 1))).alloc (.cells #[.int .i64 0, .int .i64 0] 27)).below hb2 (by simp; omega)
   have z4 : w1.heap.size + 1 ≤ w2.heap.size := by have h := hb2.size; simp at h; omega
   clear hb2 VB RB FB
   clear e0 e1 e2 e3 e4 e5 e6 e7 e8
   go_wp2_with (at_builtin; go_loud (refine ap1 (by rfl) (by rfl) Tryz.tStrs (Below.refl (w1.heap.size + 1) _) (by rfl) own2 (m := 1) (C := [.string Pl.zeroId]) (by rfl) (by rfl) (by rfl) (by omega) z4 ?_); intro v3 w3 own3 b3 s3; obtain ⟨o3, c3, rfl⟩ := own_slice own3; have B3 : Below w.heap.size w w3 := bcall B2 b3 (by omega); have VB3 := VB2.below b3 (by omega); have RB3 := RB2.below b3 (by omega); have FB3 := FB2.below b3 (by omega); have h3 := VB3.c 3 _ rfl; have h3f := VB3.f 3 (by simp); have h3l := VB3.lt; have VB := VB3.set (k := 3) (by simp) (.slice o3 (v.pre.length + 1) c3); clear VB2 RB2 FB2 b3; have e0 := VB.c 0 _ rfl; have e1 := VB.c 1 _ rfl; have e2 := VB.c 2 _ rfl; have e3 := VB.c 3 _ rfl; have e4 := VB.f 0 (by simp); have e5 := VB.f 1 (by simp); have e6 := VB.f 2 (by simp); have e7 := VB.f 3 (by simp); have e8 := VB.lt)
   have own4 := ownsRow_far own3 (a := ⟨w.heap.size, 3, none⟩) (by show w.heap.size < w1.heap.size + 1; omega) (.slice o3 (v.pre.length + 1) c3)
   have RB4 := RB3.far (a := ⟨w.heap.size, 3, none⟩) (by dsimp only; omega) (.slice o3 (v.pre.length + 1) c3)
   have FB4 := FB3.far (a := ⟨w.heap.size, 3, none⟩) (by dsimp only; omega) (.slice o3 (v.pre.length + 1) c3)
   have B4 : Below w.heap.size w (w3.setCell ⟨w.heap.size, 3, none⟩ (.slice o3 (v.pre.length + 1) c3)) := B3.setCell (Nat.le_refl _) _
   have ct := Validate_any (Pl.verNext v) o3 c3 _ (VIn.own (Pl.next_len v) (by rw [Pl.next_strs]; exact own4) (Pl.next_ss hss))
   rw [HV.out] at ct
   rcases HN.out with ⟨hn2, -⟩ | hn2
   · have H0 := Lib.hid hn2
     rw [hn2] at ct
     clear hn2
     refine ct.mono ?_
     rintro e w5 ⟨rfl, hb5⟩
     have B5 : Below w.heap.size w w5 := bcall B4 hb5 (by rw [World.size_setCell]; omega)
     have own5 := ownsRow_below own4 hb5 (Nat.le_refl _)
     have RB := RB4.below hb5 (by rw [World.size_setCell]; omega)
     have RB5 := RB
     have FB5 := FB4.below hb5 (by rw [World.size_setCell]; omega)
     have VB5 := VB.below hb5 (by rw [World.size_setCell]; omega)
     have z6 : w3.heap.size ≤ w5.heap.size := by have h := hb5.size; rwa [World.size_setCell] at h
     clear hb5 VB RB4 FB4 RB3 FB3 VB3 ct own4 own3 own2 h3 h3f h3l
     clear e0 e1 e2 e3 e4 e5 e6 e7 e8
     have VB := VB5
     have e0 := VB.c 0 _ rfl; have e1 := VB.c 1 _ rfl; have e2 := VB.c 2 _ rfl; have e3 := VB.c 3 _ rfl; have e4 := VB.f 0 (by simp); have e5 := VB.f 1 (by simp); have e6 := VB.f 2 (by simp); have e7 := VB.f 3 (by simp); have e8 := VB.lt
     have g0 := RB.c 0 _ rfl; have g1 := RB.c 1 _ rfl; have g2 := RB.c 2 _ rfl; have g3 := RB.c 3 _ rfl; have g4 := RB.f 0 (by simp); have g5 := RB.f 1 (by simp); have g6 := RB.f 2 (by simp); have g7 := RB.f 3 (by simp); have g8 := RB.lt
     obtain ⟨k0, k1, k2, k3, k4⟩ := FB5
     go_wp2_with fail
     have FB5 := Box2.mk k0 k1 k2 k3 k4
     have RB6 := ((((((RB5.set (k := 0) (by simp) (.int .i64 v.maj)).set (k := 1) (by simp) (.int .i64 v.min)).set (k := 2) (by simp) (.int .i64 (v.pat + 1))).set (k := 3) (by simp) (.slice o3 (v.pre.length + 1) c3)).far (a := ⟨w.heap.size + 1 + 1, 0, none⟩) (by dsimp only; omega) (.int .i64 0)).far (a := ⟨w.heap.size + 1 + 1, 1, none⟩) (by dsimp only; omega) (.int .i64 0))
     have FB6 := (((((FB5.far (a := ⟨w.heap.size + 1, 0, none⟩) (by dsimp only; omega) (.int .i64 v.maj)).far (a := ⟨w.heap.size + 1, 1, none⟩) (by dsimp only; omega) (.int .i64 v.min)).far (a := ⟨w.heap.size + 1, 2, none⟩) (by dsimp only; omega) (.int .i64 (v.pat + 1))).far (a := ⟨w.heap.size + 1, 3, none⟩) (by dsimp only; omega) (.slice o3 (v.pre.length + 1) c3)).set (.int .i64 0) (.int .i64 0))
     have r0 := RB6.c 0 _ rfl
     have r1 := RB6.c 1 _ rfl
     have r2 := RB6.c 2 _ rfl
     have r3 := RB6.c 3 _ rfl
     obtain ⟨r4, r5, -, -, -⟩ := FB6
     refine bodyPost_ret (v := .tuple #[.agg #[.int .i64 v.maj, .int .i64 v.min, .int .i64 (v.pat + 1), .slice o3 (v.pre.length + 1) c3], .agg #[.int .i64 0, .int .i64 0]]) (by simp [results, Tryz.results16, go_sem, r0, r1, r2, r3, r4, r5]) rfl ?_
     obtain ⟨E1, E2⟩ := Pl.next_yes HF.out H0.out
     rw [E1, E2]
     refine ⟨o3, c3, ?_, VIn.own (base := w1.heap.size + 1) (Pl.next_len v) ?_ (Pl.next_ss hss), by go_grown⟩
     · rw [HV.out]
     · rw [Pl.next_strs]
       exact ownsRow_far (ownsRow_far (ownsRow_far (ownsRow_far (ownsRow_far (ownsRow_far own5 (by dsimp only; omega) _) (by dsimp only; omega) _) (by dsimp only; omega) _) (by dsimp only; omega) _) (by dsimp only; omega) _) (by dsimp only; omega) _
   · have H0 := Lib.hid hn2
     obtain ⟨G, hG⟩ : ∃ G, Pl.vrF (Pl.verNext v) = G := ⟨_, rfl⟩
     rw [hG] at ct hn2
     obtain ⟨f1, f2⟩ := G
     have u1 := bneT hn2
     have u2 := beqF hn2
     clear hn2 hG
     refine ct.mono ?_
     rintro e w5 ⟨rfl, hb5⟩
     have B5 : Below w.heap.size w w5 := bcall B4 hb5 (by rw [World.size_setCell]; omega)
     have own5 := ownsRow_below own4 hb5 (Nat.le_refl _)
     have RB := RB4.below hb5 (by rw [World.size_setCell]; omega)
     have RB5 := RB
     have FB5 := FB4.below hb5 (by rw [World.size_setCell]; omega)
     have VB5 := VB.below hb5 (by rw [World.size_setCell]; omega)
     have z6 : w3.heap.size ≤ w5.heap.size := by have h := hb5.size; rwa [World.size_setCell] at h
     clear hb5 VB RB4 FB4 RB3 FB3 VB3 ct own4 own3 own2 h3 h3f h3l
     clear e0 e1 e2 e3 e4 e5 e6 e7 e8
     have VB := VB5
     have e0 := VB.c 0 _ rfl; have e1 := VB.c 1 _ rfl; have e2 := VB.c 2 _ rfl; have e3 := VB.c 3 _ rfl; have e4 := VB.f 0 (by simp); have e5 := VB.f 1 (by simp); have e6 := VB.f 2 (by simp); have e7 := VB.f 3 (by simp); have e8 := VB.lt
     have g0 := RB.c 0 _ rfl; have g1 := RB.c 1 _ rfl; have g2 := RB.c 2 _ rfl; have g3 := RB.c 3 _ rfl; have g4 := RB.f 0 (by simp); have g5 := RB.f 1 (by simp); have g6 := RB.f 2 (by simp); have g7 := RB.f 3 (by simp); have g8 := RB.lt
     obtain ⟨k0, k1, k2, k3, k4⟩ := FB5
     go_wp2_with fail
     have FB5 := Box2.mk k0 k1 k2 k3 k4
     have RB6 := ((((((RB5.set (k := 0) (by simp) (.int .i64 0)).set (k := 1) (by simp) (.int .i64 0)).set (k := 2) (by simp) (.int .i64 0)).set (k := 3) (by simp) (.slice none 0 0)).far (a := ⟨w.heap.size + 1 + 1, 0, none⟩) (by dsimp only; omega) (.int .i64 10)).far (a := ⟨w.heap.size + 1 + 1, 1, none⟩) (by dsimp only; omega) (.int .i64 (-1)))
     have FB6 := (((((FB5.far (a := ⟨w.heap.size + 1, 0, none⟩) (by dsimp only; omega) (.int .i64 0)).far (a := ⟨w.heap.size + 1, 1, none⟩) (by dsimp only; omega) (.int .i64 0)).far (a := ⟨w.heap.size + 1, 2, none⟩) (by dsimp only; omega) (.int .i64 0)).far (a := ⟨w.heap.size + 1, 3, none⟩) (by dsimp only; omega) (.slice none 0 0)).set (.int .i64 10) (.int .i64 (-1)))
     have r0 := RB6.c 0 _ rfl
     have r1 := RB6.c 1 _ rfl
     have r2 := RB6.c 2 _ rfl
     have r3 := RB6.c 3 _ rfl
     obtain ⟨r4, r5, -, -, -⟩ := FB6
     refine bodyPost_ret (v := .tuple #[.agg #[.int .i64 0, .int .i64 0, .int .i64 0, .slice none 0 0], .agg #[.int .i64 10, .int .i64 (-1)]]) (by simp [results, Tryz.results16, go_sem, r0, r1, r2, r3, r4, r5]) rfl ?_
     obtain ⟨E1, E2⟩ := Pl.next_no HF.out H0.out
     rw [E1, E2]
     exact ⟨none, 0, rfl, VIn.zero _, by go_grown⟩
 · have q1 : ((v.pre.length : Int) == 0) = false := beqF (by omega)
   have HV := Lib.hid (show ∀ o c, verV (Pl.verNext v) o c = .agg #[.int .i64 v.maj, .int .i64 v.min, .int .i64 (v.pat), .slice o (v.pre.length + 1) c] by intro o c; unfold Pl.verNext; simp [verV, p1])
   clear p1
   go_enter Tryz.func16, Tryz.ntmps16
   go_wp2_with fail
   refine (Validate_any v a c _ (H.out.below (by go_grown) (Nat.le_refl _))).mono ?_
   rw [HF.out]
   rintro e w1 ⟨rfl, hb1⟩
   have B1 : Below w.heap.size w w1 := bcall (by go_grown) hb1 (by go_size)
   have VB : Blk w1 w.heap.size [.int .i64 v.maj, .int .i64 v.min, .int .i64 v.pat, .slice a v.pre.length c] := (((Blk.new _ _ 24 (by simp)).alloc _).alloc _).below hb1 (by go_size)
   have RB : Blk w1 (w.heap.size + 1) [.int .i64 0, .int .i64 0, .int .i64 0, .slice none 0 0] := ((Blk.new _ _ 24 (by simp)).alloc _).below hb1 (by simp)
   have FB : Box2 w1 (w.heap.size + 1 + 1) (.int .i64 0) (.int .i64 0) := (Box2.newAt (by simp)).below hb1 (by simp)
   have z3 : w.heap.size + 3 ≤ w1.heap.size := by have h := hb1.size; simp at h; omega
   clear hb1
   have e0 := VB.c 0 _ rfl; have e1 := VB.c 1 _ rfl; have e2 := VB.c 2 _ rfl; have e3 := VB.c 3 _ rfl; have e4 := VB.f 0 (by simp); have e5 := VB.f 1 (by simp); have e6 := VB.f 2 (by simp); have e7 := VB.f 3 (by simp); have e8 := VB.lt
   go_wp2_with fail
   refine (Clone_any v.pre a c _ (H.out.sl.below (B := w.heap.size) (by go_grown) (Nat.le_refl _)) (by omega)).mono ?_
   rintro e w2 ⟨o2, c2, rfl, own2, hb2⟩
   simp only [World.size_alloc] at own2
   have B2 : Below w.heap.size w w2 := bcall (by go_grown) hb2 (by simp; omega)
   have VB2 : Blk w2 w.heap.size [.int .i64 v.maj, .int .i64 v.min, .int .i64 (v.pat), .slice a v.pre.length c] := ((VB).alloc _).below hb2 (by simp; omega)
   have RB2 := ((RB).alloc (.cells #[.int .i64 0, .int .i64 0] 27)).below hb2 (by simp; omega)
   have FB2 := ((FB).alloc (.cells #[.int .i64 0, .int .i64 0] 27)).below hb2 (by simp; omega)
   have z4 : w1.heap.size + 1 ≤ w2.heap.size := by have h := hb2.size; simp at h; omega
   clear hb2 VB RB FB
   clear e0 e1 e2 e3 e4 e5 e6 e7 e8
   go_wp2_with (at_builtin; go_loud (refine ap1 (by rfl) (by rfl) Tryz.tStrs (Below.refl (w1.heap.size + 1) _) (by rfl) own2 (m := 1) (C := [.string Pl.zeroId]) (by rfl) (by rfl) (by rfl) (by omega) z4 ?_); intro v3 w3 own3 b3 s3; obtain ⟨o3, c3, rfl⟩ := own_slice own3; have B3 : Below w.heap.size w w3 := bcall B2 b3 (by omega); have VB3 := VB2.below b3 (by omega); have RB3 := RB2.below b3 (by omega); have FB3 := FB2.below b3 (by omega); have h3 := VB3.c 3 _ rfl; have h3f := VB3.f 3 (by simp); have h3l := VB3.lt; have VB := VB3.set (k := 3) (by simp) (.slice o3 (v.pre.length + 1) c3); clear VB2 RB2 FB2 b3; have e0 := VB.c 0 _ rfl; have e1 := VB.c 1 _ rfl; have e2 := VB.c 2 _ rfl; have e3 := VB.c 3 _ rfl; have e4 := VB.f 0 (by simp); have e5 := VB.f 1 (by simp); have e6 := VB.f 2 (by simp); have e7 := VB.f 3 (by simp); have e8 := VB.lt)
   have own4 := ownsRow_far own3 (a := ⟨w.heap.size, 3, none⟩) (by show w.heap.size < w1.heap.size + 1; omega) (.slice o3 (v.pre.length + 1) c3)
   have RB4 := RB3.far (a := ⟨w.heap.size, 3, none⟩) (by dsimp only; omega) (.slice o3 (v.pre.length + 1) c3)
   have FB4 := FB3.far (a := ⟨w.heap.size, 3, none⟩) (by dsimp only; omega) (.slice o3 (v.pre.length + 1) c3)
   have B4 : Below w.heap.size w (w3.setCell ⟨w.heap.size, 3, none⟩ (.slice o3 (v.pre.length + 1) c3)) := B3.setCell (Nat.le_refl _) _
   have ct := Validate_any (Pl.verNext v) o3 c3 _ (VIn.own (Pl.next_len v) (by rw [Pl.next_strs]; exact own4) (Pl.next_ss hss))
   rw [HV.out] at ct
   rcases HN.out with ⟨hn2, -⟩ | hn2
   · have H0 := Lib.hid hn2
     rw [hn2] at ct
     clear hn2
     refine ct.mono ?_
     rintro e w5 ⟨rfl, hb5⟩
     have B5 : Below w.heap.size w w5 := bcall B4 hb5 (by rw [World.size_setCell]; omega)
     have own5 := ownsRow_below own4 hb5 (Nat.le_refl _)
     have RB := RB4.below hb5 (by rw [World.size_setCell]; omega)
     have RB5 := RB
     have FB5 := FB4.below hb5 (by rw [World.size_setCell]; omega)
     have VB5 := VB.below hb5 (by rw [World.size_setCell]; omega)
     have z6 : w3.heap.size ≤ w5.heap.size := by have h := hb5.size; rwa [World.size_setCell] at h
     clear hb5 VB RB4 FB4 RB3 FB3 VB3 ct own4 own3 own2 h3 h3f h3l
     clear e0 e1 e2 e3 e4 e5 e6 e7 e8
     have VB := VB5
     have e0 := VB.c 0 _ rfl; have e1 := VB.c 1 _ rfl; have e2 := VB.c 2 _ rfl; have e3 := VB.c 3 _ rfl; have e4 := VB.f 0 (by simp); have e5 := VB.f 1 (by simp); have e6 := VB.f 2 (by simp); have e7 := VB.f 3 (by simp); have e8 := VB.lt
     have g0 := RB.c 0 _ rfl; have g1 := RB.c 1 _ rfl; have g2 := RB.c 2 _ rfl; have g3 := RB.c 3 _ rfl; have g4 := RB.f 0 (by simp); have g5 := RB.f 1 (by simp); have g6 := RB.f 2 (by simp); have g7 := RB.f 3 (by simp); have g8 := RB.lt
     obtain ⟨k0, k1, k2, k3, k4⟩ := FB5
     go_wp2_with fail
     have FB5 := Box2.mk k0 k1 k2 k3 k4
     have RB6 := ((((((RB5.set (k := 0) (by simp) (.int .i64 v.maj)).set (k := 1) (by simp) (.int .i64 v.min)).set (k := 2) (by simp) (.int .i64 (v.pat))).set (k := 3) (by simp) (.slice o3 (v.pre.length + 1) c3)).far (a := ⟨w.heap.size + 1 + 1, 0, none⟩) (by dsimp only; omega) (.int .i64 0)).far (a := ⟨w.heap.size + 1 + 1, 1, none⟩) (by dsimp only; omega) (.int .i64 0))
     have FB6 := (((((FB5.far (a := ⟨w.heap.size + 1, 0, none⟩) (by dsimp only; omega) (.int .i64 v.maj)).far (a := ⟨w.heap.size + 1, 1, none⟩) (by dsimp only; omega) (.int .i64 v.min)).far (a := ⟨w.heap.size + 1, 2, none⟩) (by dsimp only; omega) (.int .i64 (v.pat))).far (a := ⟨w.heap.size + 1, 3, none⟩) (by dsimp only; omega) (.slice o3 (v.pre.length + 1) c3)).set (.int .i64 0) (.int .i64 0))
     have r0 := RB6.c 0 _ rfl
     have r1 := RB6.c 1 _ rfl
     have r2 := RB6.c 2 _ rfl
     have r3 := RB6.c 3 _ rfl
     obtain ⟨r4, r5, -, -, -⟩ := FB6
     refine bodyPost_ret (v := .tuple #[.agg #[.int .i64 v.maj, .int .i64 v.min, .int .i64 (v.pat), .slice o3 (v.pre.length + 1) c3], .agg #[.int .i64 0, .int .i64 0]]) (by simp [results, Tryz.results16, go_sem, r0, r1, r2, r3, r4, r5]) rfl ?_
     obtain ⟨E1, E2⟩ := Pl.next_yes HF.out H0.out
     rw [E1, E2]
     refine ⟨o3, c3, ?_, VIn.own (base := w1.heap.size + 1) (Pl.next_len v) ?_ (Pl.next_ss hss), by go_grown⟩
     · rw [HV.out]
     · rw [Pl.next_strs]
       exact ownsRow_far (ownsRow_far (ownsRow_far (ownsRow_far (ownsRow_far (ownsRow_far own5 (by dsimp only; omega) _) (by dsimp only; omega) _) (by dsimp only; omega) _) (by dsimp only; omega) _) (by dsimp only; omega) _) (by dsimp only; omega) _
   · have H0 := Lib.hid hn2
     obtain ⟨G, hG⟩ : ∃ G, Pl.vrF (Pl.verNext v) = G := ⟨_, rfl⟩
     rw [hG] at ct hn2
     obtain ⟨f1, f2⟩ := G
     have u1 := bneT hn2
     have u2 := beqF hn2
     clear hn2 hG
     refine ct.mono ?_
     rintro e w5 ⟨rfl, hb5⟩
     have B5 : Below w.heap.size w w5 := bcall B4 hb5 (by rw [World.size_setCell]; omega)
     have own5 := ownsRow_below own4 hb5 (Nat.le_refl _)
     have RB := RB4.below hb5 (by rw [World.size_setCell]; omega)
     have RB5 := RB
     have FB5 := FB4.below hb5 (by rw [World.size_setCell]; omega)
     have VB5 := VB.below hb5 (by rw [World.size_setCell]; omega)
     have z6 : w3.heap.size ≤ w5.heap.size := by have h := hb5.size; rwa [World.size_setCell] at h
     clear hb5 VB RB4 FB4 RB3 FB3 VB3 ct own4 own3 own2 h3 h3f h3l
     clear e0 e1 e2 e3 e4 e5 e6 e7 e8
     have VB := VB5
     have e0 := VB.c 0 _ rfl; have e1 := VB.c 1 _ rfl; have e2 := VB.c 2 _ rfl; have e3 := VB.c 3 _ rfl; have e4 := VB.f 0 (by simp); have e5 := VB.f 1 (by simp); have e6 := VB.f 2 (by simp); have e7 := VB.f 3 (by simp); have e8 := VB.lt
     have g0 := RB.c 0 _ rfl; have g1 := RB.c 1 _ rfl; have g2 := RB.c 2 _ rfl; have g3 := RB.c 3 _ rfl; have g4 := RB.f 0 (by simp); have g5 := RB.f 1 (by simp); have g6 := RB.f 2 (by simp); have g7 := RB.f 3 (by simp); have g8 := RB.lt
     obtain ⟨k0, k1, k2, k3, k4⟩ := FB5
     go_wp2_with fail
     have FB5 := Box2.mk k0 k1 k2 k3 k4
     have RB6 := ((((((RB5.set (k := 0) (by simp) (.int .i64 0)).set (k := 1) (by simp) (.int .i64 0)).set (k := 2) (by simp) (.int .i64 0)).set (k := 3) (by simp) (.slice none 0 0)).far (a := ⟨w.heap.size + 1 + 1, 0, none⟩) (by dsimp only; omega) (.int .i64 10)).far (a := ⟨w.heap.size + 1 + 1, 1, none⟩) (by dsimp only; omega) (.int .i64 (-1)))
     have FB6 := (((((FB5.far (a := ⟨w.heap.size + 1, 0, none⟩) (by dsimp only; omega) (.int .i64 0)).far (a := ⟨w.heap.size + 1, 1, none⟩) (by dsimp only; omega) (.int .i64 0)).far (a := ⟨w.heap.size + 1, 2, none⟩) (by dsimp only; omega) (.int .i64 0)).far (a := ⟨w.heap.size + 1, 3, none⟩) (by dsimp only; omega) (.slice none 0 0)).set (.int .i64 10) (.int .i64 (-1)))
     have r0 := RB6.c 0 _ rfl
     have r1 := RB6.c 1 _ rfl
     have r2 := RB6.c 2 _ rfl
     have r3 := RB6.c 3 _ rfl
     obtain ⟨r4, r5, -, -, -⟩ := FB6
     refine bodyPost_ret (v := .tuple #[.agg #[.int .i64 0, .int .i64 0, .int .i64 0, .slice none 0 0], .agg #[.int .i64 10, .int .i64 (-1)]]) (by simp [results, Tryz.results16, go_sem, r0, r1, r2, r3, r4, r5]) rfl ?_
     obtain ⟨E1, E2⟩ := Pl.next_no HF.out H0.out
     rw [E1, E2]
     exact ⟨none, 0, rfl, VIn.zero _, by go_grown⟩
theorem Next_any (v : Pl.Ver) (a : Option Addr) (c : Nat) (w : World) (h : VIn w v a c) :
 Calls Tryz.prog 16 #[verV v a c] w (RVerF (Pl.nextV v) (Pl.nextF v) w) := by
 rcases Pl.vrF_cases v with ⟨-, ok⟩ | hb
 · exact Next_good v a c w h ok
 · exact Next_bad v a c w h hb
end Go.Proofs.YtolfgcoalihmgaaGreatDoor
