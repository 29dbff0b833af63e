/- Texts joined: Bk Bl Ci Kd. -/
import Derived.Test.YtgngehfgcogceaaGreatDoorZMBj
import Derived.Test.YtgngehfgcogceaaGreatDoorZKn
import Derived.Lib.AppendIntMem
import Derived.Test.YtgngehfgcogceaaGreatDoorRows
import Derived.HandedShaped
import Derived.LaidMore
import Derived.Stop.LaidErr
import Derived.Lib.LaidTab
import Derived.Shelf.Vars
import Derived.Test.YtgngehfgcogceaaGreatDoorZMKb
import Derived.ProofKit
section
/- Contract: the next version, by the program. -/
namespace Go.Proofs.YtgngehfgcogceaaGreatDoor
open Go.RowKit

theorem Clone_any (xs : List ByteArray) (oa : Option Addr) (c : Nat) (w : World) (hs : Sl w oa xs.length c 1 (strVals xs)) (hn : xs.length ≤ 1048576) :
    Calls Tryz.prog 39 #[.slice oa xs.length c] w fun e w' => ∃ o' c', e = .returned (.slice o' xs.length c') ∧ w'.ownsRow w.heap.size 9 1 (.slice o' xs.length c') xs.length (strVals xs) ∧ Below w.heap.size w w' := by
  rcases hs.mem with h0 | ⟨b, off, rfl, hlt, hc⟩
  · have h0 : xs = [] := by simpa [strVals] using h0
    subst h0
    cases oa with
    | none => exact (Tryz.slices_Clone_string_nil _ _ _).mono fun e w' ⟨h1, h2⟩ => ⟨none, 0, h1, World.ownsRow_nil _ _ _ _, h2 ▸ Below.refl _ _⟩
    | some ad =>
      refine (Tryz.slices_Clone_string_zero ad c w).mono ?_
      rintro e w' ⟨v', rfl, own, -, hb⟩
      obtain ⟨o', c', rfl⟩ := own_slice own
      exact ⟨o', c', rfl, own, hb⟩
  · refine (Tryz.slices_Clone_string b off xs.length c xs w (Nat.le_refl _) (by omega) (fun j hj => ?_)).mono ?_
    · have := hc j _ (strVals_get xs j hj)
      rw [this, List.getD_eq_getElem?_getD, List.getElem?_eq_getElem hj]; rfl
    · rintro e w' ⟨v', rfl, own, -, hb⟩
      obtain ⟨o', c', rfl⟩ := own_slice own
      rw [List.take_length] at own
      exact ⟨o', c', rfl, own, hb⟩

namespace Pl
def nextF (v : Ver) : Int × Int := if (vrF v).1 ≠ 0 then vrF v else if (vrF (verNext v)).1 ≠ 0 then (10, -1) else (0, 0)
def nextV (v : Ver) : Ver := if (nextF v).1 ≠ 0 then Ver.zero else verNext v
end Pl

set_option maxHeartbeats 2000000 in
theorem Next_bad (v : Pl.Ver) (a : Option Addr) (c : Nat) (w : World) (h : VIn w v a c) (hbad : (Pl.vrF v).1 ≠ 0) :
    Calls Tryz.prog 53 #[verV v a c] w (RVerF (Pl.nextV v) (Pl.nextF v) w) := by
  have H := Lib.hid h
  have E : Pl.nextF v = Pl.vrF v := by unfold Pl.nextF; rw [if_pos hbad]
  have E2 : Pl.nextV v = Pl.Ver.zero := by unfold Pl.nextV; rw [E, if_pos hbad]
  rw [E, E2]
  obtain ⟨F, hF⟩ : ∃ F, Pl.vrF v = F := ⟨_, rfl⟩
  have HF := Lib.hid hF
  rw [hF] at hbad ⊢
  obtain ⟨f1, f2⟩ := F
  have u1 := bneT hbad
  have u2 := beqF hbad
  clear hbad hF E E2 h
  go_enter Tryz.func53, Tryz.ntmps53
  go_wp2_with fail
  refine (Validate_any v a c _ (H.out.below (by go_grown) (Nat.le_refl _))).mono ?_
  rw [HF.out]
  rintro e w1 ⟨rfl, hb1⟩
  have B1 : Below w.heap.size w w1 := bcall (by go_grown) hb1 (by go_size)
  have RB : Blk w1 (w.heap.size + 1) [.int .i64 0, .int .i64 0, .int .i64 0, .slice none 0 0] := ((Blk.new _ _ 48 (by simp)).alloc _).below hb1 (by simp)
  have FB : Box2 w1 (w.heap.size + 1 + 1) (.int .i64 0) (.int .i64 0) := (Box2.newAt (by simp)).below hb1 (by simp)
  have s1 := B1.size
  have z3 : w.heap.size + 3 ≤ w1.heap.size := by have h := hb1.size; simp at h; omega
  clear hb1
  go_wp2_with fail
  have ZB := (RB.alloc (.cells #[.int .i64 f1, .int .i64 f2] 30)).drew
  have baB := (FB.alloc (.cells #[.int .i64 f1, .int .i64 f2] 30)).drew
  have bbB := (Box2.new w1 (.int .i64 f1) (.int .i64 f2) 30).drew
  have BW := (B1.alloc s1 (.cells #[.int .i64 f1, .int .i64 f2] 30)).drew
  have nz : w1.heap.size ≠ w.heap.size + 1 := by omega
  clear RB FB
  refine wp_region_ordD [(2, w.heap.size + 1), (3, w.heap.size + 1 + 1)] [0, 1, 2, 3] (by kernel_rfl) (by kernel_rfl) ?_
  generalize (w1.alloc (.cells #[.int .i64 f1, .int .i64 f2] 30)).drew = W at *
  have Z0 := ZB.c 0 _ rfl
  have Zf0 := ZB.f 0 (Nat.le_of_ble_eq_true rfl)
  have Z1 := ZB.c 1 _ rfl
  have Zf1 := ZB.f 1 (Nat.le_of_ble_eq_true rfl)
  have Z2 := ZB.c 2 _ rfl
  have Zf2 := ZB.f 2 (Nat.le_of_ble_eq_true rfl)
  have Z3 := ZB.c 3 _ rfl
  have Zf3 := ZB.f 3 (Nat.le_of_ble_eq_true rfl)
  have Zl := ZB.lt
  obtain ⟨ba0, ba1, baf, bag, bal⟩ := baB
  obtain ⟨bb0, bb1, bbf, bbg, bbl⟩ := bbB
  repeat (refine wpD_pure rfl rfl ?_; go_big_quiet_step (fail); refine wpQuiet_nil ?_)
  refine wpD_rd [w.heap.size + 1] (by kernel_rfl) rfl rfl ?_; go_big_quiet_step (fail); refine wpQuiet_nil ?_
  try simp only [Act.put, List.setIfInBounds_toArray, List.set_cons_zero, List.set_cons_succ]
  refine wpD_st rfl rfl rfl (w' := W) (by simp [go_sem, Z0, Z1, Z2, Z3, Zf0, Zf1, Zf2, Zf3]; simp [setCell_id, Z0, Z1, Z2, Z3]) (ExtD.refl _ _) ?_
  try simp only [Act.put]
  refine wpD_st rfl rfl rfl (by simp [go_sem, ba0, ba1, baf, bag]; rfl) (((ExtD.refl _ _).setCell (by exact List.mem_singleton.2 rfl) _).setCell (by exact List.mem_singleton.2 rfl) _) ?_
  refine wpD_nil ?_
  try simp only [Act.put]
  go_wp2_with fail
  refine bodyPost_ret (v := .tuple #[.agg #[.int .i64 0, .int .i64 0, .int .i64 0, .slice none 0 0], .agg #[.int .i64 f1, .int .i64 f2]]) (by simp [results, Tryz.results53, go_sem, Z0, Z1, Z2, Z3, ba0, ba1]) rfl ⟨none, 0, rfl, VIn.zero _, by go_grown⟩
namespace Pl
theorem next_strs (v : Ver) : strVals (verNext v).pre = strVals v.pre ++ [.string zeroId] := strVals_append _ _
theorem next_yes {v : Ver} (h : vrF v = (0, 0)) (h2 : vrF (verNext v) = (0, 0)) : nextV v = verNext v ∧ nextF v = (0, 0) := by
  have e : nextF v = (0, 0) := by unfold nextF; rw [if_neg (by rw [h]; decide), if_neg (by rw [h2]; decide)]
  exact ⟨by unfold nextV; rw [e, if_neg (by decide)], e⟩
theorem next_no {v : Ver} (h : vrF v = (0, 0)) (h2 : (vrF (verNext v)).1 ≠ 0) : nextV v = Ver.zero ∧ nextF v = (10, -1) := by
  have e : nextF v = (10, -1) := by unfold nextF; rw [if_neg (by rw [h]; decide), if_pos h2]
  exact ⟨by unfold nextV; rw [e, if_pos (by decide)], e⟩
end Pl

set_option maxHeartbeats 8000000 in
theorem Next_good (v : Pl.Ver) (a : Option Addr) (c : Nat) (w : World) (h : VIn w v a c) (ok : v.Ok) :
    Calls Tryz.prog 53 #[verV v a c] w (RVerF (Pl.nextV v) (Pl.nextF v) w) := by
  have H := Lib.hid h
  have hn := ok.n
  have hp := Pl.inT ok.m3
  have hss := h.ss
  have HF := Lib.hid (Pl.vrF_ok ok)
  clear h ok
  have HN := Lib.hid (Pl.vrF_cases (Pl.verNext v))
  by_cases p1 : v.pre.length = 0
  · have q1 : ((v.pre.length : Int) == 0) = true := beqT (by omega)
    have HV := Lib.hid (show ∀ o c, verV (Pl.verNext v) o c = .agg #[.int .i64 v.maj, .int .i64 v.min, .int .i64 (v.pat + 1), .slice o (v.pre.length + 1) c] by intro o c; unfold Pl.verNext; simp [verV, p1])
    clear p1
    go_enter Tryz.func53, Tryz.ntmps53
    go_wp2_with fail
    refine (Validate_any v a c _ (H.out.below (by go_grown) (Nat.le_refl _))).mono ?_
    rw [HF.out]
    rintro e w1 ⟨rfl, hb1⟩
    have B1 : Below w.heap.size w w1 := bcall (by go_grown) hb1 (by go_size)
    have VB : Blk w1 w.heap.size [.int .i64 v.maj, .int .i64 v.min, .int .i64 v.pat, .slice a v.pre.length c] := (((Blk.new _ _ 48 (by simp)).alloc _).alloc _).below hb1 (by go_size)
    have RB : Blk w1 (w.heap.size + 1) [.int .i64 0, .int .i64 0, .int .i64 0, .slice none 0 0] := ((Blk.new _ _ 48 (by simp)).alloc _).below hb1 (by simp)
    have FB : Box2 w1 (w.heap.size + 1 + 1) (.int .i64 0) (.int .i64 0) := (Box2.newAt (by simp)).below hb1 (by simp)
    have z3 : w.heap.size + 3 ≤ w1.heap.size := by have h := hb1.size; simp at h; omega
    clear hb1
    have e0 := VB.c 0 _ rfl; have e1 := VB.c 1 _ rfl; have e2 := VB.c 2 _ rfl; have e3 := VB.c 3 _ rfl; have e4 := VB.f 0 (by simp); have e5 := VB.f 1 (by simp); have e6 := VB.f 2 (by simp); have e7 := VB.f 3 (by simp); have e8 := VB.lt
    go_wp2_with fail
    refine (Clone_any v.pre a c _ (H.out.sl.below (B := w.heap.size) (by go_grown) (Nat.le_refl _)) (by omega)).mono ?_
    rintro e w2 ⟨o2, c2, rfl, own2, hb2⟩
    simp only [World.size_alloc, World.size_setCell] at own2
    have B2 : Below w.heap.size w w2 := bcall (by go_grown) hb2 (by simp; omega)
    have VB2 : Blk w2 w.heap.size [.int .i64 v.maj, .int .i64 v.min, .int .i64 (v.pat + 1), .slice a v.pre.length c] := ((VB.set (k := 2) (by simp) (.int .i64 (v.pat + 1))).alloc _).below hb2 (by simp; omega)
    have RB2 := ((RB.far (a := ⟨w.heap.size, 2, none⟩) (by dsimp only; omega) (.int .i64 (v.pat + 1))).alloc (.cells #[.int .i64 0, .int .i64 0] 30)).below hb2 (by simp; omega)
    have FB2 := ((FB.far (a := ⟨w.heap.size, 2, none⟩) (by dsimp only; omega) (.int .i64 (v.pat + 1))).alloc (.cells #[.int .i64 0, .int .i64 0] 30)).below hb2 (by simp; omega)
    have z4 : w1.heap.size + 1 ≤ w2.heap.size := by have h := hb2.size; simp at h; omega
    clear hb2 VB RB FB
    clear e0 e1 e2 e3 e4 e5 e6 e7 e8
    go_wp2_with (at_builtin; go_loud (refine ap1 (by rfl) (by rfl) Tryz.tStrs (Below.refl (w1.heap.size + 1) _) (by rfl) own2 (m := 1) (C := [.string Pl.zeroId]) (by rfl) (by rfl) (by rfl) (by omega) z4 ?_); intro v3 w3 own3 b3 s3; obtain ⟨o3, c3, rfl⟩ := own_slice own3; have B3 : Below w.heap.size w w3 := bcall B2 b3 (by omega); have VB3 := VB2.below b3 (by omega); have RB3 := RB2.below b3 (by omega); have FB3 := FB2.below b3 (by omega); have h3 := VB3.c 3 _ rfl; have h3f := VB3.f 3 (by simp); have h3l := VB3.lt; have VB := VB3.set (k := 3) (by simp) (.slice o3 (v.pre.length + 1) c3); clear VB2 RB2 FB2 b3; have e0 := VB.c 0 _ rfl; have e1 := VB.c 1 _ rfl; have e2 := VB.c 2 _ rfl; have e3 := VB.c 3 _ rfl; have e4 := VB.f 0 (by simp); have e5 := VB.f 1 (by simp); have e6 := VB.f 2 (by simp); have e7 := VB.f 3 (by simp); have e8 := VB.lt)
    have own4 := ownsRow_far own3 (a := ⟨w.heap.size, 3, none⟩) (by show w.heap.size < w1.heap.size + 1; omega) (.slice o3 (v.pre.length + 1) c3)
    have RB4 := RB3.far (a := ⟨w.heap.size, 3, none⟩) (by dsimp only; omega) (.slice o3 (v.pre.length + 1) c3)
    have FB4 := FB3.far (a := ⟨w.heap.size, 3, none⟩) (by dsimp only; omega) (.slice o3 (v.pre.length + 1) c3)
    have B4 : Below w.heap.size w (w3.setCell ⟨w.heap.size, 3, none⟩ (.slice o3 (v.pre.length + 1) c3)) := B3.setCell (Nat.le_refl _) _
    have ct := Validate_any (Pl.verNext v) o3 c3 _ (VIn.own (Pl.next_len v) (by rw [Pl.next_strs]; exact own4) (Pl.next_ss hss))
    rw [HV.out] at ct
    rcases HN.out with ⟨hn2, -⟩ | hn2
    · have H0 := Lib.hid hn2
      rw [hn2] at ct
      clear hn2
      refine ct.mono ?_
      rintro e w5 ⟨rfl, hb5⟩
      have B5 : Below w.heap.size w w5 := bcall B4 hb5 (by rw [World.size_setCell]; omega)
      have own5 := ownsRow_below own4 hb5 (Nat.le_refl _)
      have RB := RB4.below hb5 (by rw [World.size_setCell]; omega)
      have RB5 := RB
      have FB5 := FB4.below hb5 (by rw [World.size_setCell]; omega)
      have VB5 := VB.below hb5 (by rw [World.size_setCell]; omega)
      have z6 : w3.heap.size ≤ w5.heap.size := by have h := hb5.size; rwa [World.size_setCell] at h
      clear hb5 VB RB4 FB4 RB3 FB3 VB3 ct own4 own3 own2 h3 h3f h3l
      clear e0 e1 e2 e3 e4 e5 e6 e7 e8
      have VB := VB5
      have e0 := VB.c 0 _ rfl; have e1 := VB.c 1 _ rfl; have e2 := VB.c 2 _ rfl; have e3 := VB.c 3 _ rfl; have e4 := VB.f 0 (by simp); have e5 := VB.f 1 (by simp); have e6 := VB.f 2 (by simp); have e7 := VB.f 3 (by simp); have e8 := VB.lt
      have g0 := RB.c 0 _ rfl; have g1 := RB.c 1 _ rfl; have g2 := RB.c 2 _ rfl; have g3 := RB.c 3 _ rfl; have g4 := RB.f 0 (by simp); have g5 := RB.f 1 (by simp); have g6 := RB.f 2 (by simp); have g7 := RB.f 3 (by simp); have g8 := RB.lt
      obtain ⟨k0, k1, k2, k3, k4⟩ := FB5
      go_wp2_with fail
      have FB5 := Box2.mk k0 k1 k2 k3 k4
      have RB6 := ((((((RB5.set (k := 0) (by simp) (.int .i64 v.maj)).set (k := 1) (by simp) (.int .i64 v.min)).set (k := 2) (by simp) (.int .i64 (v.pat + 1))).set (k := 3) (by simp) (.slice o3 (v.pre.length + 1) c3)).far (a := ⟨w.heap.size + 1 + 1, 0, none⟩) (by dsimp only; omega) (.int .i64 0)).far (a := ⟨w.heap.size + 1 + 1, 1, none⟩) (by dsimp only; omega) (.int .i64 0))
      have FB6 := (((((FB5.far (a := ⟨w.heap.size + 1, 0, none⟩) (by dsimp only; omega) (.int .i64 v.maj)).far (a := ⟨w.heap.size + 1, 1, none⟩) (by dsimp only; omega) (.int .i64 v.min)).far (a := ⟨w.heap.size + 1, 2, none⟩) (by dsimp only; omega) (.int .i64 (v.pat + 1))).far (a := ⟨w.heap.size + 1, 3, none⟩) (by dsimp only; omega) (.slice o3 (v.pre.length + 1) c3)).set (.int .i64 0) (.int .i64 0))
      have r0 := RB6.c 0 _ rfl
      have r1 := RB6.c 1 _ rfl
      have r2 := RB6.c 2 _ rfl
      have r3 := RB6.c 3 _ rfl
      obtain ⟨r4, r5, -, -, -⟩ := FB6
      refine bodyPost_ret (v := .tuple #[.agg #[.int .i64 v.maj, .int .i64 v.min, .int .i64 (v.pat + 1), .slice o3 (v.pre.length + 1) c3], .agg #[.int .i64 0, .int .i64 0]]) (by simp [results, Tryz.results53, go_sem, r0, r1, r2, r3, r4, r5]) rfl ?_
      obtain ⟨E1, E2⟩ := Pl.next_yes HF.out H0.out
      rw [E1, E2]
      refine ⟨o3, c3, ?_, VIn.own (base := w1.heap.size + 1) (Pl.next_len v) ?_ (Pl.next_ss hss), by go_grown⟩
      · rw [HV.out]
      · rw [Pl.next_strs]
        exact ownsRow_far (ownsRow_far (ownsRow_far (ownsRow_far (ownsRow_far (ownsRow_far own5 (by dsimp only; omega) _) (by dsimp only; omega) _) (by dsimp only; omega) _) (by dsimp only; omega) _) (by dsimp only; omega) _) (by dsimp only; omega) _
    · have H0 := Lib.hid hn2
      obtain ⟨G, hG⟩ : ∃ G, Pl.vrF (Pl.verNext v) = G := ⟨_, rfl⟩
      rw [hG] at ct hn2
      obtain ⟨f1, f2⟩ := G
      have u1 := bneT hn2
      have u2 := beqF hn2
      clear hn2 hG
      refine ct.mono ?_
      rintro e w5 ⟨rfl, hb5⟩
      have B5 : Below w.heap.size w w5 := bcall B4 hb5 (by rw [World.size_setCell]; omega)
      have own5 := ownsRow_below own4 hb5 (Nat.le_refl _)
      have RB := RB4.below hb5 (by rw [World.size_setCell]; omega)
      have RB5 := RB
      have FB5 := FB4.below hb5 (by rw [World.size_setCell]; omega)
      have VB5 := VB.below hb5 (by rw [World.size_setCell]; omega)
      have z6 : w3.heap.size ≤ w5.heap.size := by have h := hb5.size; rwa [World.size_setCell] at h
      clear hb5 VB RB4 FB4 RB3 FB3 VB3 ct own4 own3 own2 h3 h3f h3l
      clear e0 e1 e2 e3 e4 e5 e6 e7 e8
      have VB := VB5
      have e0 := VB.c 0 _ rfl; have e1 := VB.c 1 _ rfl; have e2 := VB.c 2 _ rfl; have e3 := VB.c 3 _ rfl; have e4 := VB.f 0 (by simp); have e5 := VB.f 1 (by simp); have e6 := VB.f 2 (by simp); have e7 := VB.f 3 (by simp); have e8 := VB.lt
      have g0 := RB.c 0 _ rfl; have g1 := RB.c 1 _ rfl; have g2 := RB.c 2 _ rfl; have g3 := RB.c 3 _ rfl; have g4 := RB.f 0 (by simp); have g5 := RB.f 1 (by simp); have g6 := RB.f 2 (by simp); have g7 := RB.f 3 (by simp); have g8 := RB.lt
      obtain ⟨k0, k1, k2, k3, k4⟩ := FB5
      go_wp2_with fail
      have FB5 := Box2.mk k0 k1 k2 k3 k4
      have RB6 := ((((((RB5.set (k := 0) (by simp) (.int .i64 0)).set (k := 1) (by simp) (.int .i64 0)).set (k := 2) (by simp) (.int .i64 0)).set (k := 3) (by simp) (.slice none 0 0)).far (a := ⟨w.heap.size + 1 + 1, 0, none⟩) (by dsimp only; omega) (.int .i64 10)).far (a := ⟨w.heap.size + 1 + 1, 1, none⟩) (by dsimp only; omega) (.int .i64 (-1)))
      have FB6 := (((((FB5.far (a := ⟨w.heap.size + 1, 0, none⟩) (by dsimp only; omega) (.int .i64 0)).far (a := ⟨w.heap.size + 1, 1, none⟩) (by dsimp only; omega) (.int .i64 0)).far (a := ⟨w.heap.size + 1, 2, none⟩) (by dsimp only; omega) (.int .i64 0)).far (a := ⟨w.heap.size + 1, 3, none⟩) (by dsimp only; omega) (.slice none 0 0)).set (.int .i64 10) (.int .i64 (-1)))
      have r0 := RB6.c 0 _ rfl
      have r1 := RB6.c 1 _ rfl
      have r2 := RB6.c 2 _ rfl
      have r3 := RB6.c 3 _ rfl
      obtain ⟨r4, r5, -, -, -⟩ := FB6
      refine bodyPost_ret (v := .tuple #[.agg #[.int .i64 0, .int .i64 0, .int .i64 0, .slice none 0 0], .agg #[.int .i64 10, .int .i64 (-1)]]) (by simp [results, Tryz.results53, go_sem, r0, r1, r2, r3, r4, r5]) rfl ?_
      obtain ⟨E1, E2⟩ := Pl.next_no HF.out H0.out
      rw [E1, E2]
      exact ⟨none, 0, rfl, VIn.zero _, by go_grown⟩
  · have q1 : ((v.pre.length : Int) == 0) = false := beqF (by omega)
    have HV := Lib.hid (show ∀ o c, verV (Pl.verNext v) o c = .agg #[.int .i64 v.maj, .int .i64 v.min, .int .i64 (v.pat), .slice o (v.pre.length + 1) c] by intro o c; unfold Pl.verNext; simp [verV, p1])
    clear p1
    go_enter Tryz.func53, Tryz.ntmps53
    go_wp2_with fail
    refine (Validate_any v a c _ (H.out.below (by go_grown) (Nat.le_refl _))).mono ?_
    rw [HF.out]
    rintro e w1 ⟨rfl, hb1⟩
    have B1 : Below w.heap.size w w1 := bcall (by go_grown) hb1 (by go_size)
    have VB : Blk w1 w.heap.size [.int .i64 v.maj, .int .i64 v.min, .int .i64 v.pat, .slice a v.pre.length c] := (((Blk.new _ _ 48 (by simp)).alloc _).alloc _).below hb1 (by go_size)
    have RB : Blk w1 (w.heap.size + 1) [.int .i64 0, .int .i64 0, .int .i64 0, .slice none 0 0] := ((Blk.new _ _ 48 (by simp)).alloc _).below hb1 (by simp)
    have FB : Box2 w1 (w.heap.size + 1 + 1) (.int .i64 0) (.int .i64 0) := (Box2.newAt (by simp)).below hb1 (by simp)
    have z3 : w.heap.size + 3 ≤ w1.heap.size := by have h := hb1.size; simp at h; omega
    clear hb1
    have e0 := VB.c 0 _ rfl; have e1 := VB.c 1 _ rfl; have e2 := VB.c 2 _ rfl; have e3 := VB.c 3 _ rfl; have e4 := VB.f 0 (by simp); have e5 := VB.f 1 (by simp); have e6 := VB.f 2 (by simp); have e7 := VB.f 3 (by simp); have e8 := VB.lt
    go_wp2_with fail
    refine (Clone_any v.pre a c _ (H.out.sl.below (B := w.heap.size) (by go_grown) (Nat.le_refl _)) (by omega)).mono ?_
    rintro e w2 ⟨o2, c2, rfl, own2, hb2⟩
    simp only [World.size_alloc] at own2
    have B2 : Below w.heap.size w w2 := bcall (by go_grown) hb2 (by simp; omega)
    have VB2 : Blk w2 w.heap.size [.int .i64 v.maj, .int .i64 v.min, .int .i64 (v.pat), .slice a v.pre.length c] := ((VB).alloc _).below hb2 (by simp; omega)
    have RB2 := ((RB).alloc (.cells #[.int .i64 0, .int .i64 0] 30)).below hb2 (by simp; omega)
    have FB2 := ((FB).alloc (.cells #[.int .i64 0, .int .i64 0] 30)).below hb2 (by simp; omega)
    have z4 : w1.heap.size + 1 ≤ w2.heap.size := by have h := hb2.size; simp at h; omega
    clear hb2 VB RB FB
    clear e0 e1 e2 e3 e4 e5 e6 e7 e8
    go_wp2_with (at_builtin; go_loud (refine ap1 (by rfl) (by rfl) Tryz.tStrs (Below.refl (w1.heap.size + 1) _) (by rfl) own2 (m := 1) (C := [.string Pl.zeroId]) (by rfl) (by rfl) (by rfl) (by omega) z4 ?_); intro v3 w3 own3 b3 s3; obtain ⟨o3, c3, rfl⟩ := own_slice own3; have B3 : Below w.heap.size w w3 := bcall B2 b3 (by omega); have VB3 := VB2.below b3 (by omega); have RB3 := RB2.below b3 (by omega); have FB3 := FB2.below b3 (by omega); have h3 := VB3.c 3 _ rfl; have h3f := VB3.f 3 (by simp); have h3l := VB3.lt; have VB := VB3.set (k := 3) (by simp) (.slice o3 (v.pre.length + 1) c3); clear VB2 RB2 FB2 b3; have e0 := VB.c 0 _ rfl; have e1 := VB.c 1 _ rfl; have e2 := VB.c 2 _ rfl; have e3 := VB.c 3 _ rfl; have e4 := VB.f 0 (by simp); have e5 := VB.f 1 (by simp); have e6 := VB.f 2 (by simp); have e7 := VB.f 3 (by simp); have e8 := VB.lt)
    have own4 := ownsRow_far own3 (a := ⟨w.heap.size, 3, none⟩) (by show w.heap.size < w1.heap.size + 1; omega) (.slice o3 (v.pre.length + 1) c3)
    have RB4 := RB3.far (a := ⟨w.heap.size, 3, none⟩) (by dsimp only; omega) (.slice o3 (v.pre.length + 1) c3)
    have FB4 := FB3.far (a := ⟨w.heap.size, 3, none⟩) (by dsimp only; omega) (.slice o3 (v.pre.length + 1) c3)
    have B4 : Below w.heap.size w (w3.setCell ⟨w.heap.size, 3, none⟩ (.slice o3 (v.pre.length + 1) c3)) := B3.setCell (Nat.le_refl _) _
    have ct := Validate_any (Pl.verNext v) o3 c3 _ (VIn.own (Pl.next_len v) (by rw [Pl.next_strs]; exact own4) (Pl.next_ss hss))
    rw [HV.out] at ct
    rcases HN.out with ⟨hn2, -⟩ | hn2
    · have H0 := Lib.hid hn2
      rw [hn2] at ct
      clear hn2
      refine ct.mono ?_
      rintro e w5 ⟨rfl, hb5⟩
      have B5 : Below w.heap.size w w5 := bcall B4 hb5 (by rw [World.size_setCell]; omega)
      have own5 := ownsRow_below own4 hb5 (Nat.le_refl _)
      have RB := RB4.below hb5 (by rw [World.size_setCell]; omega)
      have RB5 := RB
      have FB5 := FB4.below hb5 (by rw [World.size_setCell]; omega)
      have VB5 := VB.below hb5 (by rw [World.size_setCell]; omega)
      have z6 : w3.heap.size ≤ w5.heap.size := by have h := hb5.size; rwa [World.size_setCell] at h
      clear hb5 VB RB4 FB4 RB3 FB3 VB3 ct own4 own3 own2 h3 h3f h3l
      clear e0 e1 e2 e3 e4 e5 e6 e7 e8
      have VB := VB5
      have e0 := VB.c 0 _ rfl; have e1 := VB.c 1 _ rfl; have e2 := VB.c 2 _ rfl; have e3 := VB.c 3 _ rfl; have e4 := VB.f 0 (by simp); have e5 := VB.f 1 (by simp); have e6 := VB.f 2 (by simp); have e7 := VB.f 3 (by simp); have e8 := VB.lt
      have g0 := RB.c 0 _ rfl; have g1 := RB.c 1 _ rfl; have g2 := RB.c 2 _ rfl; have g3 := RB.c 3 _ rfl; have g4 := RB.f 0 (by simp); have g5 := RB.f 1 (by simp); have g6 := RB.f 2 (by simp); have g7 := RB.f 3 (by simp); have g8 := RB.lt
      obtain ⟨k0, k1, k2, k3, k4⟩ := FB5
      go_wp2_with fail
      have FB5 := Box2.mk k0 k1 k2 k3 k4
      have RB6 := ((((((RB5.set (k := 0) (by simp) (.int .i64 v.maj)).set (k := 1) (by simp) (.int .i64 v.min)).set (k := 2) (by simp) (.int .i64 (v.pat))).set (k := 3) (by simp) (.slice o3 (v.pre.length + 1) c3)).far (a := ⟨w.heap.size + 1 + 1, 0, none⟩) (by dsimp only; omega) (.int .i64 0)).far (a := ⟨w.heap.size + 1 + 1, 1, none⟩) (by dsimp only; omega) (.int .i64 0))
      have FB6 := (((((FB5.far (a := ⟨w.heap.size + 1, 0, none⟩) (by dsimp only; omega) (.int .i64 v.maj)).far (a := ⟨w.heap.size + 1, 1, none⟩) (by dsimp only; omega) (.int .i64 v.min)).far (a := ⟨w.heap.size + 1, 2, none⟩) (by dsimp only; omega) (.int .i64 (v.pat))).far (a := ⟨w.heap.size + 1, 3, none⟩) (by dsimp only; omega) (.slice o3 (v.pre.length + 1) c3)).set (.int .i64 0) (.int .i64 0))
      have r0 := RB6.c 0 _ rfl
      have r1 := RB6.c 1 _ rfl
      have r2 := RB6.c 2 _ rfl
      have r3 := RB6.c 3 _ rfl
      obtain ⟨r4, r5, -, -, -⟩ := FB6
      refine bodyPost_ret (v := .tuple #[.agg #[.int .i64 v.maj, .int .i64 v.min, .int .i64 (v.pat), .slice o3 (v.pre.length + 1) c3], .agg #[.int .i64 0, .int .i64 0]]) (by simp [results, Tryz.results53, go_sem, r0, r1, r2, r3, r4, r5]) rfl ?_
      obtain ⟨E1, E2⟩ := Pl.next_yes HF.out H0.out
      rw [E1, E2]
      refine ⟨o3, c3, ?_, VIn.own (base := w1.heap.size + 1) (Pl.next_len v) ?_ (Pl.next_ss hss), by go_grown⟩
      · rw [HV.out]
      · rw [Pl.next_strs]
        exact ownsRow_far (ownsRow_far (ownsRow_far (ownsRow_far (ownsRow_far (ownsRow_far own5 (by dsimp only; omega) _) (by dsimp only; omega) _) (by dsimp only; omega) _) (by dsimp only; omega) _) (by dsimp only; omega) _) (by dsimp only; omega) _
    · have H0 := Lib.hid hn2
      obtain ⟨G, hG⟩ : ∃ G, Pl.vrF (Pl.verNext v) = G := ⟨_, rfl⟩
      rw [hG] at ct hn2
      obtain ⟨f1, f2⟩ := G
      have u1 := bneT hn2
      have u2 := beqF hn2
      clear hn2 hG
      refine ct.mono ?_
      rintro e w5 ⟨rfl, hb5⟩
      have B5 : Below w.heap.size w w5 := bcall B4 hb5 (by rw [World.size_setCell]; omega)
      have own5 := ownsRow_below own4 hb5 (Nat.le_refl _)
      have RB := RB4.below hb5 (by rw [World.size_setCell]; omega)
      have RB5 := RB
      have FB5 := FB4.below hb5 (by rw [World.size_setCell]; omega)
      have VB5 := VB.below hb5 (by rw [World.size_setCell]; omega)
      have z6 : w3.heap.size ≤ w5.heap.size := by have h := hb5.size; rwa [World.size_setCell] at h
      clear hb5 VB RB4 FB4 RB3 FB3 VB3 ct own4 own3 own2 h3 h3f h3l
      clear e0 e1 e2 e3 e4 e5 e6 e7 e8
      have VB := VB5
      have e0 := VB.c 0 _ rfl; have e1 := VB.c 1 _ rfl; have e2 := VB.c 2 _ rfl; have e3 := VB.c 3 _ rfl; have e4 := VB.f 0 (by simp); have e5 := VB.f 1 (by simp); have e6 := VB.f 2 (by simp); have e7 := VB.f 3 (by simp); have e8 := VB.lt
      have g0 := RB.c 0 _ rfl; have g1 := RB.c 1 _ rfl; have g2 := RB.c 2 _ rfl; have g3 := RB.c 3 _ rfl; have g4 := RB.f 0 (by simp); have g5 := RB.f 1 (by simp); have g6 := RB.f 2 (by simp); have g7 := RB.f 3 (by simp); have g8 := RB.lt
      obtain ⟨k0, k1, k2, k3, k4⟩ := FB5
      go_wp2_with fail
      have FB5 := Box2.mk k0 k1 k2 k3 k4
      have RB6 := ((((((RB5.set (k := 0) (by simp) (.int .i64 0)).set (k := 1) (by simp) (.int .i64 0)).set (k := 2) (by simp) (.int .i64 0)).set (k := 3) (by simp) (.slice none 0 0)).far (a := ⟨w.heap.size + 1 + 1, 0, none⟩) (by dsimp only; omega) (.int .i64 10)).far (a := ⟨w.heap.size + 1 + 1, 1, none⟩) (by dsimp only; omega) (.int .i64 (-1)))
      have FB6 := (((((FB5.far (a := ⟨w.heap.size + 1, 0, none⟩) (by dsimp only; omega) (.int .i64 0)).far (a := ⟨w.heap.size + 1, 1, none⟩) (by dsimp only; omega) (.int .i64 0)).far (a := ⟨w.heap.size + 1, 2, none⟩) (by dsimp only; omega) (.int .i64 0)).far (a := ⟨w.heap.size + 1, 3, none⟩) (by dsimp only; omega) (.slice none 0 0)).set (.int .i64 10) (.int .i64 (-1)))
      have r0 := RB6.c 0 _ rfl
      have r1 := RB6.c 1 _ rfl
      have r2 := RB6.c 2 _ rfl
      have r3 := RB6.c 3 _ rfl
      obtain ⟨r4, r5, -, -, -⟩ := FB6
      refine bodyPost_ret (v := .tuple #[.agg #[.int .i64 0, .int .i64 0, .int .i64 0, .slice none 0 0], .agg #[.int .i64 10, .int .i64 (-1)]]) (by simp [results, Tryz.results53, go_sem, r0, r1, r2, r3, r4, r5]) rfl ?_
      obtain ⟨E1, E2⟩ := Pl.next_no HF.out H0.out
      rw [E1, E2]
      exact ⟨none, 0, rfl, VIn.zero _, by go_grown⟩

theorem Next_any (v : Pl.Ver) (a : Option Addr) (c : Nat) (w : World) (h : VIn w v a c) :
    Calls Tryz.prog 53 #[verV v a c] w (RVerF (Pl.nextV v) (Pl.nextF v) w) := by
  rcases Pl.vrF_cases v with ⟨-, ok⟩ | hb
  · exact Next_good v a c w h ok
  · exact Next_bad v a c w h hb
end Go.Proofs.YtgngehfgcogceaaGreatDoor

end
section
/- What the library's variables hold; numerals. -/
namespace Go.Proofs.YtgngehfgcogceaaGreatDoor
open Go.RowKit

/-- The library's variables hold what their initialisers lay. -/
structure Env (w : World) : Prop where
  len : ∃ m, w.cell? ⟨1, 0, none⟩ = some (.int .i64 m)
  tab : Lib.TabIs Tryz.prog w "internal/strconv.uint64pow10" .u64 Lib.pow10Tab
  syn : ∃ te pe, w.cell? ⟨2, 0, none⟩ = some (.iface te pe)
  rng : ∃ te pe, w.cell? ⟨3, 0, none⟩ = some (.iface te pe)
theorem Env.below {w w' : World} (h : Env w) {B : Nat} (hb : Below B w w') (hB : w.heap.size ≤ B) : Env w' := by
  obtain ⟨⟨m, h1⟩, h2, ⟨t1, p1, h3⟩, ⟨t2, p2, h4⟩⟩ := h
  have cell : ∀ {a : Addr} {u : Value}, w.cell? a = some u → w'.cell? a = some u := fun {a u} hc => (hb.cell (p := a) (Nat.lt_of_lt_of_le (World.block_lt_of_cell? w _ hc) hB)).trans hc
  exact ⟨⟨m, cell h1⟩, Lib.tabBelow_of_tabIs h2 w' (hb.mono hB), ⟨t1, p1, cell h3⟩, ⟨t2, p2, cell h4⟩⟩

theorem Itoa_any (n : Int) (w : World) (h0 : 0 ≤ n) (h1 : n ≤ 9223372036854775807) (E : Env w) :
    Calls Tryz.prog 23 #[.int .i64 n] w fun e w' => e = .returned (.string ⟨(Pl.digS n).toArray⟩) ∧ Below w.heap.size w w' := by
  refine (Tryz.strconv_Itoa n (by omega) h1 w E.tab).mono ?_
  rintro e w' ⟨rfl, k, os, rfl⟩
  refine ⟨?_, Lib.below_grow _ _ (Nat.le_refl _) _ _⟩
  unfold Lib.itoa Pl.digS
  rw [if_neg (by omega)]
end Go.Proofs.YtgngehfgcogceaaGreatDoor

end
section
/- What the rows of versions give of the library's variables: Env. -/
namespace Go.Proofs.YtgngehfgcogceaaGreatDoor
open Go.ChangeShapes Go.WideShapes Go.ChangeAt Go.RowKit

theorem Tryz.star : "*" ++ "errors.errorString" = "*errors.errorString" := by decide
theorem Tryz.rowES (u : TypeId) (h : Tryz.prog.typeName? 3 u = some "*errors.errorString") : u = 210 :=
  typeName_ptr_named (nm := "errors.errorString") (by rw [Tryz.star]; kernel_rfl) (by kernel_rfl) (by decide) u (by rw [Tryz.star]; exact h)
def laidList : List (String × DataW Unit) := [("math/bits.deBruijn32tab", Rows.laid_math_bits_deBruijn32tab), ("math/bits.deBruijn64tab", Rows.laid_math_bits_deBruijn64tab), ("internal/strconv.uint64pow10", Rows.laid_internal_strconv_uint64pow10), ("unicode/utf8.acceptRanges", Rows.laid_unicode_utf8_acceptRanges), ("strconv.ErrRange", Rows.laid_strconv_ErrRange), ("strconv.ErrSyntax", Rows.laid_strconv_ErrSyntax), ("unicode/utf8.first", Rows.laid_unicode_utf8_first)]
theorem pow10_data : (Rows.laid_internal_strconv_uint64pow10 : DataW Unit) = Lib.tabData .u64 Lib.pow10Tab := by kernel_rfl
set_option maxRecDepth 100000 in
theorem env_of {W : World} (h : laidMetH Tryz.prog laidList W) (hs : W.ShapedOpen Tryz.prog) : Env W := by
  rw [MakeChecks.laidMetH_plain _ _ _ (by kernel_rfl)] at h
  have h2 := h.tail.tail
  have h4 := h2.tail.tail
  have h5 := h4.tail
  refine ⟨?_, ?_, ?_, ?_⟩
  · exact cell_of_shapedOpen_int hs (by decide +kernel) (zero := #[.int .i64 0]) (t := 3) (by kernel_rfl) rfl (by kernel_rfl) (by kernel_rfl) Tryz.underlying3
  · unfold laidList at h2
    rw [pow10_data] at h2
    exact Lib.tabIs_of_head (g := 0) (t := 177) (e := 150) (n := 20) (by kernel_rfl) (by kernel_rfl) (by kernel_rfl) (by kernel_rfl) (by kernel_rfl) (by kernel_rfl) h2
  · obtain ⟨a, s, hv, -, -, -⟩ := laid_sentinel (g := 2) (ti := 126) (tp := 210) (te := 212) (ts := 9) h5 (by kernel_rfl) (by kernel_rfl) Tryz.underlying126 Tryz.rowES Tryz.underlying210 Tryz.underlying212 rfl rfl Tryz.underlying9 (by kernel_rfl) (by kernel_rfl)
    exact ⟨_, _, by have h0 := World.var?_cell (g := 2) (by kernel_rfl) hv 0; simpa using h0⟩
  · obtain ⟨a, s, hv, -, -, -⟩ := laid_sentinel (g := 3) (ti := 126) (tp := 210) (te := 212) (ts := 9) h4 (by kernel_rfl) (by kernel_rfl) Tryz.underlying126 Tryz.rowES Tryz.underlying210 Tryz.underlying212 rfl rfl Tryz.underlying9 (by kernel_rfl) (by kernel_rfl)
    exact ⟨_, _, by have h0 := World.var?_cell (g := 3) (by kernel_rfl) hv 0; simpa using h0⟩

variable {H : Type} {enc : TypeId × Value → H}
/-- The wrap of a row whose world is laid and has its shape. -/
theorem handed_laid_shaped {C : Checked} {os : Os} {f : FuncId} {fn : Func} {s : ChangeSpec} {conds : List PathCond} {apart fresh handsOn again : Bool} {a : Assume} {X : World → Array Value → Prop}
    (hX : ∀ (w w' : World) (args : Array Value), w.heap = w'.heap → X w args → X w' args)
    (own : ownKnob C.prog.godebug = none) (started : os.Started) (noInit : C.prog.inits.idxOf? f = none) (hfn : C.prog.funcs[f]? = some fn)
    (witness : ∃ (w : World) (tape : Tape) (i : Input), w.os = os ∧ (w.forCall tape i).Shaped C.prog ∧ i.vars = [] ∧ Input.okWide C.prog (w.forCall tape i) .any w.heap.size f i ∧
      ((s.pre enc C.prog fn conds apart (w.forCall tape i).memory i.args ∧ X (w.forCall tape i).memory i.args) ∧ sizedMet enc C.prog fn (OpenSpec.ofChange s) apart (w.forCall tape i).memory i.args) ∧ a.holds C.prog (lone (Frame.enter C.prog f i.args .normal) [] (w.forCall tape i)))
    (contract : ∀ (W : World) (base : Nat) (args : Array Value) (ds gs : List (DataW H)) (before : List MemPlace),
      (∀ (j : Nat) t v, fn.params[j]? = some t → args[j]? = some v → Value.okWide C.prog W .any base t v) →
      DataW.Whole enc C.prog fn.params.toList s.vars apart W args.toList ds gs before →
      X W args → W.ShapedOpen C.prog →
      Calls C.prog f args W fun e W' => ∃ v, e = .returned v ∧ s.post enc C.prog fn apart fresh handsOn again W args v W') :
    ReturnsInHanded a C os f .any (fun w args => (s.pre enc C.prog fn conds apart w args ∧ X w args) ∧ sizedMet enc C.prog fn (OpenSpec.ofChange s) apart w args) (s.post enc C.prog fn apart fresh handsOn again) := by
  refine returnsInHanded_of_calls own started noInit witness ?_
  intro w tape i _ hsh _ hok hpre hholds
  obtain ⟨_, _, _, fn', hfn', _, _, _, _, hval⟩ := hok
  have e : fn' = fn := Option.some.inj (hfn'.symm.trans hfn)
  subst e
  obtain ⟨⟨⟨ds, gs, before, hw, hc⟩, hx⟩, hz⟩ := hpre
  have hw' := DataW.Whole.of_heap (w' := w.forCall tape i) (by rfl) hw
  refine (contract (w.forCall tape i) w.heap.size i.args ds gs before hval hw' (hX _ _ _ (by rfl) hx) hsh).mono fun e W' ⟨v, he, hp⟩ => ?_
  subst he
  exact ChangeSpec.post_blind hp
end Go.Proofs.YtgngehfgcogceaaGreatDoor

end
section
/- From what a row's reading gives of its arguments to the words of the walks. -/
namespace Go.Proofs.YtgngehfgcogceaaGreatDoor
open Go.RowKit

theorem spot_none {w : World} {a : Addr} {v : Value} (h : w.cell? a = some v) : a = ⟨a.block, a.off, none⟩ := by
  obtain ⟨b, o, s⟩ := a
  cases s with
  | none => rfl
  | some k =>
    unfold World.cell? at h
    split at h
    · simp at h
    · cases h

/-- What a row says of a slice of integers that came in. -/
def Came (k : IntKind) (w : World) (a : Option Addr) (len cap : Nat) (zs : List Int) : Prop :=
  (a = none ∧ len = 0 ∧ cap = 0 ∧ zs = []) ∨
  ∃ x, a = some x ∧ len ≤ cap ∧ cap ≤ maxLen ∧ zs.length = cap ∧ (∀ i, i < zs.length → w.cell? (x.add i) = some (.int k (zs.getD i 0))) ∧ ∀ n ∈ zs, (Lit.int k n).wf = true

theorem Came.sl {k : IntKind} {w : World} {a : Option Addr} {len cap : Nat} {zs : List Int} (h : Came k w a len cap zs) : Sl w a len cap 1 ((zs.take len).map (Value.int k)) ∧ (zs.take len).length = len := by
  rcases h with ⟨rfl, rfl, rfl, rfl⟩ | ⟨x, rfl, h1, h2, h3, h4, _⟩
  · exact ⟨Sl.nil _ _, rfl⟩
  · have hl : (zs.take len).length = len := by rw [List.length_take]; omega
    refine ⟨⟨by rw [List.length_map, hl, Nat.mul_one], h1, h2, ?_⟩, hl⟩
    cases hn : len with
    | zero => exact .inl (by simp)
    | succ n =>
      have h0 := h4 0 (by omega)
      have hx : x.add 0 = x := by simp [Addr.add]
      rw [hx] at h0
      refine .inr ⟨x.block, x.off, by rw [← spot_none h0], World.block_lt_of_cell? w _ h0, fun j u hu => ?_⟩
      rw [List.getElem?_map, List.getElem?_take] at hu
      split at hu
      · rename_i hj
        have h5 := h4 j (by omega)
        rw [spot_none h0, addr_add] at h5
        rw [h5]
        have hj' : j < zs.length := by omega
        simp [hj'] at hu
        rw [← hu]
        simp [hj']
      · simp at hu

theorem Came.ints {w : World} {a : Option Addr} {len cap : Nat} {zs : List Int} (h : Came .i64 w a len cap zs) : ∃ xs : List Int, xs.length = len ∧ Sl w a len cap 1 (intVals xs) ∧ xs.length ≤ 9223372036854775807 := by
  refine ⟨zs.take len, h.sl.2, h.sl.1, ?_⟩
  have h1 := h.sl.1.hcap
  have h2 := h.sl.1.hmax
  rw [h.sl.2]
  simp only [maxLen] at h2
  omega

theorem u8_of {n : Int} (h : (Lit.int .u8 n).wf = true) : ((UInt8.ofNat n.toNat).toNat : Int) = n := by
  have hb := bounds_u8 h
  rw [UInt8.toNat_ofNat']
  omega

theorem Came.bytes {w : World} {a : Option Addr} {len cap : Nat} {zs : List Int} (h : Came .u8 w a len cap zs) : ∃ xs : List UInt8, xs.length = len ∧ Sl w a len cap 1 (byteVals xs) ∧ xs.length ≤ 9223372036854775807 := by
  have hwf : ∀ n ∈ zs, (Lit.int .u8 n).wf = true := by
    rcases h with ⟨_, _, _, rfl⟩ | ⟨x, _, _, _, _, _, h6⟩
    · intro n hn; cases hn
    · exact h6
  refine ⟨(zs.take len).map (fun n => UInt8.ofNat n.toNat), by rw [List.length_map]; exact h.sl.2, ?_, ?_⟩
  · have e : byteVals ((zs.take len).map (fun n => UInt8.ofNat n.toNat)) = (zs.take len).map (Value.int .u8) := by
      unfold byteVals
      rw [List.map_map]
      refine List.map_congr_left fun n hn => ?_
      simp only [Function.comp]
      rw [u8_of (hwf n (List.mem_of_mem_take hn))]
    rw [e]
    exact h.sl.1
  · have h1 := h.sl.1.hcap
    have h2 := h.sl.1.hmax
    rw [List.length_map, h.sl.2]
    simp only [maxLen] at h2
    omega
end Go.Proofs.YtgngehfgcogceaaGreatDoor

end
