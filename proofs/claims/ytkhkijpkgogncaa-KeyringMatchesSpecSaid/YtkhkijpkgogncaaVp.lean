/- The law KeyringMatchesSpec returns true. -/
import Derived.Test.YtkhkijpkgogncaaVi
import Derived.Test.YtkhkijpkgogncaaVg
import Derived.Test.YtkhkijpkgogncaaVh
import Derived.Test.YtkhkijpkgogncaaKv
namespace Go.Proofs.Ytkhkijpkgogncaa
open Go.RowKit

theorem owner_pos {l : List Pl.Ev} {k : Int} (hv : Pl.Valid l) (ha : 0 ≤ Pl.keyTime l k 1) : 0 ≤ Pl.keyOwner l k := by
  have h4 := Pl.keyTime_pos hv.times k 1
  rw [decide_eq_true ha] at h4
  obtain ⟨e, he⟩ := Option.isSome_iff_exists.1 h4
  have hu : ∀ e ∈ l, 0 ≤ e.user := by
    refine Pl.Valid.ind (P := fun l => ∀ e ∈ l, 0 ≤ e.user) (fun e he => by cases he) (fun l e _ ih hg x hx => ?_) l.length l rfl hv
    rcases List.mem_append.1 hx with hx | hx
    · exact ih x hx
    · rw [List.mem_singleton.1 hx]; exact (Pl.isUserB_true.1 hg.huser).1
  unfold Pl.keyOwner
  rw [he]
  exact hu e (List.mem_of_find?_eq_some he)
theorem owner_neg {l : List Pl.Ev} {k : Int} (hv : Pl.Valid l) (ha : ¬ 0 ≤ Pl.keyTime l k 1) : Pl.keyOwner l k < 0 := by
  have h4 := Pl.keyTime_pos hv.times k 1
  rw [decide_eq_false ha, Option.isSome_eq_false_iff, Option.isNone_iff_eq_none] at h4
  unfold Pl.keyOwner
  rw [h4]
  decide
set_option maxRecDepth 100000 in
set_option maxHeartbeats 2000000 in
theorem KeyringMatchesSpec_bad (l : List Pl.Ev) (k t u : Int) (oa : Option Addr) (cap : Nat) (w : World) (hs : Sl w oa l.length cap 4 (quadVals l)) (hm : l.length ≤ 9223372036854775807) (hw : ∀ e ∈ l, (Lit.int .i64 e.key).wf = true) (hb : (Pl.krF l).1 ≠ 0) : Calls Try.prog 9 #[.slice oa l.length cap, .int .i64 k, .int .i64 t, .int .i64 u] w fun e w' => e = .returned (.bool true) ∧ Below w.heap.size w w' := by
  obtain ⟨G, hG⟩ : ∃ G, Pl.krF l = G := ⟨_, rfl⟩
  have v1 : Pl.validF l k t = G := by unfold Pl.validF; rw [if_neg hb, hG]
  have v2 : Pl.ownerF l k = G := by unfold Pl.ownerF; rw [if_neg hb, hG]
  have v3 : Pl.ukF l u t = G := by unfold Pl.ukF; rw [if_neg hb, hG]
  rw [hG] at hb
  have VF := Lib.hid v1
  have OF := Lib.hid v2
  have UF := Lib.hid v3
  have VB := Lib.hid (show Pl.validB l k t = false by unfold Pl.validB; rw [v1]; simp [hb])
  have OV := Lib.hid (show Pl.ownerV l k = 0 by unfold Pl.ownerV; rw [v2, if_neg hb])
  have UV := Lib.hid (show Pl.ukV l u t = [] by unfold Pl.ukV; rw [v3, if_neg hb])
  have HF := Lib.hid hG
  have AKV := Lib.hid (rfl : Pl.kvB l k t = Pl.kvB l k t)
  have AKO := Lib.hid (rfl : Pl.keyOwner l k = Pl.keyOwner l k)
  have u1 : (G.1 == 0) = false := by simp [hb]
  have u2 : (G.1 != 0) = true := by simp [hb]
  clear hG hb v1 v2 v3
  go_enter Try.func9, Try.ntmps9
  go_wp2_with fail
  refine (KeyringFault_any l oa cap _ hs hm).mono ?_
  rw [HF.out]
  rintro e w1 ⟨rfl, hb1⟩
  have B1 : Below w.heap.size w w1 := bcall (by go_grown) hb1 (by go_size)
  have s1 := B1.size
  have q1 : w.heap.size ≤ w1.heap.size := by have h := hb1.size; first | omega | (simp at h; omega)
  clear hb1
  go_wp2_with fail
  refine wp_region_ord [0, 1, 2, 3, 5, 4, 6, 7] (by kernel_rfl) (by kernel_rfl) ?_
  repeat (refine wpI_rd rfl rfl ?_; go_big_quiet_step (fail); refine wpQuiet_nil ?_)
  refine wpI_call (f := 32) (args := #[]) rfl rfl rfl (by simp [go_sem]) ?_
  refine (keys_any _).mono ?_
  rintro e w2 ⟨rfl, hb2⟩
  refine ⟨_, rfl, hb2, ?_⟩
  have B2 : Below w.heap.size w w2 := bcall (by go_grown) hb2 (by go_size)
  have s2 := B2.size
  have q2 : w1.heap.size + 1 ≤ w2.heap.size := by have h := hb2.size; first | omega | (simp at h; omega)
  obtain ⟨ba0, ba1, baf, bag, bal⟩ := (Box2.new w1 (.int .i64 G.1) (.int .i64 G.2) 26).drew.below hb2 (by go_size)
  clear hb2
  try simp only [Act.put, List.setIfInBounds_toArray, List.set_cons_zero, List.set_cons_succ]
  repeat (refine wpI_rd rfl rfl ?_; go_big_quiet_step (fail); refine wpQuiet_nil ?_)
  refine wpI_call (f := 33) (args := #[.slice oa l.length cap]) rfl rfl rfl (by simp [go_sem]) ?_
  refine (kValidate_any l oa cap _ (hs.below (by go_grown) (Nat.le_refl _)) hm hw).mono ?_
  rw [HF.out]
  rintro e w3 ⟨rfl, hb3⟩
  refine ⟨_, rfl, hb3, ?_⟩
  have B3 : Below w.heap.size w w3 := bcall (by go_grown) hb3 (by go_size)
  have s3 := B3.size
  have q3 : w2.heap.size ≤ w3.heap.size := by have h := hb3.size; first | omega | (simp at h; omega)
  obtain ⟨ba0, ba1, baf, bag, bal⟩ := (Box2.mk ba0 ba1 baf bag bal).below hb3 (by go_size)
  clear hb3
  try simp only [Act.put, List.setIfInBounds_toArray, List.set_cons_zero, List.set_cons_succ]
  repeat (refine wpI_rd rfl rfl ?_; go_big_quiet_step (fail); refine wpQuiet_nil ?_)
  refine wpI_nil ?_
  try simp only [Act.put, List.setIfInBounds_toArray, List.set_cons_zero, List.set_cons_succ]
  go_wp2_with (first | (go_at_call 16; refine (rIsKey_any _ _).mono ?_; rintro e w' ⟨rfl, rfl⟩) | (go_at_call 18; refine (lin_any _ _ _ _).mono ?_; rintro e w' ⟨rfl, rfl⟩) | (go_at_call 35; refine (KeyValid_any l k t oa cap _ (hs.below (by go_grown) (Nat.le_refl _)) hm).mono ?_; rw [AKV.out]; rintro e w' ⟨rfl, rfl⟩) | (go_at_call 36; refine (KeyOwner_any l _ rfl k oa cap _ (hs.below (by go_grown) (Nat.le_refl _)) hm).mono ?_; rw [AKO.out]; rintro e w' ⟨rfl, rfl⟩))
  refine (kValid_any l k t oa cap _ (hs.below (by go_grown) (Nat.le_refl _)) hm hw).mono ?_
  rw [VB.out, VF.out]
  rintro e w4 ⟨rfl, hb4⟩
  have B4 : Below w.heap.size w w4 := bcall (by go_grown) hb4 (by go_size)
  have s4 := B4.size
  have q4 : w3.heap.size + 1 ≤ w4.heap.size := by have h := hb4.size; first | omega | (simp at h; omega)
  obtain ⟨ba0, ba1, baf, bag, bal⟩ := ((Box2.mk ba0 ba1 baf bag bal).alloc (.cells #[(.int .i64 G.1), (.int .i64 G.2)] 26)).below hb4 (by go_size)
  obtain ⟨bb0, bb1, bbf, bbg, bbl⟩ := (Box2.new w3 (.int .i64 G.1) (.int .i64 G.2) 26).below hb4 (by go_size)
  clear hb4
  go_wp2_with (first | (go_at_call 16; refine (rIsKey_any _ _).mono ?_; rintro e w' ⟨rfl, rfl⟩) | (go_at_call 18; refine (lin_any _ _ _ _).mono ?_; rintro e w' ⟨rfl, rfl⟩) | (go_at_call 35; refine (KeyValid_any l k t oa cap _ (hs.below (by go_grown) (Nat.le_refl _)) hm).mono ?_; rw [AKV.out]; rintro e w' ⟨rfl, rfl⟩) | (go_at_call 36; refine (KeyOwner_any l _ rfl k oa cap _ (hs.below (by go_grown) (Nat.le_refl _)) hm).mono ?_; rw [AKO.out]; rintro e w' ⟨rfl, rfl⟩))
  refine (kOwner_any l k oa cap _ (hs.below (by go_grown) (Nat.le_refl _)) hm hw).mono ?_
  rw [OV.out, OF.out]
  rintro e w5 ⟨rfl, hb5⟩
  have B5 : Below w.heap.size w w5 := bcall (by go_grown) hb5 (by go_size)
  have s5 := B5.size
  have q5 : w4.heap.size + 1 ≤ w5.heap.size := by have h := hb5.size; first | omega | (simp at h; omega)
  obtain ⟨ba0, ba1, baf, bag, bal⟩ := (((Box2.mk ba0 ba1 baf bag bal).other (r := w3.heap.size) (by omega) (.int .i64 G.1) (.int .i64 G.2)).alloc (.cells #[(.int .i64 G.1), (.int .i64 G.2)] 26)).below hb5 (by go_size)
  obtain ⟨bb0, bb1, bbf, bbg, bbl⟩ := (((Box2.mk bb0 bb1 bbf bbg bbl).set (.int .i64 G.1) (.int .i64 G.2)).alloc (.cells #[(.int .i64 G.1), (.int .i64 G.2)] 26)).below hb5 (by go_size)
  have bch := (Box2.new ((w4.setCell ⟨w3.heap.size, 0, none⟩ (.int .i64 G.1)).setCell ⟨w3.heap.size, 1, none⟩ (.int .i64 G.2)) (.int .i64 G.1) (.int .i64 G.2) 26).below hb5 (by go_size)
  simp only [World.size_setCell] at bch
  obtain ⟨bc0, bc1, bcf, bcg, bcl⟩ := bch
  clear hb5
  go_wp2_with (first | (go_at_call 16; refine (rIsKey_any _ _).mono ?_; rintro e w' ⟨rfl, rfl⟩) | (go_at_call 18; refine (lin_any _ _ _ _).mono ?_; rintro e w' ⟨rfl, rfl⟩) | (go_at_call 35; refine (KeyValid_any l k t oa cap _ (hs.below (by go_grown) (Nat.le_refl _)) hm).mono ?_; rw [AKV.out]; rintro e w' ⟨rfl, rfl⟩) | (go_at_call 36; refine (KeyOwner_any l _ rfl k oa cap _ (hs.below (by go_grown) (Nat.le_refl _)) hm).mono ?_; rw [AKO.out]; rintro e w' ⟨rfl, rfl⟩))
  refine (kKeys_any l u t oa cap _ (hs.below (by go_grown) (Nat.le_refl _)) hm hw).mono ?_
  rw [UV.out, UF.out]
  rintro e w6 ⟨o7, c7, rfl, own7, hb6⟩
  clear own7
  simp only [List.length_nil]
  have B6 : Below w.heap.size w w6 := bcall (by go_grown) hb6 (by go_size)
  have s6 := B6.size
  have q6 : w5.heap.size ≤ w6.heap.size := by have h := hb6.size; first | omega | (simp at h; omega)
  obtain ⟨ba0, ba1, baf, bag, bal⟩ := (((Box2.mk ba0 ba1 baf bag bal).other (r := w4.heap.size) (by omega) (.int .i64 G.1) (.int .i64 G.2)).other (r := w3.heap.size) (by omega) (.int .i64 G.1) (.int .i64 G.2)).below hb6 (by go_size)
  obtain ⟨bb0, bb1, bbf, bbg, bbl⟩ := (((Box2.mk bb0 bb1 bbf bbg bbl).other (r := w4.heap.size) (by omega) (.int .i64 G.1) (.int .i64 G.2)).set (.int .i64 G.1) (.int .i64 G.2)).below hb6 (by go_size)
  obtain ⟨bc0, bc1, bcf, bcg, bcl⟩ := (((Box2.mk bc0 bc1 bcf bcg bcl).set (.int .i64 G.1) (.int .i64 G.2)).other (r := w3.heap.size) (by omega) (.int .i64 G.1) (.int .i64 G.2)).below hb6 (by go_size)
  clear hb6
  go_wp2_with (first | (go_at_call 16; refine (rIsKey_any _ _).mono ?_; rintro e w' ⟨rfl, rfl⟩) | (go_at_call 18; refine (lin_any _ _ _ _).mono ?_; rintro e w' ⟨rfl, rfl⟩) | (go_at_call 35; refine (KeyValid_any l k t oa cap _ (hs.below (by go_grown) (Nat.le_refl _)) hm).mono ?_; rw [AKV.out]; rintro e w' ⟨rfl, rfl⟩) | (go_at_call 36; refine (KeyOwner_any l _ rfl k oa cap _ (hs.below (by go_grown) (Nat.le_refl _)) hm).mono ?_; rw [AKO.out]; rintro e w' ⟨rfl, rfl⟩))
  go_ret
  exact ⟨ret_true (by simp), by go_grown⟩
set_option maxRecDepth 100000 in
set_option maxHeartbeats 2000000 in
theorem KeyringMatchesSpec_g0000 (l : List Pl.Ev) (k t u : Int) (oa : Option Addr) (cap : Nat) (w : World) (hs : Sl w oa l.length cap 4 (quadVals l)) (hm : l.length ≤ 9223372036854775807) (hw : ∀ e ∈ l, (Lit.int .i64 e.key).wf = true) (hb : Pl.krF l = (0, 0)) (_ : l.length ≤ 40) (hv : Pl.Valid l) (hk : Pl.isKeyB k = false) (_ : Pl.inB t 0 100000 = false) (hu : Pl.inB u 0 7 = false) : Calls Try.prog 9 #[.slice oa l.length cap, .int .i64 k, .int .i64 t, .int .i64 u] w fun e w' => e = .returned (.bool true) ∧ Below w.heap.size w w' := by
  have HF := Lib.hid hb
  obtain ⟨VBX, hVB⟩ : ∃ x, Pl.kvB l k t = x := ⟨_, rfl⟩
  have AKV := Lib.hid hVB
  obtain ⟨OW, hOW⟩ : ∃ x, Pl.keyOwner l k = x := ⟨_, rfl⟩
  have AKO := Lib.hid hOW
  have hlk := Pl.ukS_length l u t
  have VF := Lib.hid (show Pl.validF l k t = (3, -1) by unfold Pl.validF; rw [if_pos (by rw [hb]), hk]; rfl)
  have VB := Lib.hid (show Pl.validB l k t = false by unfold Pl.validB; rw [VF.out]; rfl)
  have OF := Lib.hid (show Pl.ownerF l k = (3, -1) by unfold Pl.ownerF; rw [if_pos (by rw [hb]), if_neg (by rw [hk]; decide)])
  have OV := Lib.hid (show Pl.ownerV l k = 0 by unfold Pl.ownerV; rw [OF.out]; rfl)
  have UF := Lib.hid (show Pl.ukF l u t = (3, -1) by unfold Pl.ukF; rw [if_pos (by rw [hb]), show Pl.isUserB u = false from hu]; rfl)
  have UV := Lib.hid (show Pl.ukV l u t = [] by unfold Pl.ukV; rw [UF.out]; rfl)
  obtain ⟨LS, hLS⟩ : ∃ x, Pl.ukS l u t = x := ⟨_, rfl⟩
  replace hLS := Lib.hid hLS
  rw [hLS.out] at hlk
  replace hv := Lib.hid hv
  clear hb hVB hOW
  go_enter Try.func9, Try.ntmps9
  go_wp2_with fail
  refine (KeyringFault_any l oa cap _ hs hm).mono ?_
  rw [HF.out]
  rintro e w1 ⟨rfl, hb1⟩
  have B1 : Below w.heap.size w w1 := bcall (by go_grown) hb1 (by go_size)
  have s1 := B1.size
  have q1 : w.heap.size ≤ w1.heap.size := by have h := hb1.size; first | omega | (simp at h; omega)
  clear hb1
  go_wp2_with fail
  refine wp_region_ord [0, 1, 2, 3, 5, 4, 6, 7] (by kernel_rfl) (by kernel_rfl) ?_
  repeat (refine wpI_rd rfl rfl ?_; go_big_quiet_step (fail); refine wpQuiet_nil ?_)
  refine wpI_call (f := 32) (args := #[]) rfl rfl rfl (by simp [go_sem]) ?_
  refine (keys_any _).mono ?_
  rintro e w2 ⟨rfl, hb2⟩
  refine ⟨_, rfl, hb2, ?_⟩
  have B2 : Below w.heap.size w w2 := bcall (by go_grown) hb2 (by go_size)
  have s2 := B2.size
  have q2 : w1.heap.size + 1 ≤ w2.heap.size := by have h := hb2.size; first | omega | (simp at h; omega)
  obtain ⟨ba0, ba1, baf, bag, bal⟩ := (Box2.new w1 (.int .i64 0) (.int .i64 0) 26).drew.below hb2 (by go_size)
  clear hb2
  try simp only [Act.put, List.setIfInBounds_toArray, List.set_cons_zero, List.set_cons_succ]
  repeat (refine wpI_rd rfl rfl ?_; go_big_quiet_step (fail); refine wpQuiet_nil ?_)
  refine wpI_call (f := 33) (args := #[.slice oa l.length cap]) rfl rfl rfl (by simp [go_sem]) ?_
  refine (kValidate_any l oa cap _ (hs.below (by go_grown) (Nat.le_refl _)) hm hw).mono ?_
  rw [HF.out]
  rintro e w3 ⟨rfl, hb3⟩
  refine ⟨_, rfl, hb3, ?_⟩
  have B3 : Below w.heap.size w w3 := bcall (by go_grown) hb3 (by go_size)
  have s3 := B3.size
  have q3 : w2.heap.size ≤ w3.heap.size := by have h := hb3.size; first | omega | (simp at h; omega)
  obtain ⟨ba0, ba1, baf, bag, bal⟩ := (Box2.mk ba0 ba1 baf bag bal).below hb3 (by go_size)
  clear hb3
  try simp only [Act.put, List.setIfInBounds_toArray, List.set_cons_zero, List.set_cons_succ]
  repeat (refine wpI_rd rfl rfl ?_; go_big_quiet_step (fail); refine wpQuiet_nil ?_)
  refine wpI_nil ?_
  try simp only [Act.put, List.setIfInBounds_toArray, List.set_cons_zero, List.set_cons_succ]
  go_wp2_with (first | (go_at_call 16; refine (rIsKey_any _ _).mono ?_; rintro e w' ⟨rfl, rfl⟩) | (go_at_call 18; refine (lin_any _ _ _ _).mono ?_; rintro e w' ⟨rfl, rfl⟩) | (go_at_call 35; refine (KeyValid_any l k t oa cap _ (hs.below (by go_grown) (Nat.le_refl _)) hm).mono ?_; rw [AKV.out]; rintro e w' ⟨rfl, rfl⟩) | (go_at_call 36; refine (KeyOwner_any l _ rfl k oa cap _ (hs.below (by go_grown) (Nat.le_refl _)) hm).mono ?_; rw [AKO.out]; rintro e w' ⟨rfl, rfl⟩))
  refine (fault_any _ _ _).mono ?_
  rintro e w4 ⟨rfl, hb4⟩
  have B4 : Below w.heap.size w w4 := bcall (by go_grown) hb4 (by go_size)
  have s4 := B4.size
  have q4 : w3.heap.size + 1 ≤ w4.heap.size := by have h := hb4.size; first | omega | (simp at h; omega)
  obtain ⟨ba0, ba1, baf, bag, bal⟩ := ((Box2.mk ba0 ba1 baf bag bal).alloc (.cells #[(.int .i64 0), (.int .i64 0)] 26)).below hb4 (by go_size)
  obtain ⟨bb0, bb1, bbf, bbg, bbl⟩ := (Box2.new w3 (.int .i64 0) (.int .i64 0) 26).below hb4 (by go_size)
  clear hb4
  go_wp2_with (first | (go_at_call 16; refine (rIsKey_any _ _).mono ?_; rintro e w' ⟨rfl, rfl⟩) | (go_at_call 18; refine (lin_any _ _ _ _).mono ?_; rintro e w' ⟨rfl, rfl⟩) | (go_at_call 35; refine (KeyValid_any l k t oa cap _ (hs.below (by go_grown) (Nat.le_refl _)) hm).mono ?_; rw [AKV.out]; rintro e w' ⟨rfl, rfl⟩) | (go_at_call 36; refine (KeyOwner_any l _ rfl k oa cap _ (hs.below (by go_grown) (Nat.le_refl _)) hm).mono ?_; rw [AKO.out]; rintro e w' ⟨rfl, rfl⟩))
  refine (kValid_any l k t oa cap _ (hs.below (by go_grown) (Nat.le_refl _)) hm hw).mono ?_
  rw [VB.out, VF.out]
  rintro e w5 ⟨rfl, hb5⟩
  have B5 : Below w.heap.size w w5 := bcall (by go_grown) hb5 (by go_size)
  have s5 := B5.size
  have q5 : w4.heap.size ≤ w5.heap.size := by have h := hb5.size; first | omega | (simp at h; omega)
  obtain ⟨ba0, ba1, baf, bag, bal⟩ := ((Box2.mk ba0 ba1 baf bag bal).other (r := w3.heap.size) (by omega) (.int .i64 3) (.int .i64 (-1))).below hb5 (by go_size)
  obtain ⟨bb0, bb1, bbf, bbg, bbl⟩ := ((Box2.mk bb0 bb1 bbf bbg bbl).set (.int .i64 3) (.int .i64 (-1))).below hb5 (by go_size)
  clear hb5
  go_wp2_with (first | (go_at_call 16; refine (rIsKey_any _ _).mono ?_; rintro e w' ⟨rfl, rfl⟩) | (go_at_call 18; refine (lin_any _ _ _ _).mono ?_; rintro e w' ⟨rfl, rfl⟩) | (go_at_call 35; refine (KeyValid_any l k t oa cap _ (hs.below (by go_grown) (Nat.le_refl _)) hm).mono ?_; rw [AKV.out]; rintro e w' ⟨rfl, rfl⟩) | (go_at_call 36; refine (KeyOwner_any l _ rfl k oa cap _ (hs.below (by go_grown) (Nat.le_refl _)) hm).mono ?_; rw [AKO.out]; rintro e w' ⟨rfl, rfl⟩))
  refine (fault_any _ _ _).mono ?_
  rintro e w6 ⟨rfl, hb6⟩
  have B6 : Below w.heap.size w w6 := bcall (by go_grown) hb6 (by go_size)
  have s6 := B6.size
  have q6 : w5.heap.size + 1 ≤ w6.heap.size := by have h := hb6.size; first | omega | (simp at h; omega)
  obtain ⟨ba0, ba1, baf, bag, bal⟩ := (((Box2.mk ba0 ba1 baf bag bal).other (r := w3.heap.size) (by omega) (.int .i64 0) (.int .i64 0)).alloc (.cells #[(.int .i64 3), (.int .i64 (-1))] 26)).below hb6 (by go_size)
  obtain ⟨bb0, bb1, bbf, bbg, bbl⟩ := (((Box2.mk bb0 bb1 bbf bbg bbl).set (.int .i64 0) (.int .i64 0)).alloc (.cells #[(.int .i64 3), (.int .i64 (-1))] 26)).below hb6 (by go_size)
  have bch := (Box2.new ((w5.setCell ⟨w3.heap.size, 0, none⟩ (.int .i64 0)).setCell ⟨w3.heap.size, 1, none⟩ (.int .i64 0)) (.int .i64 3) (.int .i64 (-1)) 26).below hb6 (by go_size)
  simp only [World.size_setCell] at bch
  obtain ⟨bc0, bc1, bcf, bcg, bcl⟩ := bch
  clear hb6
  go_wp2_with (first | (go_at_call 16; refine (rIsKey_any _ _).mono ?_; rintro e w' ⟨rfl, rfl⟩) | (go_at_call 18; refine (lin_any _ _ _ _).mono ?_; rintro e w' ⟨rfl, rfl⟩) | (go_at_call 35; refine (KeyValid_any l k t oa cap _ (hs.below (by go_grown) (Nat.le_refl _)) hm).mono ?_; rw [AKV.out]; rintro e w' ⟨rfl, rfl⟩) | (go_at_call 36; refine (KeyOwner_any l _ rfl k oa cap _ (hs.below (by go_grown) (Nat.le_refl _)) hm).mono ?_; rw [AKO.out]; rintro e w' ⟨rfl, rfl⟩))
  refine (kOwner_any l k oa cap _ (hs.below (by go_grown) (Nat.le_refl _)) hm hw).mono ?_
  rw [OV.out, OF.out]
  rintro e w7 ⟨rfl, hb7⟩
  have B7 : Below w.heap.size w w7 := bcall (by go_grown) hb7 (by go_size)
  have s7 := B7.size
  have q7 : w6.heap.size ≤ w7.heap.size := by have h := hb7.size; first | omega | (simp at h; omega)
  obtain ⟨ba0, ba1, baf, bag, bal⟩ := ((Box2.mk ba0 ba1 baf bag bal).other (r := w3.heap.size) (by omega) (.int .i64 3) (.int .i64 (-1))).below hb7 (by go_size)
  obtain ⟨bb0, bb1, bbf, bbg, bbl⟩ := ((Box2.mk bb0 bb1 bbf bbg bbl).set (.int .i64 3) (.int .i64 (-1))).below hb7 (by go_size)
  obtain ⟨bc0, bc1, bcf, bcg, bcl⟩ := ((Box2.mk bc0 bc1 bcf bcg bcl).other (r := w3.heap.size) (by omega) (.int .i64 3) (.int .i64 (-1))).below hb7 (by go_size)
  clear hb7
  go_wp2_with (first | (go_at_call 16; refine (rIsKey_any _ _).mono ?_; rintro e w' ⟨rfl, rfl⟩) | (go_at_call 18; refine (lin_any _ _ _ _).mono ?_; rintro e w' ⟨rfl, rfl⟩) | (go_at_call 35; refine (KeyValid_any l k t oa cap _ (hs.below (by go_grown) (Nat.le_refl _)) hm).mono ?_; rw [AKV.out]; rintro e w' ⟨rfl, rfl⟩) | (go_at_call 36; refine (KeyOwner_any l _ rfl k oa cap _ (hs.below (by go_grown) (Nat.le_refl _)) hm).mono ?_; rw [AKO.out]; rintro e w' ⟨rfl, rfl⟩))
  refine (fault_any _ _ _).mono ?_
  rintro e w8 ⟨rfl, hb8⟩
  have B8 : Below w.heap.size w w8 := bcall (by go_grown) hb8 (by go_size)
  have s8 := B8.size
  have q8 : w7.heap.size ≤ w8.heap.size := by have h := hb8.size; first | omega | (simp at h; omega)
  obtain ⟨ba0, ba1, baf, bag, bal⟩ := (((Box2.mk ba0 ba1 baf bag bal).other (r := w5.heap.size) (by omega) (.int .i64 3) (.int .i64 (-1))).other (r := w3.heap.size) (by omega) (.int .i64 0) (.int .i64 0)).below hb8 (by go_size)
  obtain ⟨bb0, bb1, bbf, bbg, bbl⟩ := (((Box2.mk bb0 bb1 bbf bbg bbl).other (r := w5.heap.size) (by omega) (.int .i64 3) (.int .i64 (-1))).set (.int .i64 0) (.int .i64 0)).below hb8 (by go_size)
  obtain ⟨bc0, bc1, bcf, bcg, bcl⟩ := (((Box2.mk bc0 bc1 bcf bcg bcl).set (.int .i64 3) (.int .i64 (-1))).other (r := w3.heap.size) (by omega) (.int .i64 0) (.int .i64 0)).below hb8 (by go_size)
  clear hb8
  go_wp2_with (first | (go_at_call 16; refine (rIsKey_any _ _).mono ?_; rintro e w' ⟨rfl, rfl⟩) | (go_at_call 18; refine (lin_any _ _ _ _).mono ?_; rintro e w' ⟨rfl, rfl⟩) | (go_at_call 35; refine (KeyValid_any l k t oa cap _ (hs.below (by go_grown) (Nat.le_refl _)) hm).mono ?_; rw [AKV.out]; rintro e w' ⟨rfl, rfl⟩) | (go_at_call 36; refine (KeyOwner_any l _ rfl k oa cap _ (hs.below (by go_grown) (Nat.le_refl _)) hm).mono ?_; rw [AKO.out]; rintro e w' ⟨rfl, rfl⟩))
  refine (kKeys_any l u t oa cap _ (hs.below (by go_grown) (Nat.le_refl _)) hm hw).mono ?_
  rw [UV.out, UF.out]
  rintro e w9 ⟨o7, c7, rfl, own7, hb9⟩
  clear own7
  simp only [List.length_nil]
  have B9 : Below w.heap.size w w9 := bcall (by go_grown) hb9 (by go_size)
  have s9 := B9.size
  have q9 : w8.heap.size ≤ w9.heap.size := by have h := hb9.size; first | omega | (simp at h; omega)
  obtain ⟨ba0, ba1, baf, bag, bal⟩ := ((Box2.mk ba0 ba1 baf bag bal).other (r := w3.heap.size) (by omega) (.int .i64 3) (.int .i64 (-1))).below hb9 (by go_size)
  obtain ⟨bb0, bb1, bbf, bbg, bbl⟩ := ((Box2.mk bb0 bb1 bbf bbg bbl).set (.int .i64 3) (.int .i64 (-1))).below hb9 (by go_size)
  obtain ⟨bc0, bc1, bcf, bcg, bcl⟩ := ((Box2.mk bc0 bc1 bcf bcg bcl).other (r := w3.heap.size) (by omega) (.int .i64 3) (.int .i64 (-1))).below hb9 (by go_size)
  clear hb9
  go_wp2_with (first | (go_at_call 16; refine (rIsKey_any _ _).mono ?_; rintro e w' ⟨rfl, rfl⟩) | (go_at_call 18; refine (lin_any _ _ _ _).mono ?_; rintro e w' ⟨rfl, rfl⟩) | (go_at_call 35; refine (KeyValid_any l k t oa cap _ (hs.below (by go_grown) (Nat.le_refl _)) hm).mono ?_; rw [AKV.out]; rintro e w' ⟨rfl, rfl⟩) | (go_at_call 36; refine (KeyOwner_any l _ rfl k oa cap _ (hs.below (by go_grown) (Nat.le_refl _)) hm).mono ?_; rw [AKO.out]; rintro e w' ⟨rfl, rfl⟩))
  go_ret
  exact ⟨ret_true (by simp), by go_grown⟩
set_option maxRecDepth 100000 in
set_option maxHeartbeats 2000000 in
theorem KeyringMatchesSpec_g0001 (l : List Pl.Ev) (k t u : Int) (oa : Option Addr) (cap : Nat) (w : World) (hs : Sl w oa l.length cap 4 (quadVals l)) (hm : l.length ≤ 9223372036854775807) (hw : ∀ e ∈ l, (Lit.int .i64 e.key).wf = true) (hb : Pl.krF l = (0, 0)) (_ : l.length ≤ 40) (hv : Pl.Valid l) (hk : Pl.isKeyB k = false) (ht : Pl.inB t 0 100000 = false) (hu : Pl.inB u 0 7 = true) : Calls Try.prog 9 #[.slice oa l.length cap, .int .i64 k, .int .i64 t, .int .i64 u] w fun e w' => e = .returned (.bool true) ∧ Below w.heap.size w w' := by
  have HF := Lib.hid hb
  obtain ⟨VBX, hVB⟩ : ∃ x, Pl.kvB l k t = x := ⟨_, rfl⟩
  have AKV := Lib.hid hVB
  obtain ⟨OW, hOW⟩ : ∃ x, Pl.keyOwner l k = x := ⟨_, rfl⟩
  have AKO := Lib.hid hOW
  have hlk := Pl.ukS_length l u t
  have VF := Lib.hid (show Pl.validF l k t = (3, -1) by unfold Pl.validF; rw [if_pos (by rw [hb]), hk]; rfl)
  have VB := Lib.hid (show Pl.validB l k t = false by unfold Pl.validB; rw [VF.out]; rfl)
  have OF := Lib.hid (show Pl.ownerF l k = (3, -1) by unfold Pl.ownerF; rw [if_pos (by rw [hb]), if_neg (by rw [hk]; decide)])
  have OV := Lib.hid (show Pl.ownerV l k = 0 by unfold Pl.ownerV; rw [OF.out]; rfl)
  have UF := Lib.hid (show Pl.ukF l u t = (3, -1) by unfold Pl.ukF; rw [if_pos (by rw [hb]), show Pl.isUserB u = true from hu, show Pl.isTimeB t = false from ht]; rfl)
  have UV := Lib.hid (show Pl.ukV l u t = [] by unfold Pl.ukV; rw [UF.out]; rfl)
  obtain ⟨LS, hLS⟩ : ∃ x, Pl.ukS l u t = x := ⟨_, rfl⟩
  replace hLS := Lib.hid hLS
  rw [hLS.out] at hlk
  replace hv := Lib.hid hv
  clear hb hVB hOW
  go_enter Try.func9, Try.ntmps9
  go_wp2_with fail
  refine (KeyringFault_any l oa cap _ hs hm).mono ?_
  rw [HF.out]
  rintro e w1 ⟨rfl, hb1⟩
  have B1 : Below w.heap.size w w1 := bcall (by go_grown) hb1 (by go_size)
  have s1 := B1.size
  have q1 : w.heap.size ≤ w1.heap.size := by have h := hb1.size; first | omega | (simp at h; omega)
  clear hb1
  go_wp2_with fail
  refine wp_region_ord [0, 1, 2, 3, 5, 4, 6, 7] (by kernel_rfl) (by kernel_rfl) ?_
  repeat (refine wpI_rd rfl rfl ?_; go_big_quiet_step (fail); refine wpQuiet_nil ?_)
  refine wpI_call (f := 32) (args := #[]) rfl rfl rfl (by simp [go_sem]) ?_
  refine (keys_any _).mono ?_
  rintro e w2 ⟨rfl, hb2⟩
  refine ⟨_, rfl, hb2, ?_⟩
  have B2 : Below w.heap.size w w2 := bcall (by go_grown) hb2 (by go_size)
  have s2 := B2.size
  have q2 : w1.heap.size + 1 ≤ w2.heap.size := by have h := hb2.size; first | omega | (simp at h; omega)
  obtain ⟨ba0, ba1, baf, bag, bal⟩ := (Box2.new w1 (.int .i64 0) (.int .i64 0) 26).drew.below hb2 (by go_size)
  clear hb2
  try simp only [Act.put, List.setIfInBounds_toArray, List.set_cons_zero, List.set_cons_succ]
  repeat (refine wpI_rd rfl rfl ?_; go_big_quiet_step (fail); refine wpQuiet_nil ?_)
  refine wpI_call (f := 33) (args := #[.slice oa l.length cap]) rfl rfl rfl (by simp [go_sem]) ?_
  refine (kValidate_any l oa cap _ (hs.below (by go_grown) (Nat.le_refl _)) hm hw).mono ?_
  rw [HF.out]
  rintro e w3 ⟨rfl, hb3⟩
  refine ⟨_, rfl, hb3, ?_⟩
  have B3 : Below w.heap.size w w3 := bcall (by go_grown) hb3 (by go_size)
  have s3 := B3.size
  have q3 : w2.heap.size ≤ w3.heap.size := by have h := hb3.size; first | omega | (simp at h; omega)
  obtain ⟨ba0, ba1, baf, bag, bal⟩ := (Box2.mk ba0 ba1 baf bag bal).below hb3 (by go_size)
  clear hb3
  try simp only [Act.put, List.setIfInBounds_toArray, List.set_cons_zero, List.set_cons_succ]
  repeat (refine wpI_rd rfl rfl ?_; go_big_quiet_step (fail); refine wpQuiet_nil ?_)
  refine wpI_nil ?_
  try simp only [Act.put, List.setIfInBounds_toArray, List.set_cons_zero, List.set_cons_succ]
  go_wp2_with (first | (go_at_call 16; refine (rIsKey_any _ _).mono ?_; rintro e w' ⟨rfl, rfl⟩) | (go_at_call 18; refine (lin_any _ _ _ _).mono ?_; rintro e w' ⟨rfl, rfl⟩) | (go_at_call 35; refine (KeyValid_any l k t oa cap _ (hs.below (by go_grown) (Nat.le_refl _)) hm).mono ?_; rw [AKV.out]; rintro e w' ⟨rfl, rfl⟩) | (go_at_call 36; refine (KeyOwner_any l _ rfl k oa cap _ (hs.below (by go_grown) (Nat.le_refl _)) hm).mono ?_; rw [AKO.out]; rintro e w' ⟨rfl, rfl⟩))
  refine (fault_any _ _ _).mono ?_
  rintro e w4 ⟨rfl, hb4⟩
  have B4 : Below w.heap.size w w4 := bcall (by go_grown) hb4 (by go_size)
  have s4 := B4.size
  have q4 : w3.heap.size + 1 ≤ w4.heap.size := by have h := hb4.size; first | omega | (simp at h; omega)
  obtain ⟨ba0, ba1, baf, bag, bal⟩ := ((Box2.mk ba0 ba1 baf bag bal).alloc (.cells #[(.int .i64 0), (.int .i64 0)] 26)).below hb4 (by go_size)
  obtain ⟨bb0, bb1, bbf, bbg, bbl⟩ := (Box2.new w3 (.int .i64 0) (.int .i64 0) 26).below hb4 (by go_size)
  clear hb4
  go_wp2_with (first | (go_at_call 16; refine (rIsKey_any _ _).mono ?_; rintro e w' ⟨rfl, rfl⟩) | (go_at_call 18; refine (lin_any _ _ _ _).mono ?_; rintro e w' ⟨rfl, rfl⟩) | (go_at_call 35; refine (KeyValid_any l k t oa cap _ (hs.below (by go_grown) (Nat.le_refl _)) hm).mono ?_; rw [AKV.out]; rintro e w' ⟨rfl, rfl⟩) | (go_at_call 36; refine (KeyOwner_any l _ rfl k oa cap _ (hs.below (by go_grown) (Nat.le_refl _)) hm).mono ?_; rw [AKO.out]; rintro e w' ⟨rfl, rfl⟩))
  refine (kValid_any l k t oa cap _ (hs.below (by go_grown) (Nat.le_refl _)) hm hw).mono ?_
  rw [VB.out, VF.out]
  rintro e w5 ⟨rfl, hb5⟩
  have B5 : Below w.heap.size w w5 := bcall (by go_grown) hb5 (by go_size)
  have s5 := B5.size
  have q5 : w4.heap.size ≤ w5.heap.size := by have h := hb5.size; first | omega | (simp at h; omega)
  obtain ⟨ba0, ba1, baf, bag, bal⟩ := ((Box2.mk ba0 ba1 baf bag bal).other (r := w3.heap.size) (by omega) (.int .i64 3) (.int .i64 (-1))).below hb5 (by go_size)
  obtain ⟨bb0, bb1, bbf, bbg, bbl⟩ := ((Box2.mk bb0 bb1 bbf bbg bbl).set (.int .i64 3) (.int .i64 (-1))).below hb5 (by go_size)
  clear hb5
  go_wp2_with (first | (go_at_call 16; refine (rIsKey_any _ _).mono ?_; rintro e w' ⟨rfl, rfl⟩) | (go_at_call 18; refine (lin_any _ _ _ _).mono ?_; rintro e w' ⟨rfl, rfl⟩) | (go_at_call 35; refine (KeyValid_any l k t oa cap _ (hs.below (by go_grown) (Nat.le_refl _)) hm).mono ?_; rw [AKV.out]; rintro e w' ⟨rfl, rfl⟩) | (go_at_call 36; refine (KeyOwner_any l _ rfl k oa cap _ (hs.below (by go_grown) (Nat.le_refl _)) hm).mono ?_; rw [AKO.out]; rintro e w' ⟨rfl, rfl⟩))
  refine (fault_any _ _ _).mono ?_
  rintro e w6 ⟨rfl, hb6⟩
  have B6 : Below w.heap.size w w6 := bcall (by go_grown) hb6 (by go_size)
  have s6 := B6.size
  have q6 : w5.heap.size + 1 ≤ w6.heap.size := by have h := hb6.size; first | omega | (simp at h; omega)
  obtain ⟨ba0, ba1, baf, bag, bal⟩ := (((Box2.mk ba0 ba1 baf bag bal).other (r := w3.heap.size) (by omega) (.int .i64 0) (.int .i64 0)).alloc (.cells #[(.int .i64 3), (.int .i64 (-1))] 26)).below hb6 (by go_size)
  obtain ⟨bb0, bb1, bbf, bbg, bbl⟩ := (((Box2.mk bb0 bb1 bbf bbg bbl).set (.int .i64 0) (.int .i64 0)).alloc (.cells #[(.int .i64 3), (.int .i64 (-1))] 26)).below hb6 (by go_size)
  have bch := (Box2.new ((w5.setCell ⟨w3.heap.size, 0, none⟩ (.int .i64 0)).setCell ⟨w3.heap.size, 1, none⟩ (.int .i64 0)) (.int .i64 3) (.int .i64 (-1)) 26).below hb6 (by go_size)
  simp only [World.size_setCell] at bch
  obtain ⟨bc0, bc1, bcf, bcg, bcl⟩ := bch
  clear hb6
  go_wp2_with (first | (go_at_call 16; refine (rIsKey_any _ _).mono ?_; rintro e w' ⟨rfl, rfl⟩) | (go_at_call 18; refine (lin_any _ _ _ _).mono ?_; rintro e w' ⟨rfl, rfl⟩) | (go_at_call 35; refine (KeyValid_any l k t oa cap _ (hs.below (by go_grown) (Nat.le_refl _)) hm).mono ?_; rw [AKV.out]; rintro e w' ⟨rfl, rfl⟩) | (go_at_call 36; refine (KeyOwner_any l _ rfl k oa cap _ (hs.below (by go_grown) (Nat.le_refl _)) hm).mono ?_; rw [AKO.out]; rintro e w' ⟨rfl, rfl⟩))
  refine (kOwner_any l k oa cap _ (hs.below (by go_grown) (Nat.le_refl _)) hm hw).mono ?_
  rw [OV.out, OF.out]
  rintro e w7 ⟨rfl, hb7⟩
  have B7 : Below w.heap.size w w7 := bcall (by go_grown) hb7 (by go_size)
  have s7 := B7.size
  have q7 : w6.heap.size ≤ w7.heap.size := by have h := hb7.size; first | omega | (simp at h; omega)
  obtain ⟨ba0, ba1, baf, bag, bal⟩ := ((Box2.mk ba0 ba1 baf bag bal).other (r := w3.heap.size) (by omega) (.int .i64 3) (.int .i64 (-1))).below hb7 (by go_size)
  obtain ⟨bb0, bb1, bbf, bbg, bbl⟩ := ((Box2.mk bb0 bb1 bbf bbg bbl).set (.int .i64 3) (.int .i64 (-1))).below hb7 (by go_size)
  obtain ⟨bc0, bc1, bcf, bcg, bcl⟩ := ((Box2.mk bc0 bc1 bcf bcg bcl).other (r := w3.heap.size) (by omega) (.int .i64 3) (.int .i64 (-1))).below hb7 (by go_size)
  clear hb7
  go_wp2_with (first | (go_at_call 16; refine (rIsKey_any _ _).mono ?_; rintro e w' ⟨rfl, rfl⟩) | (go_at_call 18; refine (lin_any _ _ _ _).mono ?_; rintro e w' ⟨rfl, rfl⟩) | (go_at_call 35; refine (KeyValid_any l k t oa cap _ (hs.below (by go_grown) (Nat.le_refl _)) hm).mono ?_; rw [AKV.out]; rintro e w' ⟨rfl, rfl⟩) | (go_at_call 36; refine (KeyOwner_any l _ rfl k oa cap _ (hs.below (by go_grown) (Nat.le_refl _)) hm).mono ?_; rw [AKO.out]; rintro e w' ⟨rfl, rfl⟩))
  refine (fault_any _ _ _).mono ?_
  rintro e w8 ⟨rfl, hb8⟩
  have B8 : Below w.heap.size w w8 := bcall (by go_grown) hb8 (by go_size)
  have s8 := B8.size
  have q8 : w7.heap.size ≤ w8.heap.size := by have h := hb8.size; first | omega | (simp at h; omega)
  obtain ⟨ba0, ba1, baf, bag, bal⟩ := (((Box2.mk ba0 ba1 baf bag bal).other (r := w5.heap.size) (by omega) (.int .i64 3) (.int .i64 (-1))).other (r := w3.heap.size) (by omega) (.int .i64 0) (.int .i64 0)).below hb8 (by go_size)
  obtain ⟨bb0, bb1, bbf, bbg, bbl⟩ := (((Box2.mk bb0 bb1 bbf bbg bbl).other (r := w5.heap.size) (by omega) (.int .i64 3) (.int .i64 (-1))).set (.int .i64 0) (.int .i64 0)).below hb8 (by go_size)
  obtain ⟨bc0, bc1, bcf, bcg, bcl⟩ := (((Box2.mk bc0 bc1 bcf bcg bcl).set (.int .i64 3) (.int .i64 (-1))).other (r := w3.heap.size) (by omega) (.int .i64 0) (.int .i64 0)).below hb8 (by go_size)
  clear hb8
  go_wp2_with (first | (go_at_call 16; refine (rIsKey_any _ _).mono ?_; rintro e w' ⟨rfl, rfl⟩) | (go_at_call 18; refine (lin_any _ _ _ _).mono ?_; rintro e w' ⟨rfl, rfl⟩) | (go_at_call 35; refine (KeyValid_any l k t oa cap _ (hs.below (by go_grown) (Nat.le_refl _)) hm).mono ?_; rw [AKV.out]; rintro e w' ⟨rfl, rfl⟩) | (go_at_call 36; refine (KeyOwner_any l _ rfl k oa cap _ (hs.below (by go_grown) (Nat.le_refl _)) hm).mono ?_; rw [AKO.out]; rintro e w' ⟨rfl, rfl⟩))
  refine (kKeys_any l u t oa cap _ (hs.below (by go_grown) (Nat.le_refl _)) hm hw).mono ?_
  rw [UV.out, UF.out]
  rintro e w9 ⟨o7, c7, rfl, own7, hb9⟩
  clear own7
  simp only [List.length_nil]
  have B9 : Below w.heap.size w w9 := bcall (by go_grown) hb9 (by go_size)
  have s9 := B9.size
  have q9 : w8.heap.size ≤ w9.heap.size := by have h := hb9.size; first | omega | (simp at h; omega)
  obtain ⟨ba0, ba1, baf, bag, bal⟩ := ((Box2.mk ba0 ba1 baf bag bal).other (r := w3.heap.size) (by omega) (.int .i64 3) (.int .i64 (-1))).below hb9 (by go_size)
  obtain ⟨bb0, bb1, bbf, bbg, bbl⟩ := ((Box2.mk bb0 bb1 bbf bbg bbl).set (.int .i64 3) (.int .i64 (-1))).below hb9 (by go_size)
  obtain ⟨bc0, bc1, bcf, bcg, bcl⟩ := ((Box2.mk bc0 bc1 bcf bcg bcl).other (r := w3.heap.size) (by omega) (.int .i64 3) (.int .i64 (-1))).below hb9 (by go_size)
  clear hb9
  go_wp2_with (first | (go_at_call 16; refine (rIsKey_any _ _).mono ?_; rintro e w' ⟨rfl, rfl⟩) | (go_at_call 18; refine (lin_any _ _ _ _).mono ?_; rintro e w' ⟨rfl, rfl⟩) | (go_at_call 35; refine (KeyValid_any l k t oa cap _ (hs.below (by go_grown) (Nat.le_refl _)) hm).mono ?_; rw [AKV.out]; rintro e w' ⟨rfl, rfl⟩) | (go_at_call 36; refine (KeyOwner_any l _ rfl k oa cap _ (hs.below (by go_grown) (Nat.le_refl _)) hm).mono ?_; rw [AKO.out]; rintro e w' ⟨rfl, rfl⟩))
  go_ret
  exact ⟨ret_true (by simp), by go_grown⟩
set_option maxRecDepth 100000 in
set_option maxHeartbeats 2000000 in
theorem KeyringMatchesSpec_g0100 (l : List Pl.Ev) (k t u : Int) (oa : Option Addr) (cap : Nat) (w : World) (hs : Sl w oa l.length cap 4 (quadVals l)) (hm : l.length ≤ 9223372036854775807) (hw : ∀ e ∈ l, (Lit.int .i64 e.key).wf = true) (hb : Pl.krF l = (0, 0)) (_ : l.length ≤ 40) (hv : Pl.Valid l) (hk : Pl.isKeyB k = false) (_ : Pl.inB t 0 100000 = true) (hu : Pl.inB u 0 7 = false) : Calls Try.prog 9 #[.slice oa l.length cap, .int .i64 k, .int .i64 t, .int .i64 u] w fun e w' => e = .returned (.bool true) ∧ Below w.heap.size w w' := by
  have HF := Lib.hid hb
  obtain ⟨VBX, hVB⟩ : ∃ x, Pl.kvB l k t = x := ⟨_, rfl⟩
  have AKV := Lib.hid hVB
  obtain ⟨OW, hOW⟩ : ∃ x, Pl.keyOwner l k = x := ⟨_, rfl⟩
  have AKO := Lib.hid hOW
  have hlk := Pl.ukS_length l u t
  have VF := Lib.hid (show Pl.validF l k t = (3, -1) by unfold Pl.validF; rw [if_pos (by rw [hb]), hk]; rfl)
  have VB := Lib.hid (show Pl.validB l k t = false by unfold Pl.validB; rw [VF.out]; rfl)
  have OF := Lib.hid (show Pl.ownerF l k = (3, -1) by unfold Pl.ownerF; rw [if_pos (by rw [hb]), if_neg (by rw [hk]; decide)])
  have OV := Lib.hid (show Pl.ownerV l k = 0 by unfold Pl.ownerV; rw [OF.out]; rfl)
  have UF := Lib.hid (show Pl.ukF l u t = (3, -1) by unfold Pl.ukF; rw [if_pos (by rw [hb]), show Pl.isUserB u = false from hu]; rfl)
  have UV := Lib.hid (show Pl.ukV l u t = [] by unfold Pl.ukV; rw [UF.out]; rfl)
  obtain ⟨LS, hLS⟩ : ∃ x, Pl.ukS l u t = x := ⟨_, rfl⟩
  replace hLS := Lib.hid hLS
  rw [hLS.out] at hlk
  replace hv := Lib.hid hv
  clear hb hVB hOW
  go_enter Try.func9, Try.ntmps9
  go_wp2_with fail
  refine (KeyringFault_any l oa cap _ hs hm).mono ?_
  rw [HF.out]
  rintro e w1 ⟨rfl, hb1⟩
  have B1 : Below w.heap.size w w1 := bcall (by go_grown) hb1 (by go_size)
  have s1 := B1.size
  have q1 : w.heap.size ≤ w1.heap.size := by have h := hb1.size; first | omega | (simp at h; omega)
  clear hb1
  go_wp2_with fail
  refine wp_region_ord [0, 1, 2, 3, 5, 4, 6, 7] (by kernel_rfl) (by kernel_rfl) ?_
  repeat (refine wpI_rd rfl rfl ?_; go_big_quiet_step (fail); refine wpQuiet_nil ?_)
  refine wpI_call (f := 32) (args := #[]) rfl rfl rfl (by simp [go_sem]) ?_
  refine (keys_any _).mono ?_
  rintro e w2 ⟨rfl, hb2⟩
  refine ⟨_, rfl, hb2, ?_⟩
  have B2 : Below w.heap.size w w2 := bcall (by go_grown) hb2 (by go_size)
  have s2 := B2.size
  have q2 : w1.heap.size + 1 ≤ w2.heap.size := by have h := hb2.size; first | omega | (simp at h; omega)
  obtain ⟨ba0, ba1, baf, bag, bal⟩ := (Box2.new w1 (.int .i64 0) (.int .i64 0) 26).drew.below hb2 (by go_size)
  clear hb2
  try simp only [Act.put, List.setIfInBounds_toArray, List.set_cons_zero, List.set_cons_succ]
  repeat (refine wpI_rd rfl rfl ?_; go_big_quiet_step (fail); refine wpQuiet_nil ?_)
  refine wpI_call (f := 33) (args := #[.slice oa l.length cap]) rfl rfl rfl (by simp [go_sem]) ?_
  refine (kValidate_any l oa cap _ (hs.below (by go_grown) (Nat.le_refl _)) hm hw).mono ?_
  rw [HF.out]
  rintro e w3 ⟨rfl, hb3⟩
  refine ⟨_, rfl, hb3, ?_⟩
  have B3 : Below w.heap.size w w3 := bcall (by go_grown) hb3 (by go_size)
  have s3 := B3.size
  have q3 : w2.heap.size ≤ w3.heap.size := by have h := hb3.size; first | omega | (simp at h; omega)
  obtain ⟨ba0, ba1, baf, bag, bal⟩ := (Box2.mk ba0 ba1 baf bag bal).below hb3 (by go_size)
  clear hb3
  try simp only [Act.put, List.setIfInBounds_toArray, List.set_cons_zero, List.set_cons_succ]
  repeat (refine wpI_rd rfl rfl ?_; go_big_quiet_step (fail); refine wpQuiet_nil ?_)
  refine wpI_nil ?_
  try simp only [Act.put, List.setIfInBounds_toArray, List.set_cons_zero, List.set_cons_succ]
  go_wp2_with (first | (go_at_call 16; refine (rIsKey_any _ _).mono ?_; rintro e w' ⟨rfl, rfl⟩) | (go_at_call 18; refine (lin_any _ _ _ _).mono ?_; rintro e w' ⟨rfl, rfl⟩) | (go_at_call 35; refine (KeyValid_any l k t oa cap _ (hs.below (by go_grown) (Nat.le_refl _)) hm).mono ?_; rw [AKV.out]; rintro e w' ⟨rfl, rfl⟩) | (go_at_call 36; refine (KeyOwner_any l _ rfl k oa cap _ (hs.below (by go_grown) (Nat.le_refl _)) hm).mono ?_; rw [AKO.out]; rintro e w' ⟨rfl, rfl⟩))
  refine (fault_any _ _ _).mono ?_
  rintro e w4 ⟨rfl, hb4⟩
  have B4 : Below w.heap.size w w4 := bcall (by go_grown) hb4 (by go_size)
  have s4 := B4.size
  have q4 : w3.heap.size + 1 ≤ w4.heap.size := by have h := hb4.size; first | omega | (simp at h; omega)
  obtain ⟨ba0, ba1, baf, bag, bal⟩ := ((Box2.mk ba0 ba1 baf bag bal).alloc (.cells #[(.int .i64 0), (.int .i64 0)] 26)).below hb4 (by go_size)
  obtain ⟨bb0, bb1, bbf, bbg, bbl⟩ := (Box2.new w3 (.int .i64 0) (.int .i64 0) 26).below hb4 (by go_size)
  clear hb4
  go_wp2_with (first | (go_at_call 16; refine (rIsKey_any _ _).mono ?_; rintro e w' ⟨rfl, rfl⟩) | (go_at_call 18; refine (lin_any _ _ _ _).mono ?_; rintro e w' ⟨rfl, rfl⟩) | (go_at_call 35; refine (KeyValid_any l k t oa cap _ (hs.below (by go_grown) (Nat.le_refl _)) hm).mono ?_; rw [AKV.out]; rintro e w' ⟨rfl, rfl⟩) | (go_at_call 36; refine (KeyOwner_any l _ rfl k oa cap _ (hs.below (by go_grown) (Nat.le_refl _)) hm).mono ?_; rw [AKO.out]; rintro e w' ⟨rfl, rfl⟩))
  refine (kValid_any l k t oa cap _ (hs.below (by go_grown) (Nat.le_refl _)) hm hw).mono ?_
  rw [VB.out, VF.out]
  rintro e w5 ⟨rfl, hb5⟩
  have B5 : Below w.heap.size w w5 := bcall (by go_grown) hb5 (by go_size)
  have s5 := B5.size
  have q5 : w4.heap.size ≤ w5.heap.size := by have h := hb5.size; first | omega | (simp at h; omega)
  obtain ⟨ba0, ba1, baf, bag, bal⟩ := ((Box2.mk ba0 ba1 baf bag bal).other (r := w3.heap.size) (by omega) (.int .i64 3) (.int .i64 (-1))).below hb5 (by go_size)
  obtain ⟨bb0, bb1, bbf, bbg, bbl⟩ := ((Box2.mk bb0 bb1 bbf bbg bbl).set (.int .i64 3) (.int .i64 (-1))).below hb5 (by go_size)
  clear hb5
  go_wp2_with (first | (go_at_call 16; refine (rIsKey_any _ _).mono ?_; rintro e w' ⟨rfl, rfl⟩) | (go_at_call 18; refine (lin_any _ _ _ _).mono ?_; rintro e w' ⟨rfl, rfl⟩) | (go_at_call 35; refine (KeyValid_any l k t oa cap _ (hs.below (by go_grown) (Nat.le_refl _)) hm).mono ?_; rw [AKV.out]; rintro e w' ⟨rfl, rfl⟩) | (go_at_call 36; refine (KeyOwner_any l _ rfl k oa cap _ (hs.below (by go_grown) (Nat.le_refl _)) hm).mono ?_; rw [AKO.out]; rintro e w' ⟨rfl, rfl⟩))
  refine (fault_any _ _ _).mono ?_
  rintro e w6 ⟨rfl, hb6⟩
  have B6 : Below w.heap.size w w6 := bcall (by go_grown) hb6 (by go_size)
  have s6 := B6.size
  have q6 : w5.heap.size + 1 ≤ w6.heap.size := by have h := hb6.size; first | omega | (simp at h; omega)
  obtain ⟨ba0, ba1, baf, bag, bal⟩ := (((Box2.mk ba0 ba1 baf bag bal).other (r := w3.heap.size) (by omega) (.int .i64 0) (.int .i64 0)).alloc (.cells #[(.int .i64 3), (.int .i64 (-1))] 26)).below hb6 (by go_size)
  obtain ⟨bb0, bb1, bbf, bbg, bbl⟩ := (((Box2.mk bb0 bb1 bbf bbg bbl).set (.int .i64 0) (.int .i64 0)).alloc (.cells #[(.int .i64 3), (.int .i64 (-1))] 26)).below hb6 (by go_size)
  have bch := (Box2.new ((w5.setCell ⟨w3.heap.size, 0, none⟩ (.int .i64 0)).setCell ⟨w3.heap.size, 1, none⟩ (.int .i64 0)) (.int .i64 3) (.int .i64 (-1)) 26).below hb6 (by go_size)
  simp only [World.size_setCell] at bch
  obtain ⟨bc0, bc1, bcf, bcg, bcl⟩ := bch
  clear hb6
  go_wp2_with (first | (go_at_call 16; refine (rIsKey_any _ _).mono ?_; rintro e w' ⟨rfl, rfl⟩) | (go_at_call 18; refine (lin_any _ _ _ _).mono ?_; rintro e w' ⟨rfl, rfl⟩) | (go_at_call 35; refine (KeyValid_any l k t oa cap _ (hs.below (by go_grown) (Nat.le_refl _)) hm).mono ?_; rw [AKV.out]; rintro e w' ⟨rfl, rfl⟩) | (go_at_call 36; refine (KeyOwner_any l _ rfl k oa cap _ (hs.below (by go_grown) (Nat.le_refl _)) hm).mono ?_; rw [AKO.out]; rintro e w' ⟨rfl, rfl⟩))
  refine (kOwner_any l k oa cap _ (hs.below (by go_grown) (Nat.le_refl _)) hm hw).mono ?_
  rw [OV.out, OF.out]
  rintro e w7 ⟨rfl, hb7⟩
  have B7 : Below w.heap.size w w7 := bcall (by go_grown) hb7 (by go_size)
  have s7 := B7.size
  have q7 : w6.heap.size ≤ w7.heap.size := by have h := hb7.size; first | omega | (simp at h; omega)
  obtain ⟨ba0, ba1, baf, bag, bal⟩ := ((Box2.mk ba0 ba1 baf bag bal).other (r := w3.heap.size) (by omega) (.int .i64 3) (.int .i64 (-1))).below hb7 (by go_size)
  obtain ⟨bb0, bb1, bbf, bbg, bbl⟩ := ((Box2.mk bb0 bb1 bbf bbg bbl).set (.int .i64 3) (.int .i64 (-1))).below hb7 (by go_size)
  obtain ⟨bc0, bc1, bcf, bcg, bcl⟩ := ((Box2.mk bc0 bc1 bcf bcg bcl).other (r := w3.heap.size) (by omega) (.int .i64 3) (.int .i64 (-1))).below hb7 (by go_size)
  clear hb7
  go_wp2_with (first | (go_at_call 16; refine (rIsKey_any _ _).mono ?_; rintro e w' ⟨rfl, rfl⟩) | (go_at_call 18; refine (lin_any _ _ _ _).mono ?_; rintro e w' ⟨rfl, rfl⟩) | (go_at_call 35; refine (KeyValid_any l k t oa cap _ (hs.below (by go_grown) (Nat.le_refl _)) hm).mono ?_; rw [AKV.out]; rintro e w' ⟨rfl, rfl⟩) | (go_at_call 36; refine (KeyOwner_any l _ rfl k oa cap _ (hs.below (by go_grown) (Nat.le_refl _)) hm).mono ?_; rw [AKO.out]; rintro e w' ⟨rfl, rfl⟩))
  refine (fault_any _ _ _).mono ?_
  rintro e w8 ⟨rfl, hb8⟩
  have B8 : Below w.heap.size w w8 := bcall (by go_grown) hb8 (by go_size)
  have s8 := B8.size
  have q8 : w7.heap.size ≤ w8.heap.size := by have h := hb8.size; first | omega | (simp at h; omega)
  obtain ⟨ba0, ba1, baf, bag, bal⟩ := (((Box2.mk ba0 ba1 baf bag bal).other (r := w5.heap.size) (by omega) (.int .i64 3) (.int .i64 (-1))).other (r := w3.heap.size) (by omega) (.int .i64 0) (.int .i64 0)).below hb8 (by go_size)
  obtain ⟨bb0, bb1, bbf, bbg, bbl⟩ := (((Box2.mk bb0 bb1 bbf bbg bbl).other (r := w5.heap.size) (by omega) (.int .i64 3) (.int .i64 (-1))).set (.int .i64 0) (.int .i64 0)).below hb8 (by go_size)
  obtain ⟨bc0, bc1, bcf, bcg, bcl⟩ := (((Box2.mk bc0 bc1 bcf bcg bcl).set (.int .i64 3) (.int .i64 (-1))).other (r := w3.heap.size) (by omega) (.int .i64 0) (.int .i64 0)).below hb8 (by go_size)
  clear hb8
  go_wp2_with (first | (go_at_call 16; refine (rIsKey_any _ _).mono ?_; rintro e w' ⟨rfl, rfl⟩) | (go_at_call 18; refine (lin_any _ _ _ _).mono ?_; rintro e w' ⟨rfl, rfl⟩) | (go_at_call 35; refine (KeyValid_any l k t oa cap _ (hs.below (by go_grown) (Nat.le_refl _)) hm).mono ?_; rw [AKV.out]; rintro e w' ⟨rfl, rfl⟩) | (go_at_call 36; refine (KeyOwner_any l _ rfl k oa cap _ (hs.below (by go_grown) (Nat.le_refl _)) hm).mono ?_; rw [AKO.out]; rintro e w' ⟨rfl, rfl⟩))
  refine (kKeys_any l u t oa cap _ (hs.below (by go_grown) (Nat.le_refl _)) hm hw).mono ?_
  rw [UV.out, UF.out]
  rintro e w9 ⟨o7, c7, rfl, own7, hb9⟩
  clear own7
  simp only [List.length_nil]
  have B9 : Below w.heap.size w w9 := bcall (by go_grown) hb9 (by go_size)
  have s9 := B9.size
  have q9 : w8.heap.size ≤ w9.heap.size := by have h := hb9.size; first | omega | (simp at h; omega)
  obtain ⟨ba0, ba1, baf, bag, bal⟩ := ((Box2.mk ba0 ba1 baf bag bal).other (r := w3.heap.size) (by omega) (.int .i64 3) (.int .i64 (-1))).below hb9 (by go_size)
  obtain ⟨bb0, bb1, bbf, bbg, bbl⟩ := ((Box2.mk bb0 bb1 bbf bbg bbl).set (.int .i64 3) (.int .i64 (-1))).below hb9 (by go_size)
  obtain ⟨bc0, bc1, bcf, bcg, bcl⟩ := ((Box2.mk bc0 bc1 bcf bcg bcl).other (r := w3.heap.size) (by omega) (.int .i64 3) (.int .i64 (-1))).below hb9 (by go_size)
  clear hb9
  go_wp2_with (first | (go_at_call 16; refine (rIsKey_any _ _).mono ?_; rintro e w' ⟨rfl, rfl⟩) | (go_at_call 18; refine (lin_any _ _ _ _).mono ?_; rintro e w' ⟨rfl, rfl⟩) | (go_at_call 35; refine (KeyValid_any l k t oa cap _ (hs.below (by go_grown) (Nat.le_refl _)) hm).mono ?_; rw [AKV.out]; rintro e w' ⟨rfl, rfl⟩) | (go_at_call 36; refine (KeyOwner_any l _ rfl k oa cap _ (hs.below (by go_grown) (Nat.le_refl _)) hm).mono ?_; rw [AKO.out]; rintro e w' ⟨rfl, rfl⟩))
  go_ret
  exact ⟨ret_true (by simp), by go_grown⟩
set_option maxRecDepth 100000 in
set_option maxHeartbeats 2000000 in
theorem KeyringMatchesSpec_g0101 (l : List Pl.Ev) (k t u : Int) (oa : Option Addr) (cap : Nat) (w : World) (hs : Sl w oa l.length cap 4 (quadVals l)) (hm : l.length ≤ 9223372036854775807) (hw : ∀ e ∈ l, (Lit.int .i64 e.key).wf = true) (hb : Pl.krF l = (0, 0)) (h40 : l.length ≤ 40) (hv : Pl.Valid l) (hk : Pl.isKeyB k = false) (ht : Pl.inB t 0 100000 = true) (hu : Pl.inB u 0 7 = true) : Calls Try.prog 9 #[.slice oa l.length cap, .int .i64 k, .int .i64 t, .int .i64 u] w fun e w' => e = .returned (.bool true) ∧ Below w.heap.size w w' := by
  have HF := Lib.hid hb
  obtain ⟨VBX, hVB⟩ : ∃ x, Pl.kvB l k t = x := ⟨_, rfl⟩
  have AKV := Lib.hid hVB
  obtain ⟨OW, hOW⟩ : ∃ x, Pl.keyOwner l k = x := ⟨_, rfl⟩
  have AKO := Lib.hid hOW
  have hlk := Pl.ukS_length l u t
  have VF := Lib.hid (show Pl.validF l k t = (3, -1) by unfold Pl.validF; rw [if_pos (by rw [hb]), hk]; rfl)
  have VB := Lib.hid (show Pl.validB l k t = false by unfold Pl.validB; rw [VF.out]; rfl)
  have OF := Lib.hid (show Pl.ownerF l k = (3, -1) by unfold Pl.ownerF; rw [if_pos (by rw [hb]), if_neg (by rw [hk]; decide)])
  have OV := Lib.hid (show Pl.ownerV l k = 0 by unfold Pl.ownerV; rw [OF.out]; rfl)
  have UF := Lib.hid (show Pl.ukF l u t = (0, 0) by unfold Pl.ukF; rw [if_pos (by rw [hb]), show Pl.isUserB u = true from hu, show Pl.isTimeB t = true from ht]; rfl)
  have UV := Lib.hid (show Pl.ukV l u t = Pl.ukS l u t by unfold Pl.ukV; rw [UF.out]; rfl)
  obtain ⟨LS, hLS⟩ : ∃ x, Pl.ukS l u t = x := ⟨_, rfl⟩
  replace hLS := Lib.hid hLS
  rw [hLS.out] at hlk
  rw [hLS.out] at UV
  replace hv := Lib.hid hv
  clear hb hVB hOW
  go_enter Try.func9, Try.ntmps9
  go_wp2_with fail
  refine (KeyringFault_any l oa cap _ hs hm).mono ?_
  rw [HF.out]
  rintro e w1 ⟨rfl, hb1⟩
  have B1 : Below w.heap.size w w1 := bcall (by go_grown) hb1 (by go_size)
  have s1 := B1.size
  have q1 : w.heap.size ≤ w1.heap.size := by have h := hb1.size; first | omega | (simp at h; omega)
  clear hb1
  go_wp2_with fail
  refine wp_region_ord [0, 1, 2, 3, 5, 4, 6, 7] (by kernel_rfl) (by kernel_rfl) ?_
  repeat (refine wpI_rd rfl rfl ?_; go_big_quiet_step (fail); refine wpQuiet_nil ?_)
  refine wpI_call (f := 32) (args := #[]) rfl rfl rfl (by simp [go_sem]) ?_
  refine (keys_any _).mono ?_
  rintro e w2 ⟨rfl, hb2⟩
  refine ⟨_, rfl, hb2, ?_⟩
  have B2 : Below w.heap.size w w2 := bcall (by go_grown) hb2 (by go_size)
  have s2 := B2.size
  have q2 : w1.heap.size + 1 ≤ w2.heap.size := by have h := hb2.size; first | omega | (simp at h; omega)
  obtain ⟨ba0, ba1, baf, bag, bal⟩ := (Box2.new w1 (.int .i64 0) (.int .i64 0) 26).drew.below hb2 (by go_size)
  clear hb2
  try simp only [Act.put, List.setIfInBounds_toArray, List.set_cons_zero, List.set_cons_succ]
  repeat (refine wpI_rd rfl rfl ?_; go_big_quiet_step (fail); refine wpQuiet_nil ?_)
  refine wpI_call (f := 33) (args := #[.slice oa l.length cap]) rfl rfl rfl (by simp [go_sem]) ?_
  refine (kValidate_any l oa cap _ (hs.below (by go_grown) (Nat.le_refl _)) hm hw).mono ?_
  rw [HF.out]
  rintro e w3 ⟨rfl, hb3⟩
  refine ⟨_, rfl, hb3, ?_⟩
  have B3 : Below w.heap.size w w3 := bcall (by go_grown) hb3 (by go_size)
  have s3 := B3.size
  have q3 : w2.heap.size ≤ w3.heap.size := by have h := hb3.size; first | omega | (simp at h; omega)
  obtain ⟨ba0, ba1, baf, bag, bal⟩ := (Box2.mk ba0 ba1 baf bag bal).below hb3 (by go_size)
  clear hb3
  try simp only [Act.put, List.setIfInBounds_toArray, List.set_cons_zero, List.set_cons_succ]
  repeat (refine wpI_rd rfl rfl ?_; go_big_quiet_step (fail); refine wpQuiet_nil ?_)
  refine wpI_nil ?_
  try simp only [Act.put, List.setIfInBounds_toArray, List.set_cons_zero, List.set_cons_succ]
  go_wp2_with (first | (go_at_call 16; refine (rIsKey_any _ _).mono ?_; rintro e w' ⟨rfl, rfl⟩) | (go_at_call 18; refine (lin_any _ _ _ _).mono ?_; rintro e w' ⟨rfl, rfl⟩) | (go_at_call 35; refine (KeyValid_any l k t oa cap _ (hs.below (by go_grown) (Nat.le_refl _)) hm).mono ?_; rw [AKV.out]; rintro e w' ⟨rfl, rfl⟩) | (go_at_call 36; refine (KeyOwner_any l _ rfl k oa cap _ (hs.below (by go_grown) (Nat.le_refl _)) hm).mono ?_; rw [AKO.out]; rintro e w' ⟨rfl, rfl⟩))
  refine (fault_any _ _ _).mono ?_
  rintro e w4 ⟨rfl, hb4⟩
  have B4 : Below w.heap.size w w4 := bcall (by go_grown) hb4 (by go_size)
  have s4 := B4.size
  have q4 : w3.heap.size + 1 ≤ w4.heap.size := by have h := hb4.size; first | omega | (simp at h; omega)
  obtain ⟨ba0, ba1, baf, bag, bal⟩ := ((Box2.mk ba0 ba1 baf bag bal).alloc (.cells #[(.int .i64 0), (.int .i64 0)] 26)).below hb4 (by go_size)
  obtain ⟨bb0, bb1, bbf, bbg, bbl⟩ := (Box2.new w3 (.int .i64 0) (.int .i64 0) 26).below hb4 (by go_size)
  clear hb4
  go_wp2_with (first | (go_at_call 16; refine (rIsKey_any _ _).mono ?_; rintro e w' ⟨rfl, rfl⟩) | (go_at_call 18; refine (lin_any _ _ _ _).mono ?_; rintro e w' ⟨rfl, rfl⟩) | (go_at_call 35; refine (KeyValid_any l k t oa cap _ (hs.below (by go_grown) (Nat.le_refl _)) hm).mono ?_; rw [AKV.out]; rintro e w' ⟨rfl, rfl⟩) | (go_at_call 36; refine (KeyOwner_any l _ rfl k oa cap _ (hs.below (by go_grown) (Nat.le_refl _)) hm).mono ?_; rw [AKO.out]; rintro e w' ⟨rfl, rfl⟩))
  refine (kValid_any l k t oa cap _ (hs.below (by go_grown) (Nat.le_refl _)) hm hw).mono ?_
  rw [VB.out, VF.out]
  rintro e w5 ⟨rfl, hb5⟩
  have B5 : Below w.heap.size w w5 := bcall (by go_grown) hb5 (by go_size)
  have s5 := B5.size
  have q5 : w4.heap.size ≤ w5.heap.size := by have h := hb5.size; first | omega | (simp at h; omega)
  obtain ⟨ba0, ba1, baf, bag, bal⟩ := ((Box2.mk ba0 ba1 baf bag bal).other (r := w3.heap.size) (by omega) (.int .i64 3) (.int .i64 (-1))).below hb5 (by go_size)
  obtain ⟨bb0, bb1, bbf, bbg, bbl⟩ := ((Box2.mk bb0 bb1 bbf bbg bbl).set (.int .i64 3) (.int .i64 (-1))).below hb5 (by go_size)
  clear hb5
  go_wp2_with (first | (go_at_call 16; refine (rIsKey_any _ _).mono ?_; rintro e w' ⟨rfl, rfl⟩) | (go_at_call 18; refine (lin_any _ _ _ _).mono ?_; rintro e w' ⟨rfl, rfl⟩) | (go_at_call 35; refine (KeyValid_any l k t oa cap _ (hs.below (by go_grown) (Nat.le_refl _)) hm).mono ?_; rw [AKV.out]; rintro e w' ⟨rfl, rfl⟩) | (go_at_call 36; refine (KeyOwner_any l _ rfl k oa cap _ (hs.below (by go_grown) (Nat.le_refl _)) hm).mono ?_; rw [AKO.out]; rintro e w' ⟨rfl, rfl⟩))
  refine (fault_any _ _ _).mono ?_
  rintro e w6 ⟨rfl, hb6⟩
  have B6 : Below w.heap.size w w6 := bcall (by go_grown) hb6 (by go_size)
  have s6 := B6.size
  have q6 : w5.heap.size + 1 ≤ w6.heap.size := by have h := hb6.size; first | omega | (simp at h; omega)
  obtain ⟨ba0, ba1, baf, bag, bal⟩ := (((Box2.mk ba0 ba1 baf bag bal).other (r := w3.heap.size) (by omega) (.int .i64 0) (.int .i64 0)).alloc (.cells #[(.int .i64 3), (.int .i64 (-1))] 26)).below hb6 (by go_size)
  obtain ⟨bb0, bb1, bbf, bbg, bbl⟩ := (((Box2.mk bb0 bb1 bbf bbg bbl).set (.int .i64 0) (.int .i64 0)).alloc (.cells #[(.int .i64 3), (.int .i64 (-1))] 26)).below hb6 (by go_size)
  have bch := (Box2.new ((w5.setCell ⟨w3.heap.size, 0, none⟩ (.int .i64 0)).setCell ⟨w3.heap.size, 1, none⟩ (.int .i64 0)) (.int .i64 3) (.int .i64 (-1)) 26).below hb6 (by go_size)
  simp only [World.size_setCell] at bch
  obtain ⟨bc0, bc1, bcf, bcg, bcl⟩ := bch
  clear hb6
  go_wp2_with (first | (go_at_call 16; refine (rIsKey_any _ _).mono ?_; rintro e w' ⟨rfl, rfl⟩) | (go_at_call 18; refine (lin_any _ _ _ _).mono ?_; rintro e w' ⟨rfl, rfl⟩) | (go_at_call 35; refine (KeyValid_any l k t oa cap _ (hs.below (by go_grown) (Nat.le_refl _)) hm).mono ?_; rw [AKV.out]; rintro e w' ⟨rfl, rfl⟩) | (go_at_call 36; refine (KeyOwner_any l _ rfl k oa cap _ (hs.below (by go_grown) (Nat.le_refl _)) hm).mono ?_; rw [AKO.out]; rintro e w' ⟨rfl, rfl⟩))
  refine (kOwner_any l k oa cap _ (hs.below (by go_grown) (Nat.le_refl _)) hm hw).mono ?_
  rw [OV.out, OF.out]
  rintro e w7 ⟨rfl, hb7⟩
  have B7 : Below w.heap.size w w7 := bcall (by go_grown) hb7 (by go_size)
  have s7 := B7.size
  have q7 : w6.heap.size ≤ w7.heap.size := by have h := hb7.size; first | omega | (simp at h; omega)
  obtain ⟨ba0, ba1, baf, bag, bal⟩ := ((Box2.mk ba0 ba1 baf bag bal).other (r := w3.heap.size) (by omega) (.int .i64 3) (.int .i64 (-1))).below hb7 (by go_size)
  obtain ⟨bb0, bb1, bbf, bbg, bbl⟩ := ((Box2.mk bb0 bb1 bbf bbg bbl).set (.int .i64 3) (.int .i64 (-1))).below hb7 (by go_size)
  obtain ⟨bc0, bc1, bcf, bcg, bcl⟩ := ((Box2.mk bc0 bc1 bcf bcg bcl).other (r := w3.heap.size) (by omega) (.int .i64 3) (.int .i64 (-1))).below hb7 (by go_size)
  clear hb7
  go_wp2_with (first | (go_at_call 16; refine (rIsKey_any _ _).mono ?_; rintro e w' ⟨rfl, rfl⟩) | (go_at_call 18; refine (lin_any _ _ _ _).mono ?_; rintro e w' ⟨rfl, rfl⟩) | (go_at_call 35; refine (KeyValid_any l k t oa cap _ (hs.below (by go_grown) (Nat.le_refl _)) hm).mono ?_; rw [AKV.out]; rintro e w' ⟨rfl, rfl⟩) | (go_at_call 36; refine (KeyOwner_any l _ rfl k oa cap _ (hs.below (by go_grown) (Nat.le_refl _)) hm).mono ?_; rw [AKO.out]; rintro e w' ⟨rfl, rfl⟩))
  refine (kKeys_any l u t oa cap _ (hs.below (by go_grown) (Nat.le_refl _)) hm hw).mono ?_
  rw [UV.out, UF.out]
  rintro e w8 ⟨o7, c7, rfl, own7, hb8⟩
  have sl7 := Sl.own own7
  have ge7 := own_ge own7
  clear own7
  have B8 : Below w.heap.size w w8 := bcall (by go_grown) hb8 (by go_size)
  have s8 := B8.size
  have q8 : w7.heap.size ≤ w8.heap.size := by have h := hb8.size; first | omega | (simp at h; omega)
  obtain ⟨ba0, ba1, baf, bag, bal⟩ := (((Box2.mk ba0 ba1 baf bag bal).other (r := w5.heap.size) (by omega) (.int .i64 3) (.int .i64 (-1))).other (r := w3.heap.size) (by omega) (.int .i64 0) (.int .i64 0)).below hb8 (by go_size)
  obtain ⟨bb0, bb1, bbf, bbg, bbl⟩ := (((Box2.mk bb0 bb1 bbf bbg bbl).other (r := w5.heap.size) (by omega) (.int .i64 3) (.int .i64 (-1))).set (.int .i64 0) (.int .i64 0)).below hb8 (by go_size)
  obtain ⟨bc0, bc1, bcf, bcg, bcl⟩ := (((Box2.mk bc0 bc1 bcf bcg bcl).set (.int .i64 3) (.int .i64 (-1))).other (r := w3.heap.size) (by omega) (.int .i64 0) (.int .i64 0)).below hb8 (by go_size)
  clear hb8
  go_wp2_with (first | (go_at_call 16; refine (rIsKey_any _ _).mono ?_; rintro e w' ⟨rfl, rfl⟩) | (go_at_call 18; refine (lin_any _ _ _ _).mono ?_; rintro e w' ⟨rfl, rfl⟩) | (go_at_call 35; refine (KeyValid_any l k t oa cap _ (hs.below (by go_grown) (Nat.le_refl _)) hm).mono ?_; rw [AKV.out]; rintro e w' ⟨rfl, rfl⟩) | (go_at_call 36; refine (KeyOwner_any l _ rfl k oa cap _ (hs.below (by go_grown) (Nat.le_refl _)) hm).mono ?_; rw [AKO.out]; rintro e w' ⟨rfl, rfl⟩))
  refine (UserKeys_any l u t oa cap _ (hs.below (by go_grown) (Nat.le_refl _)) h40 hv.out).mono ?_
  rintro e w9 ⟨o8, c8, rfl, own8, hb9⟩
  rw [hLS.out] at own8
  rw [hLS.out]
  have sl8 := Sl.own own8
  clear own8
  have B9 : Below w.heap.size w w9 := bcall (by go_grown) hb9 (by go_size)
  have s9 := B9.size
  have q9 : w8.heap.size ≤ w9.heap.size := by have h := hb9.size; first | omega | (simp at h; omega)
  obtain ⟨ba0, ba1, baf, bag, bal⟩ := ((Box2.mk ba0 ba1 baf bag bal).other (r := w5.heap.size) (by omega) (.int .i64 0) (.int .i64 0)).below hb9 (by go_size)
  obtain ⟨bb0, bb1, bbf, bbg, bbl⟩ := ((Box2.mk bb0 bb1 bbf bbg bbl).other (r := w5.heap.size) (by omega) (.int .i64 0) (.int .i64 0)).below hb9 (by go_size)
  obtain ⟨bc0, bc1, bcf, bcg, bcl⟩ := ((Box2.mk bc0 bc1 bcf bcg bcl).set (.int .i64 0) (.int .i64 0)).below hb9 (by go_size)
  replace sl7 := (sl7.set2 (r := w5.heap.size) (fun b off hb => by have hb := ge7 b off hb; (try simp only [World.size_setCell] at hb); omega) (.int .i64 0) (.int .i64 0)).below hb9 (Nat.le_refl _)
  clear hb9
  go_wp2_with (first | (go_at_call 16; refine (rIsKey_any _ _).mono ?_; rintro e w' ⟨rfl, rfl⟩) | (go_at_call 18; refine (lin_any _ _ _ _).mono ?_; rintro e w' ⟨rfl, rfl⟩) | (go_at_call 35; refine (KeyValid_any l k t oa cap _ (hs.below (by go_grown) (Nat.le_refl _)) hm).mono ?_; rw [AKV.out]; rintro e w' ⟨rfl, rfl⟩) | (go_at_call 36; refine (KeyOwner_any l _ rfl k oa cap _ (hs.below (by go_grown) (Nat.le_refl _)) hm).mono ?_; rw [AKO.out]; rintro e w' ⟨rfl, rfl⟩))
  refine (Ints_any _ _ o7 o8 c7 c8 _ sl7 sl8 (by omega) (by omega)).mono ?_
  rw [decide_eq_true (Eq.refl LS)]
  rintro e w10 ⟨rfl, hb10⟩
  have B10 : Below w.heap.size w w10 := bcall (by go_grown) hb10 (by go_size)
  have s10 := B10.size
  have q10 : w9.heap.size ≤ w10.heap.size := by have h := hb10.size; first | omega | (simp at h; omega)
  obtain ⟨ba0, ba1, baf, bag, bal⟩ := (Box2.mk ba0 ba1 baf bag bal).below hb10 (by go_size)
  obtain ⟨bb0, bb1, bbf, bbg, bbl⟩ := (Box2.mk bb0 bb1 bbf bbg bbl).below hb10 (by go_size)
  obtain ⟨bc0, bc1, bcf, bcg, bcl⟩ := (Box2.mk bc0 bc1 bcf bcg bcl).below hb10 (by go_size)
  replace sl7 := sl7.below hb10 (Nat.le_refl _)
  replace sl8 := sl8.below hb10 (Nat.le_refl _)
  clear hb10
  go_wp2_with (first | (go_at_call 16; refine (rIsKey_any _ _).mono ?_; rintro e w' ⟨rfl, rfl⟩) | (go_at_call 18; refine (lin_any _ _ _ _).mono ?_; rintro e w' ⟨rfl, rfl⟩) | (go_at_call 35; refine (KeyValid_any l k t oa cap _ (hs.below (by go_grown) (Nat.le_refl _)) hm).mono ?_; rw [AKV.out]; rintro e w' ⟨rfl, rfl⟩) | (go_at_call 36; refine (KeyOwner_any l _ rfl k oa cap _ (hs.below (by go_grown) (Nat.le_refl _)) hm).mono ?_; rw [AKO.out]; rintro e w' ⟨rfl, rfl⟩))
  go_ret
  exact ⟨ret_true (by simp), by go_grown⟩
end Go.Proofs.Ytkhkijpkgogncaa
