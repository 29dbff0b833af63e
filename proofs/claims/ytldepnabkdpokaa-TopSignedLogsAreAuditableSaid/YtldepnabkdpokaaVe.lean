/- Contracts of package keyring: Owner, Keys. -/
import Derived.Test.YtldepnabkdpokaaVd
namespace Go.Proofs.Ytldepnabkdpokaa
open Go.RowKit

set_option maxHeartbeats 1000000 in
theorem kOwner_bad (l : List Pl.Ev) (k : Int) (oa : Option Addr) (cap : Nat) (w : World) (hs : Sl w oa l.length cap 4 (quadVals l)) (hm : l.length ≤ 9223372036854775807) (hw : ∀ e ∈ l, (Lit.int .i64 e.key).wf = true) (hbad : (Pl.krF l).1 ≠ 0) : Calls Try.prog 10 #[.slice oa l.length cap, .int .i64 k] w fun e w' => e = .returned (.tuple #[.int .i64 (Pl.ownerV l k), .agg #[.int .i64 (Pl.ownerF l k).1, .int .i64 (Pl.ownerF l k).2]]) ∧ Below w.heap.size w w' := by
  have HB : Pl.ownerF l k = Pl.krF l := by unfold Pl.ownerF; rw [if_neg hbad]
  have HV : Pl.ownerV l k = 0 := by unfold Pl.ownerV; rw [HB, if_neg hbad]
  rw [HB, HV]
  clear HB HV
  have hne := Lib.hid hbad
  obtain ⟨G, hG⟩ : ∃ G, Pl.krF l = G := ⟨_, rfl⟩
  rw [hG] at hbad
  have hF := Lib.hid hG
  have u0 : (G.1 == 0) = false := by simp [hbad]
  have u1 : (G.1 != 0) = true := by simp [hbad]
  clear hG hbad
  rw [hF.out]
  go_enter Try.func10, Try.ntmps10
  go_wp2_with fail
  refine (open_bad l hne.out oa cap _ (hs.below (by go_grown) (Nat.le_refl _)) hm hw).mono ?_
  rw [hF.out]
  rintro e w1 ⟨rfl, hb1⟩
  have B1 : Below w.heap.size w w1 := bcall (by go_grown) hb1 (by go_size)
  have s1 := B1.size
  have q1 : w.heap.size + 1 ≤ w1.heap.size := by have h := hb1.size; first | omega | (simp at h; omega)
  obtain ⟨ba0, ba1, baf, bag, bal⟩ := (Box2.new w (.int .i64 0) (.int .i64 0) 27).below hb1 (by go_size)
  clear hb1
  go_wp2_with fail
  go_region
  go_wp2_with fail
  have RB := (Box2.mk ba0 ba1 baf bag bal).set (.int .i64 (G.1)) (.int .i64 (G.2))
  obtain ⟨RB0, RB1, -, -, -⟩ := RB
  refine bodyPost_ret (v := .tuple #[.int .i64 0, .agg #[.int .i64 (G.1), .int .i64 (G.2)]]) (by simp [results, Try.results10, go_sem, RB0, RB1, bal]) rfl ⟨rfl, by go_grown⟩
set_option maxHeartbeats 1000000 in
theorem kOwner_key (l : List Pl.Ev) (k : Int) (oa : Option Addr) (cap : Nat) (w : World) (hs : Sl w oa l.length cap 4 (quadVals l)) (hm : l.length ≤ 9223372036854775807) (hw : ∀ e ∈ l, (Lit.int .i64 e.key).wf = true) (hgood : Pl.krF l = (0, 0)) (hk : Pl.isKeyB k = false) : Calls Try.prog 10 #[.slice oa l.length cap, .int .i64 k] w fun e w' => e = .returned (.tuple #[.int .i64 (Pl.ownerV l k), .agg #[.int .i64 (Pl.ownerF l k).1, .int .i64 (Pl.ownerF l k).2]]) ∧ Below w.heap.size w w' := by
  have HB : Pl.ownerF l k = (3, -1) := by unfold Pl.ownerF; rw [if_pos (by rw [hgood]), if_neg (by simp [hk])]
  have HV : Pl.ownerV l k = 0 := by unfold Pl.ownerV; rw [HB]; rfl
  rw [HB, HV]
  clear HB HV
  have hF := Lib.hid hgood
  clear hgood
  go_enter Try.func10, Try.ntmps10
  go_wp2_with fail
  refine (open_good l hF.out oa cap _ (hs.below (by go_grown) (Nat.le_refl _)) hm hw).mono ?_
  rintro e w1 ⟨g, rfl, hg, hkm, hb1⟩
  have B1 : Below w.heap.size w w1 := bcall (by go_grown) hb1 (by go_size)
  have s1 := B1.size
  have q1 : w.heap.size + 1 ≤ w1.heap.size := by have h := hb1.size; first | omega | (simp at h; omega)
  obtain ⟨ba0, ba1, baf, bag, bal⟩ := (Box2.new w (.int .i64 0) (.int .i64 0) 27).below hb1 (by go_size)
  have hg1 : w.heap.size + 1 ≤ g := by simp at hg; exact hg
  have hkl := hkm.lt
  clear hg
  clear hb1
  go_wp2_with (first | (go_at_call 27; refine (isKey_any _ _).mono ?_; rintro e w' ⟨rfl, rfl⟩))
  have RB := (Box2.mk ba0 ba1 baf bag bal).set (.int .i64 (3)) (.int .i64 (-1))
  obtain ⟨RB0, RB1, -, -, -⟩ := RB
  refine bodyPost_ret (v := .tuple #[.int .i64 0, .agg #[.int .i64 (3), .int .i64 (-1)]]) (by simp [results, Try.results10, go_sem, RB0, RB1, bal]) rfl ⟨rfl, by go_grown⟩
set_option maxHeartbeats 1000000 in
theorem kOwner_none (l : List Pl.Ev) (k : Int) (oa : Option Addr) (cap : Nat) (w : World) (hs : Sl w oa l.length cap 4 (quadVals l)) (hm : l.length ≤ 9223372036854775807) (hw : ∀ e ∈ l, (Lit.int .i64 e.key).wf = true) (hgood : Pl.krF l = (0, 0)) (hk : Pl.isKeyB k = true) (h0 : ¬ 0 ≤ Pl.keyTime l k 1) : Calls Try.prog 10 #[.slice oa l.length cap, .int .i64 k] w fun e w' => e = .returned (.tuple #[.int .i64 (Pl.ownerV l k), .agg #[.int .i64 (Pl.ownerF l k).1, .int .i64 (Pl.ownerF l k).2]]) ∧ Below w.heap.size w w' := by
  have HB : Pl.ownerF l k = (6, 0) := by unfold Pl.ownerF; rw [if_pos (by rw [hgood]), if_pos hk, if_neg h0]
  have HV : Pl.ownerV l k = 0 := by unfold Pl.ownerV; rw [HB]; rfl
  have hn : (Pl.lifeOf l k).isSome = false := by unfold Pl.lifeOf; rw [if_neg h0]; rfl
  rw [HB, HV]
  clear HB HV
  have hk64 : (Lit.int .i64 k).wf = true := by have := Pl.isKeyB_true.1 hk; exact WalkArith.wf_i64 (by omega)
  have hF := Lib.hid hgood
  clear hgood
  go_enter Try.func10, Try.ntmps10
  go_wp2_with fail
  refine (open_good l hF.out oa cap _ (hs.below (by go_grown) (Nat.le_refl _)) hm hw).mono ?_
  rintro e w1 ⟨g, rfl, hg, hkm, hb1⟩
  have B1 : Below w.heap.size w w1 := bcall (by go_grown) hb1 (by go_size)
  have s1 := B1.size
  have q1 : w.heap.size + 1 ≤ w1.heap.size := by have h := hb1.size; first | omega | (simp at h; omega)
  obtain ⟨ba0, ba1, baf, bag, bal⟩ := (Box2.new w (.int .i64 0) (.int .i64 0) 27).below hb1 (by go_size)
  have hg1 : w.heap.size + 1 ≤ g := by simp at hg; exact hg
  have hkl := hkm.lt
  clear hg
  clear hb1
  go_wp2_with (first | (go_at_call 27; refine (isKey_any _ _).mono ?_; rintro e w' ⟨rfl, rfl⟩) | (at_lookup; refine wp_look_ok rfl _ _ 53 rfl Try.underlying3 Try.underlying53 zeroL (hkm.below (by go_grown) hkm.lt) rfl rfl hk64 ?_))
  have RB := (Box2.mk ba0 ba1 baf bag bal).set (.int .i64 (6)) (.int .i64 (0))
  obtain ⟨RB0, RB1, -, -, -⟩ := RB
  refine bodyPost_ret (v := .tuple #[.int .i64 0, .agg #[.int .i64 (6), .int .i64 (0)]]) (by simp [results, Try.results10, go_sem, RB0, RB1, bal]) rfl ⟨rfl, by go_grown⟩
set_option maxHeartbeats 1000000 in
theorem kOwner_some (l : List Pl.Ev) (k : Int) (oa : Option Addr) (cap : Nat) (w : World) (hs : Sl w oa l.length cap 4 (quadVals l)) (hm : l.length ≤ 9223372036854775807) (hw : ∀ e ∈ l, (Lit.int .i64 e.key).wf = true) (hgood : Pl.krF l = (0, 0)) (hk : Pl.isKeyB k = true) (h0 : 0 ≤ Pl.keyTime l k 1) : Calls Try.prog 10 #[.slice oa l.length cap, .int .i64 k] w fun e w' => e = .returned (.tuple #[.int .i64 (Pl.ownerV l k), .agg #[.int .i64 (Pl.ownerF l k).1, .int .i64 (Pl.ownerF l k).2]]) ∧ Below w.heap.size w w' := by
  have HB : Pl.ownerF l k = (0, 0) := by unfold Pl.ownerF; rw [if_pos (by rw [hgood]), if_pos hk, if_pos h0]
  have HV : Pl.ownerV l k = Pl.keyOwner l k := by unfold Pl.ownerV; rw [HB]; rfl
  have hn : (Pl.lifeOf l k).isSome = true := by unfold Pl.lifeOf; rw [if_pos h0]; rfl
  rw [HB, HV]
  clear HB HV
  have hk64 : (Lit.int .i64 k).wf = true := by have := Pl.isKeyB_true.1 hk; exact WalkArith.wf_i64 (by omega)
  rw [show Pl.keyOwner l k = (Pl.lifeD l k).user by unfold Pl.lifeD Pl.lifeOf; rw [if_pos h0]; rfl]
  have hF := Lib.hid hgood
  clear hgood
  go_enter Try.func10, Try.ntmps10
  go_wp2_with fail
  refine (open_good l hF.out oa cap _ (hs.below (by go_grown) (Nat.le_refl _)) hm hw).mono ?_
  rintro e w1 ⟨g, rfl, hg, hkm, hb1⟩
  have B1 : Below w.heap.size w w1 := bcall (by go_grown) hb1 (by go_size)
  have s1 := B1.size
  have q1 : w.heap.size + 1 ≤ w1.heap.size := by have h := hb1.size; first | omega | (simp at h; omega)
  obtain ⟨ba0, ba1, baf, bag, bal⟩ := (Box2.new w (.int .i64 0) (.int .i64 0) 27).below hb1 (by go_size)
  have hg1 : w.heap.size + 1 ≤ g := by simp at hg; exact hg
  have hkl := hkm.lt
  clear hg
  clear hb1
  go_wp2_with (first | (go_at_call 27; refine (isKey_any _ _).mono ?_; rintro e w' ⟨rfl, rfl⟩) | (at_lookup; refine wp_look_ok rfl _ _ 53 rfl Try.underlying3 Try.underlying53 zeroL (hkm.below (by go_grown) hkm.lt) rfl rfl hk64 ?_))
  have RB := (Box2.mk ba0 ba1 baf bag bal).set (.int .i64 (0)) (.int .i64 (0))
  obtain ⟨RB0, RB1, -, -, -⟩ := RB
  refine bodyPost_ret (v := .tuple #[.int .i64 (Pl.lifeD l k).user, .agg #[.int .i64 (0), .int .i64 (0)]]) (by simp [results, Try.results10, go_sem, RB0, RB1, bal]) rfl ⟨rfl, by go_grown⟩
theorem kOwner_any (l : List Pl.Ev) (k : Int) (oa : Option Addr) (cap : Nat) (w : World) (hs : Sl w oa l.length cap 4 (quadVals l)) (hm : l.length ≤ 9223372036854775807) (hw : ∀ e ∈ l, (Lit.int .i64 e.key).wf = true) : Calls Try.prog 10 #[.slice oa l.length cap, .int .i64 k] w fun e w' => e = .returned (.tuple #[.int .i64 (Pl.ownerV l k), .agg #[.int .i64 (Pl.ownerF l k).1, .int .i64 (Pl.ownerF l k).2]]) ∧ Below w.heap.size w w' := by
  rcases Pl.krF_cases l with ⟨h, _⟩ | h
  · cases hk : Pl.isKeyB k with
    | false => exact kOwner_key l k oa cap w hs hm hw h hk
    | true =>
      by_cases h0 : 0 ≤ Pl.keyTime l k 1
      · exact kOwner_some l k oa cap w hs hm hw h hk h0
      · exact kOwner_none l k oa cap w hs hm hw h hk h0
  · exact kOwner_bad l k oa cap w hs hm hw h
set_option maxHeartbeats 4000000 in
theorem kKeys_bad (l : List Pl.Ev) (u t : Int) (oa : Option Addr) (cap : Nat) (w : World) (hs : Sl w oa l.length cap 4 (quadVals l)) (hm : l.length ≤ 9223372036854775807) (hw : ∀ e ∈ l, (Lit.int .i64 e.key).wf = true) (hbad : (Pl.krF l).1 ≠ 0) : Calls Try.prog 6 #[.slice oa l.length cap, .int .i64 u, .int .i64 t] w (RIntsF 3 (Pl.ukV l u t) (Pl.ukF l u t) w) := by
  have HB : Pl.ukF l u t = Pl.krF l := by unfold Pl.ukF; rw [if_neg hbad]
  have HV : Pl.ukV l u t = [] := by unfold Pl.ukV; rw [HB, if_neg hbad]
  rw [HB, HV]
  clear HB HV
  have hne := Lib.hid hbad
  obtain ⟨G, hG⟩ : ∃ G, Pl.krF l = G := ⟨_, rfl⟩
  rw [hG] at hbad
  have hF := Lib.hid hG
  have u0 : (G.1 == 0) = false := by simp [hbad]
  have u1 : (G.1 != 0) = true := by simp [hbad]
  clear hG hbad
  rw [hF.out]
  go_enter Try.func6, Try.ntmps6
  go_wp2_with fail
  refine (open_bad l hne.out oa cap _ (hs.below (by go_grown) (Nat.le_refl _)) hm hw).mono ?_
  rw [hF.out]
  rintro e w1 ⟨rfl, hb1⟩
  have B1 : Below w.heap.size w w1 := bcall (by go_grown) hb1 (by go_size)
  have s1 := B1.size
  have q1 : w.heap.size + 1 ≤ w1.heap.size := by have h := hb1.size; first | omega | (simp at h; omega)
  obtain ⟨ba0, ba1, baf, bag, bal⟩ := (Box2.new w (.int .i64 0) (.int .i64 0) 27).below hb1 (by go_size)
  clear hb1
  go_wp2_with fail
  go_region
  go_wp2_with fail
  have RB := (Box2.mk ba0 ba1 baf bag bal).set (.int .i64 (G.1)) (.int .i64 (G.2))
  obtain ⟨RB0, RB1, -, -, -⟩ := RB
  refine bodyPost_ret (v := .tuple #[.slice none 0 0, .agg #[.int .i64 (G.1), .int .i64 (G.2)]]) (by simp [results, Try.results6, go_sem, RB0, RB1, bal]) rfl (RIntsF.bad rfl rfl (by go_grown))
set_option maxHeartbeats 4000000 in
theorem kKeys_user (l : List Pl.Ev) (u t : Int) (oa : Option Addr) (cap : Nat) (w : World) (hs : Sl w oa l.length cap 4 (quadVals l)) (hm : l.length ≤ 9223372036854775807) (hw : ∀ e ∈ l, (Lit.int .i64 e.key).wf = true) (hgood : Pl.krF l = (0, 0)) (hk : Pl.isUserB u = false) : Calls Try.prog 6 #[.slice oa l.length cap, .int .i64 u, .int .i64 t] w (RIntsF 3 (Pl.ukV l u t) (Pl.ukF l u t) w) := by
  have HB : Pl.ukF l u t = (3, -1) := by unfold Pl.ukF; rw [if_pos (by rw [hgood]), if_neg (by simp [hk])]
  have HV : Pl.ukV l u t = [] := by unfold Pl.ukV; rw [HB]; rfl
  rw [HB, HV]
  clear HB HV
  have hF := Lib.hid hgood
  clear hgood
  go_enter Try.func6, Try.ntmps6
  go_wp2_with fail
  refine (open_good l hF.out oa cap _ (hs.below (by go_grown) (Nat.le_refl _)) hm hw).mono ?_
  rintro e w1 ⟨g, rfl, hg, hkm, hb1⟩
  have B1 : Below w.heap.size w w1 := bcall (by go_grown) hb1 (by go_size)
  have s1 := B1.size
  have q1 : w.heap.size + 1 ≤ w1.heap.size := by have h := hb1.size; first | omega | (simp at h; omega)
  obtain ⟨ba0, ba1, baf, bag, bal⟩ := (Box2.new w (.int .i64 0) (.int .i64 0) 27).below hb1 (by go_size)
  have hg1 : w.heap.size + 1 ≤ g := by simp at hg; exact hg
  have hkl := hkm.lt
  clear hg
  clear hb1
  go_wp2_with (first | (go_at_call 23; refine (isUser_any _ _).mono ?_; rintro e w' ⟨rfl, rfl⟩) | (go_at_call 24; refine (kIsTime_any _ _).mono ?_; rintro e w' ⟨rfl, rfl⟩))
  have RB := (Box2.mk ba0 ba1 baf bag bal).set (.int .i64 (3)) (.int .i64 (-1))
  obtain ⟨RB0, RB1, -, -, -⟩ := RB
  refine bodyPost_ret (v := .tuple #[.slice none 0 0, .agg #[.int .i64 (3), .int .i64 (-1)]]) (by simp [results, Try.results6, go_sem, RB0, RB1, bal]) rfl (RIntsF.bad rfl rfl (by go_grown))
set_option maxHeartbeats 4000000 in
theorem kKeys_time (l : List Pl.Ev) (u t : Int) (oa : Option Addr) (cap : Nat) (w : World) (hs : Sl w oa l.length cap 4 (quadVals l)) (hm : l.length ≤ 9223372036854775807) (hw : ∀ e ∈ l, (Lit.int .i64 e.key).wf = true) (hgood : Pl.krF l = (0, 0)) (hk : Pl.isUserB u = true) (ht : Pl.isTimeB t = false) : Calls Try.prog 6 #[.slice oa l.length cap, .int .i64 u, .int .i64 t] w (RIntsF 3 (Pl.ukV l u t) (Pl.ukF l u t) w) := by
  have HB : Pl.ukF l u t = (3, -1) := by unfold Pl.ukF; rw [if_pos (by rw [hgood]), if_neg (by simp [hk, ht])]
  have HV : Pl.ukV l u t = [] := by unfold Pl.ukV; rw [HB]; rfl
  rw [HB, HV]
  clear HB HV
  have hF := Lib.hid hgood
  clear hgood
  go_enter Try.func6, Try.ntmps6
  go_wp2_with fail
  refine (open_good l hF.out oa cap _ (hs.below (by go_grown) (Nat.le_refl _)) hm hw).mono ?_
  rintro e w1 ⟨g, rfl, hg, hkm, hb1⟩
  have B1 : Below w.heap.size w w1 := bcall (by go_grown) hb1 (by go_size)
  have s1 := B1.size
  have q1 : w.heap.size + 1 ≤ w1.heap.size := by have h := hb1.size; first | omega | (simp at h; omega)
  obtain ⟨ba0, ba1, baf, bag, bal⟩ := (Box2.new w (.int .i64 0) (.int .i64 0) 27).below hb1 (by go_size)
  have hg1 : w.heap.size + 1 ≤ g := by simp at hg; exact hg
  have hkl := hkm.lt
  clear hg
  clear hb1
  go_wp2_with (first | (go_at_call 23; refine (isUser_any _ _).mono ?_; rintro e w' ⟨rfl, rfl⟩) | (go_at_call 24; refine (kIsTime_any _ _).mono ?_; rintro e w' ⟨rfl, rfl⟩))
  have RB := (Box2.mk ba0 ba1 baf bag bal).set (.int .i64 (3)) (.int .i64 (-1))
  obtain ⟨RB0, RB1, -, -, -⟩ := RB
  refine bodyPost_ret (v := .tuple #[.slice none 0 0, .agg #[.int .i64 (3), .int .i64 (-1)]]) (by simp [results, Try.results6, go_sem, RB0, RB1, bal]) rfl (RIntsF.bad rfl rfl (by go_grown))
set_option maxHeartbeats 4000000 in
theorem kKeys_ok (l : List Pl.Ev) (u t : Int) (oa : Option Addr) (cap : Nat) (w : World) (hs : Sl w oa l.length cap 4 (quadVals l)) (hm : l.length ≤ 9223372036854775807) (hw : ∀ e ∈ l, (Lit.int .i64 e.key).wf = true) (hgood : Pl.krF l = (0, 0)) (hk : Pl.isUserB u = true) (ht : Pl.isTimeB t = true) (hv : Pl.Valid l) (h40 : l.length ≤ 40) : Calls Try.prog 6 #[.slice oa l.length cap, .int .i64 u, .int .i64 t] w (RIntsF 3 (Pl.ukV l u t) (Pl.ukF l u t) w) := by
  have HB : Pl.ukF l u t = (0, 0) := by unfold Pl.ukF; rw [if_pos (by rw [hgood]), if_pos (by rw [hk, ht]; rfl)]
  have HV : Pl.ukV l u t = Pl.ukS l u t := by unfold Pl.ukV; rw [HB]; rfl
  rw [HB, HV]
  clear HB HV
  replace hv := Lib.hid hv
  have hF := Lib.hid hgood
  clear hgood
  go_enter Try.func6, Try.ntmps6
  go_wp2_with fail
  refine (open_good l hF.out oa cap _ (hs.below (by go_grown) (Nat.le_refl _)) hm hw).mono ?_
  rintro e w1 ⟨g, rfl, hg, hkm, hb1⟩
  have B1 : Below w.heap.size w w1 := bcall (by go_grown) hb1 (by go_size)
  have s1 := B1.size
  have q1 : w.heap.size + 1 ≤ w1.heap.size := by have h := hb1.size; first | omega | (simp at h; omega)
  obtain ⟨ba0, ba1, baf, bag, bal⟩ := (Box2.new w (.int .i64 0) (.int .i64 0) 27).below hb1 (by go_size)
  have hg1 : w.heap.size + 1 ≤ g := by simp at hg; exact hg
  have hkl := hkm.lt
  clear hg
  clear hb1
  obtain ⟨D, hown, hD⟩ := hkm
  go_wp2_with (first | (at_range; refine wpList_range_own _ rfl _ 53 rfl 3 57 (Maps.int_keyed Try.underlying3) Try.underlying53 lifeR g l.length D rfl (hown.alloc _) ?_; intro w2 hrg2 hg2 hs2) | (go_at_call 23; refine (isUser_any _ _).mono ?_; rintro e w' ⟨rfl, rfl⟩) | (go_at_call 24; refine (kIsTime_any _ _).mono ?_; rintro e w' ⟨rfl, rfl⟩))
  obtain ⟨r, hr⟩ : ∃ r, (w1.alloc (.cells #[.int .i64 0, .int .i64 0] 27)).heap.size = r := ⟨_, rfl⟩
  rw [hr] at hrg2 hs2
  rw [hr]
  have r1 : w1.heap.size < r := by rw [← hr]; simp
  have r2 : r < w2.heap.size := by omega
  clear hs2
  have B2 : Below w.heap.size w w2 := Below.grown (B1.alloc s1 (.cells #[.int .i64 0, .int .i64 0] 27)) hg2 (by rw [hr]; omega) (fun j hj => by cases hj)
  have bx2 : Box2 w2 w.heap.size (.int .i64 0) (.int .i64 0) := ((Box2.mk ba0 ba1 baf bag bal).alloc (.cells #[.int .i64 0, .int .i64 0] 27)).grown (hg2.but (some g)) (by omega)
  have hgl : g < w1.heap.size := hkl
  clear hg2 hown ba0 ba1 baf bag bal hr hkl
  go_frame
  go_loopw [10] (fun v wr => ∃ (left : Lit → Bool) (cnt : Nat) (xs : List Int) (o : Option Addr) (c : Nat), v = .slice o xs.length c ∧ wr.ranges Try.prog 3 lifeR g r l.length D left cnt ∧ Hid (Coll l left (fun x => (Pl.lifeD l x).user == u && Pl.lifeB (Pl.lifeD l x) t) xs) ∧ wr.ownsRow w2.heap.size 3 1 (.slice o xs.length c) xs.length (intVals xs) ∧ Box2 wr w.heap.size (.int .i64 0) (.int .i64 0) ∧ Below w.heap.size w wr ∧ w2.heap.size ≤ wr.heap.size) (fun _ wr => wr.rangeLeft g r)
  case atStart => exact ⟨_, _, [], none, 0, rfl, hrg2, Coll.start hD _, World.ownsRow_nil _ _ _ _, bx2, B2, Nat.le_refl _⟩
  case round =>
    obtain ⟨left, cnt, xs, o, c, rfl, hrg, hcl, hown2, hbx, hbw, hsz⟩ := hrel
    have sw := hbw.size
    have hx40 := hcl.out.length
    clear hrg2 bx2
    go_wp2_with (at_next; refine wp_next_life rfl _ rfl Try.underlying3 g r l.length D l left cnt rfl hrg hD ?_ ?_)
    · intro _ hl0
      obtain ⟨X0, X1, Xf, Xg, Xl⟩ := hbx
      go_wp2_with fail
      refine (Sort_own xs (.slice o xs.length c) w2.heap.size wr hown2 (by omega) hsz).mono ?_
      rintro e w3 ⟨rfl, own3, hb3⟩
      rw [Coll.done hv.out hcl.out hl0] at own3
      have hlen := own3.1
      rw [intVals_length, Nat.mul_one] at hlen
      have B3 : Below w.heap.size w w3 := hbw.trans (hb3.mono (by omega))
      have s3 := B3.size
      obtain ⟨X0, X1, Xf, Xg, Xl⟩ := (Box2.mk X0 X1 Xf Xg Xl).below hb3 (by omega)
      clear hb3 hown2 hrg hbw
      go_wp2_with fail
      have own5 := ownsRow_setCell_below (ownsRow_setCell_below own3 (a := ⟨w.heap.size, 0, none⟩) (by show w.heap.size < _; omega) (.int .i64 0)) (a := ⟨w.heap.size, 1, none⟩) (by show w.heap.size < _; omega) (.int .i64 0)
      have RB := (Box2.mk X0 X1 Xf Xg Xl).set (.int .i64 0) (.int .i64 0)
      obtain ⟨RB0, RB1, -, -, -⟩ := RB
      refine bodyPost_ret (v := .tuple #[.slice o xs.length c, .agg #[.int .i64 0, .int .i64 0]]) (by simp [results, Try.results6, go_sem, RB0, RB1]) rfl (RIntsF.ok (n := xs.length) rfl hlen.symm own5 (by omega) (by go_grown))
    · intro x w4 cnt1 hlx hsome hrg1 hlt hg1 hs1 hen
      have B4 : Below w.heap.size w w4 := Below.grown hbw hg1 sw (fun j hj => by cases hj; omega)
      have bx4 : Box2 w4 w.heap.size (.int .i64 0) (.int .i64 0) := hbx.grown hg1 (by omega)
      have own4 := hown2.kept hg1 (by
        cases ho : (Value.slice o xs.length c).ownBlock with
        | none => exact .inl rfl
        | some k =>
          have := (hown2.lt k ho).1
          right
          intro h
          cases h
          omega)
      have HLE := Lib.hid hrg.left_eq
      clear hbx hown2 hg1 hrg hbw
      obtain ⟨⟨lu, la, lb, lg⟩, hL⟩ : ∃ L, Pl.lifeD l x = L := ⟨_, rfl⟩
      rw [hL] at hen ⊢
      simp only at hen ⊢
      have HL := Lib.hid hL
      clear hL
      have s4 := B4.size
      obtain ⟨X0, X1, Xf, Xg, Xl⟩ := bx4
      have BLK : ∀ b : Bool, True := fun _ => trivial
      by_cases hu : lu = u
      · have u1 : (lu == u) = true := by simp [hu]
        cases hb : Pl.lifeB ⟨lu, la, lb, lg⟩ t with
        | false =>
          have hwant := Lib.hid (show ((Pl.lifeD l x).user == u && Pl.lifeB (Pl.lifeD l x) t) = false by rw [HL.out, hb]; simp)
          replace hb := Lib.hid hb
          clear hu
          go_wp2_with fail
          refine (lifeValid_any ⟨lu, la, lb, lg⟩ t _).mono ?_
          rw [hb.out]
          rintro e w5 ⟨rfl, hb5⟩
          have ba : Below w4.heap.size w4 (w4.alloc (.cells #[.int .i64 lu, .int .i64 la, .int .i64 lb, .bool lg] 57)) := (Below.refl _ _).alloc (Nat.le_refl _) _
          have B45 : Below w4.heap.size w4 w5 := bcall ba hb5 (by simp)
          have B5 : Below w.heap.size w w5 := bcall B4 B45 s4
          have s5 := B45.size
          have hrg5 := ranges_below hrg1 B45 (by omega) (by omega)
          have own5 := ownsRow_below own4 B45 (Nat.le_refl _)
          obtain ⟨X0, X1, Xf, Xg, Xl⟩ := (Box2.mk X0 X1 Xf Xg Xl).below B45 (by omega)
          clear hb5 ba B45
          go_wp2_with fail
          go_roundw
          case rel => exact ⟨_, cnt1, xs, o, c, rfl, hrg5, Lib.hid (hcl.out.skip hlx hwant.out), own5, Box2.mk X0 X1 Xf Xg Xl, B5, by omega⟩
          case measure => rw [hrg5.left_eq, HLE.out]; exact hlt
        | true =>
          have hwant := Lib.hid (show ((Pl.lifeD l x).user == u && Pl.lifeB (Pl.lifeD l x) t) = true by rw [HL.out, hb]; simp [hu])
          replace hb := Lib.hid hb
          clear hu
          go_wp2_with fail
          refine (lifeValid_any ⟨lu, la, lb, lg⟩ t _).mono ?_
          rw [hb.out]
          rintro e w5 ⟨rfl, hb5⟩
          have ba : Below w4.heap.size w4 (w4.alloc (.cells #[.int .i64 lu, .int .i64 la, .int .i64 lb, .bool lg] 57)) := (Below.refl _ _).alloc (Nat.le_refl _) _
          have B45 : Below w4.heap.size w4 w5 := bcall ba hb5 (by simp)
          have B5 : Below w.heap.size w w5 := bcall B4 B45 s4
          have s5 := B45.size
          have hrg5 := ranges_below hrg1 B45 (by omega) (by omega)
          have own5 := ownsRow_below own4 B45 (Nat.le_refl _)
          obtain ⟨X0, X1, Xf, Xg, Xl⟩ := (Box2.mk X0 X1 Xf Xg Xl).below B45 (by omega)
          clear hb5 ba B45
          have s25 : w2.heap.size ≤ w5.heap.size := by omega
          go_wp2_with (at_builtin; refine ap1 (by rfl) (by rfl) Try.tInts (Below.refl w2.heap.size w5) (by rfl) own5 (m := 1) (by rfl) (by rfl) (by rfl) (by omega) s25 ?_; intro v6 w6 own6 bel6 sz6; obtain ⟨o6, c6, rfl⟩ := own_slice own6)
          have hrg6 := ranges_below hrg5 bel6 (by omega) (by omega)
          have bx6 := (Box2.mk X0 X1 Xf Xg Xl).below bel6 (by omega)
          go_roundw
          case rel => exact ⟨_, cnt1, xs ++ [x], o6, c6, by rw [List.length_append]; rfl, hrg6, Lib.hid (hcl.out.take hlx hsome hwant.out), (by rw [List.length_append, intVals_append]; exact own6), bx6, B5.trans (bel6.mono (by omega)), by omega⟩
          case measure => rw [hrg6.left_eq, HLE.out]; exact hlt
      · have u1 : (lu == u) = false := by simp [hu]
        have hwant := Lib.hid (show ((Pl.lifeD l x).user == u && Pl.lifeB (Pl.lifeD l x) t) = false by rw [HL.out]; simp [hu])
        clear hu
        go_wp2_with fail
        have hrg5 := hrg1.alloc (.cells #[.int .i64 lu, .int .i64 la, .int .i64 lb, .bool lg] 57)
        have own5 := own4.alloc (.cells #[.int .i64 lu, .int .i64 la, .int .i64 lb, .bool lg] 57)
        have bx5 := (Box2.mk X0 X1 Xf Xg Xl).alloc (.cells #[.int .i64 lu, .int .i64 la, .int .i64 lb, .bool lg] 57)
        go_roundw
        case rel => exact ⟨_, cnt1, xs, o, c, rfl, hrg5, Lib.hid (hcl.out.skip hlx hwant.out), own5, bx5, by go_grown, by simp; omega⟩
        case measure => rw [hrg5.left_eq, HLE.out]; exact hlt
theorem kKeys_any (l : List Pl.Ev) (u t : Int) (oa : Option Addr) (cap : Nat) (w : World) (hs : Sl w oa l.length cap 4 (quadVals l)) (hm : l.length ≤ 9223372036854775807) (hw : ∀ e ∈ l, (Lit.int .i64 e.key).wf = true) : Calls Try.prog 6 #[.slice oa l.length cap, .int .i64 u, .int .i64 t] w (RIntsF 3 (Pl.ukV l u t) (Pl.ukF l u t) w) := by
  rcases Pl.krF_cases l with ⟨h, h40, hv⟩ | h
  · cases hk : Pl.isUserB u with
    | false => exact kKeys_user l u t oa cap w hs hm hw h hk
    | true =>
      cases ht : Pl.isTimeB t with
      | false => exact kKeys_time l u t oa cap w hs hm hw h hk ht
      | true => exact kKeys_ok l u t oa cap w hs hm hw h hk ht hv h40
  · exact kKeys_bad l u t oa cap w hs hm hw h
end Go.Proofs.Ytldepnabkdpokaa
