/- Contracts of package keyring: Validate, Valid, Owner. -/
import Derived.Test.YtldepnabkdpokaaVb
namespace Go.Proofs.Ytldepnabkdpokaa
open Go.RowKit

theorem open_bad (l : List Pl.Ev) (hbad : (Pl.krF l).1 ≠ 0) (oa : Option Addr) (cap : Nat) (w : World) (hs : Sl w oa l.length cap 4 (quadVals l)) (hm : l.length ≤ 9223372036854775807) (hw : ∀ e ∈ l, (Lit.int .i64 e.key).wf = true) :
    Calls Try.prog 22 #[.slice oa l.length cap] w fun e w' => e = .returned (.tuple #[.map none, .agg #[.int .i64 (Pl.krF l).1, .int .i64 (Pl.krF l).2]]) ∧ Below w.heap.size w w' := by
  refine (open_any l oa cap w hs hm hw).mono ?_
  rintro e w1 ⟨hb1, ⟨-, rfl⟩ | ⟨h, -⟩⟩
  · exact ⟨rfl, hb1⟩
  · rw [h] at hbad; exact absurd rfl hbad
theorem open_good (l : List Pl.Ev) (hgood : Pl.krF l = (0, 0)) (oa : Option Addr) (cap : Nat) (w : World) (hs : Sl w oa l.length cap 4 (quadVals l)) (hm : l.length ≤ 9223372036854775807) (hw : ∀ e ∈ l, (Lit.int .i64 e.key).wf = true) :
    Calls Try.prog 22 #[.slice oa l.length cap] w fun e w' => ∃ g, e = .returned (.tuple #[.map (some g), .agg #[.int .i64 0, .int .i64 0]]) ∧ w.heap.size ≤ g ∧ KM Try.prog 3 w' g l.length l ∧ Below w.heap.size w w' := by
  refine (open_any l oa cap w hs hm hw).mono ?_
  rintro e w1 ⟨hb1, ⟨h, -⟩ | ⟨-, g, rfl, hg, hkm⟩⟩
  · rw [hgood] at h; exact absurd rfl h
  · exact ⟨g, rfl, hg, hkm, hb1⟩
theorem lifeValid_any (L : Pl.Life) (t : Int) (w : World) : Calls Try.prog 25 #[.agg #[.int .i64 L.user, .int .i64 L.start, .int .i64 L.stop, .bool L.gone], .int .i64 t] w fun e w' => e = .returned (.bool (Pl.lifeB L t)) ∧ Below w.heap.size w w' := by
  obtain ⟨u, a, b, c⟩ := L
  unfold Pl.lifeB
  simp only
  cases h1 : decide (a ≤ t) with
  | false =>
    go_enter Try.func25, Try.ntmps25
    go_wp2
    go_ret
    exact ⟨ret_bool (by simp), by go_grown⟩
  | true =>
    cases c with
    | false =>
      go_enter Try.func25, Try.ntmps25
      go_wp2
      go_ret
      exact ⟨ret_bool (by simp), by go_grown⟩
    | true =>
      go_enter Try.func25, Try.ntmps25
      go_wp2
      go_ret
      exact ⟨ret_bool (by simp), by go_grown⟩
set_option maxHeartbeats 1000000 in
theorem kValid_bad (l : List Pl.Ev) (k t : Int) (oa : Option Addr) (cap : Nat) (w : World) (hs : Sl w oa l.length cap 4 (quadVals l)) (hm : l.length ≤ 9223372036854775807) (hw : ∀ e ∈ l, (Lit.int .i64 e.key).wf = true) (hbad : (Pl.krF l).1 ≠ 0) : Calls Try.prog 9 #[.slice oa l.length cap, .int .i64 k, .int .i64 t] w fun e w' => e = .returned (.tuple #[.bool (Pl.validB l k t), .agg #[.int .i64 (Pl.validF l k t).1, .int .i64 (Pl.validF l k t).2]]) ∧ Below w.heap.size w w' := by
  have HB : Pl.validF l k t = Pl.krF l := by unfold Pl.validF; rw [if_neg hbad]
  have HV : Pl.validB l k t = false := by unfold Pl.validB; rw [HB]; simp [hbad]
  rw [HB, HV]
  clear HB HV
  have hne := Lib.hid hbad
  obtain ⟨G, hG⟩ : ∃ G, Pl.krF l = G := ⟨_, rfl⟩
  rw [hG] at hbad
  have hF := Lib.hid hG
  have u0 : (G.1 == 0) = false := by simp [hbad]
  have u1 : (G.1 != 0) = true := by simp [hbad]
  clear hG hbad
  rw [hF.out]
  go_enter Try.func9, Try.ntmps9
  go_wp2_with fail
  refine (open_bad l hne.out oa cap _ (hs.below (by go_grown) (Nat.le_refl _)) hm hw).mono ?_
  rw [hF.out]
  rintro e w1 ⟨rfl, hb1⟩
  have B1 : Below w.heap.size w w1 := bcall (by go_grown) hb1 (by go_size)
  have s1 := B1.size
  have q1 : w.heap.size + 1 ≤ w1.heap.size := by have h := hb1.size; first | omega | (simp at h; omega)
  obtain ⟨ba0, ba1, baf, bag, bal⟩ := (Box2.new w (.int .i64 0) (.int .i64 0) 27).below hb1 (by go_size)
  clear hb1
  go_wp2_with fail
  go_region
  go_wp2_with fail
  have RB := (Box2.mk ba0 ba1 baf bag bal).set (.int .i64 (G.1)) (.int .i64 (G.2))
  obtain ⟨RB0, RB1, -, -, -⟩ := RB
  refine bodyPost_ret (v := .tuple #[.bool false, .agg #[.int .i64 (G.1), .int .i64 (G.2)]]) (by simp [results, Try.results9, go_sem, RB0, RB1, bal]) rfl ⟨rfl, by go_grown⟩
set_option maxHeartbeats 1000000 in
theorem kValid_key (l : List Pl.Ev) (k t : Int) (oa : Option Addr) (cap : Nat) (w : World) (hs : Sl w oa l.length cap 4 (quadVals l)) (hm : l.length ≤ 9223372036854775807) (hw : ∀ e ∈ l, (Lit.int .i64 e.key).wf = true) (hgood : Pl.krF l = (0, 0)) (hk : Pl.isKeyB k = false) : Calls Try.prog 9 #[.slice oa l.length cap, .int .i64 k, .int .i64 t] w fun e w' => e = .returned (.tuple #[.bool (Pl.validB l k t), .agg #[.int .i64 (Pl.validF l k t).1, .int .i64 (Pl.validF l k t).2]]) ∧ Below w.heap.size w w' := by
  have HB : Pl.validF l k t = (3, -1) := by unfold Pl.validF; rw [if_pos (by rw [hgood]), if_neg (by simp [hk])]
  have HV : Pl.validB l k t = false := by unfold Pl.validB; rw [HB]; rfl
  rw [HB, HV]
  clear HB HV
  have hF := Lib.hid hgood
  clear hgood
  go_enter Try.func9, Try.ntmps9
  go_wp2_with fail
  refine (open_good l hF.out oa cap _ (hs.below (by go_grown) (Nat.le_refl _)) hm hw).mono ?_
  rintro e w1 ⟨g, rfl, hg, hkm, hb1⟩
  have B1 : Below w.heap.size w w1 := bcall (by go_grown) hb1 (by go_size)
  have s1 := B1.size
  have q1 : w.heap.size + 1 ≤ w1.heap.size := by have h := hb1.size; first | omega | (simp at h; omega)
  obtain ⟨ba0, ba1, baf, bag, bal⟩ := (Box2.new w (.int .i64 0) (.int .i64 0) 27).below hb1 (by go_size)
  have hg1 : w.heap.size + 1 ≤ g := by simp at hg; exact hg
  have hkl := hkm.lt
  clear hg
  clear hb1
  go_wp2_with (first | (go_at_call 27; refine (isKey_any _ _).mono ?_; rintro e w' ⟨rfl, rfl⟩) | (go_at_call 24; refine (kIsTime_any _ _).mono ?_; rintro e w' ⟨rfl, rfl⟩))
  have RB := (Box2.mk ba0 ba1 baf bag bal).set (.int .i64 (3)) (.int .i64 (-1))
  obtain ⟨RB0, RB1, -, -, -⟩ := RB
  refine bodyPost_ret (v := .tuple #[.bool false, .agg #[.int .i64 (3), .int .i64 (-1)]]) (by simp [results, Try.results9, go_sem, RB0, RB1, bal]) rfl ⟨rfl, by go_grown⟩
set_option maxHeartbeats 1000000 in
theorem kValid_time (l : List Pl.Ev) (k t : Int) (oa : Option Addr) (cap : Nat) (w : World) (hs : Sl w oa l.length cap 4 (quadVals l)) (hm : l.length ≤ 9223372036854775807) (hw : ∀ e ∈ l, (Lit.int .i64 e.key).wf = true) (hgood : Pl.krF l = (0, 0)) (hk : Pl.isKeyB k = true) (ht : Pl.isTimeB t = false) : Calls Try.prog 9 #[.slice oa l.length cap, .int .i64 k, .int .i64 t] w fun e w' => e = .returned (.tuple #[.bool (Pl.validB l k t), .agg #[.int .i64 (Pl.validF l k t).1, .int .i64 (Pl.validF l k t).2]]) ∧ Below w.heap.size w w' := by
  have HB : Pl.validF l k t = (3, -1) := by unfold Pl.validF; rw [if_pos (by rw [hgood]), if_neg (by simp [hk, ht])]
  have HV : Pl.validB l k t = false := by unfold Pl.validB; rw [HB]; rfl
  rw [HB, HV]
  clear HB HV
  have hF := Lib.hid hgood
  clear hgood
  go_enter Try.func9, Try.ntmps9
  go_wp2_with fail
  refine (open_good l hF.out oa cap _ (hs.below (by go_grown) (Nat.le_refl _)) hm hw).mono ?_
  rintro e w1 ⟨g, rfl, hg, hkm, hb1⟩
  have B1 : Below w.heap.size w w1 := bcall (by go_grown) hb1 (by go_size)
  have s1 := B1.size
  have q1 : w.heap.size + 1 ≤ w1.heap.size := by have h := hb1.size; first | omega | (simp at h; omega)
  obtain ⟨ba0, ba1, baf, bag, bal⟩ := (Box2.new w (.int .i64 0) (.int .i64 0) 27).below hb1 (by go_size)
  have hg1 : w.heap.size + 1 ≤ g := by simp at hg; exact hg
  have hkl := hkm.lt
  clear hg
  clear hb1
  go_wp2_with (first | (go_at_call 27; refine (isKey_any _ _).mono ?_; rintro e w' ⟨rfl, rfl⟩) | (go_at_call 24; refine (kIsTime_any _ _).mono ?_; rintro e w' ⟨rfl, rfl⟩))
  have RB := (Box2.mk ba0 ba1 baf bag bal).set (.int .i64 (3)) (.int .i64 (-1))
  obtain ⟨RB0, RB1, -, -, -⟩ := RB
  refine bodyPost_ret (v := .tuple #[.bool false, .agg #[.int .i64 (3), .int .i64 (-1)]]) (by simp [results, Try.results9, go_sem, RB0, RB1, bal]) rfl ⟨rfl, by go_grown⟩
set_option maxHeartbeats 1000000 in
theorem kValid_none (l : List Pl.Ev) (k t : Int) (oa : Option Addr) (cap : Nat) (w : World) (hs : Sl w oa l.length cap 4 (quadVals l)) (hm : l.length ≤ 9223372036854775807) (hw : ∀ e ∈ l, (Lit.int .i64 e.key).wf = true) (hgood : Pl.krF l = (0, 0)) (hk : Pl.isKeyB k = true) (ht : Pl.isTimeB t = true) (hn : (Pl.lifeOf l k).isSome = false) : Calls Try.prog 9 #[.slice oa l.length cap, .int .i64 k, .int .i64 t] w fun e w' => e = .returned (.tuple #[.bool (Pl.validB l k t), .agg #[.int .i64 (Pl.validF l k t).1, .int .i64 (Pl.validF l k t).2]]) ∧ Below w.heap.size w w' := by
  have HB : Pl.validF l k t = (0, 0) := by unfold Pl.validF; rw [if_pos (by rw [hgood]), if_pos (by rw [hk, ht]; rfl)]
  have HV : Pl.validB l k t = ((Pl.lifeOf l k).isSome && Pl.lifeB (Pl.lifeD l k) t) := by unfold Pl.validB; rw [HB, Pl.kvB_life]; rfl
  rw [HB, HV, hn, Bool.false_and]
  clear HB HV
  have hk64 : (Lit.int .i64 k).wf = true := by have := Pl.isKeyB_true.1 hk; exact WalkArith.wf_i64 (by omega)
  have hF := Lib.hid hgood
  clear hgood
  go_enter Try.func9, Try.ntmps9
  go_wp2_with fail
  refine (open_good l hF.out oa cap _ (hs.below (by go_grown) (Nat.le_refl _)) hm hw).mono ?_
  rintro e w1 ⟨g, rfl, hg, hkm, hb1⟩
  have B1 : Below w.heap.size w w1 := bcall (by go_grown) hb1 (by go_size)
  have s1 := B1.size
  have q1 : w.heap.size + 1 ≤ w1.heap.size := by have h := hb1.size; first | omega | (simp at h; omega)
  obtain ⟨ba0, ba1, baf, bag, bal⟩ := (Box2.new w (.int .i64 0) (.int .i64 0) 27).below hb1 (by go_size)
  have hg1 : w.heap.size + 1 ≤ g := by simp at hg; exact hg
  have hkl := hkm.lt
  clear hg
  clear hb1
  go_wp2_with (first | (go_at_call 27; refine (isKey_any _ _).mono ?_; rintro e w' ⟨rfl, rfl⟩) | (go_at_call 24; refine (kIsTime_any _ _).mono ?_; rintro e w' ⟨rfl, rfl⟩) | (at_lookup; refine wp_look_ok rfl _ _ 53 rfl Try.underlying3 Try.underlying53 zeroL (hkm.below (by go_grown) hkm.lt) rfl rfl hk64 ?_))
  have RB := (Box2.mk ba0 ba1 baf bag bal).set (.int .i64 (0)) (.int .i64 (0))
  obtain ⟨RB0, RB1, -, -, -⟩ := RB
  refine bodyPost_ret (v := .tuple #[.bool false, .agg #[.int .i64 (0), .int .i64 (0)]]) (by simp [results, Try.results9, go_sem, RB0, RB1, bal]) rfl ⟨rfl, by go_grown⟩
set_option maxHeartbeats 1000000 in
theorem kValid_some (l : List Pl.Ev) (k t : Int) (oa : Option Addr) (cap : Nat) (w : World) (hs : Sl w oa l.length cap 4 (quadVals l)) (hm : l.length ≤ 9223372036854775807) (hw : ∀ e ∈ l, (Lit.int .i64 e.key).wf = true) (hgood : Pl.krF l = (0, 0)) (hk : Pl.isKeyB k = true) (ht : Pl.isTimeB t = true) (hn : (Pl.lifeOf l k).isSome = true) : Calls Try.prog 9 #[.slice oa l.length cap, .int .i64 k, .int .i64 t] w fun e w' => e = .returned (.tuple #[.bool (Pl.validB l k t), .agg #[.int .i64 (Pl.validF l k t).1, .int .i64 (Pl.validF l k t).2]]) ∧ Below w.heap.size w w' := by
  have HB : Pl.validF l k t = (0, 0) := by unfold Pl.validF; rw [if_pos (by rw [hgood]), if_pos (by rw [hk, ht]; rfl)]
  have HV : Pl.validB l k t = ((Pl.lifeOf l k).isSome && Pl.lifeB (Pl.lifeD l k) t) := by unfold Pl.validB; rw [HB, Pl.kvB_life]; rfl
  rw [HB, HV, hn, Bool.true_and]
  clear HB HV
  have hk64 : (Lit.int .i64 k).wf = true := by have := Pl.isKeyB_true.1 hk; exact WalkArith.wf_i64 (by omega)
  have hF := Lib.hid hgood
  clear hgood
  go_enter Try.func9, Try.ntmps9
  go_wp2_with fail
  refine (open_good l hF.out oa cap _ (hs.below (by go_grown) (Nat.le_refl _)) hm hw).mono ?_
  rintro e w1 ⟨g, rfl, hg, hkm, hb1⟩
  have B1 : Below w.heap.size w w1 := bcall (by go_grown) hb1 (by go_size)
  have s1 := B1.size
  have q1 : w.heap.size + 1 ≤ w1.heap.size := by have h := hb1.size; first | omega | (simp at h; omega)
  obtain ⟨ba0, ba1, baf, bag, bal⟩ := (Box2.new w (.int .i64 0) (.int .i64 0) 27).below hb1 (by go_size)
  have hg1 : w.heap.size + 1 ≤ g := by simp at hg; exact hg
  have hkl := hkm.lt
  clear hg
  clear hb1
  go_wp2_with (first | (go_at_call 27; refine (isKey_any _ _).mono ?_; rintro e w' ⟨rfl, rfl⟩) | (go_at_call 24; refine (kIsTime_any _ _).mono ?_; rintro e w' ⟨rfl, rfl⟩) | (at_lookup; refine wp_look_ok rfl _ _ 53 rfl Try.underlying3 Try.underlying53 zeroL (hkm.below (by go_grown) hkm.lt) rfl rfl hk64 ?_))
  refine (lifeValid_any (Pl.lifeD l k) t _).mono ?_
  rintro e w2 ⟨rfl, hb2⟩
  have B2 : Below w.heap.size w w2 := bcall (by go_grown) hb2 (by go_size)
  have s2 := B2.size
  have q2 : w1.heap.size + 2 ≤ w2.heap.size := by have h := hb2.size; first | omega | (simp at h; omega)
  obtain ⟨ba0, ba1, baf, bag, bal⟩ := (((Box2.mk ba0 ba1 baf bag bal).alloc (.cells #[(.int .i64 0), (.int .i64 0)] 27)).alloc (.cells #[.int .i64 (Pl.lifeD l k).user, .int .i64 (Pl.lifeD l k).start, .int .i64 (Pl.lifeD l k).stop, .bool (Pl.lifeD l k).gone] 57)).below hb2 (by go_size)
  obtain ⟨bc0, bc1, bcf, bcg, bcl⟩ := ((Box2.new w1 (.int .i64 0) (.int .i64 0) 27).alloc (.cells #[.int .i64 (Pl.lifeD l k).user, .int .i64 (Pl.lifeD l k).start, .int .i64 (Pl.lifeD l k).stop, .bool (Pl.lifeD l k).gone] 57)).below hb2 (by go_size)
  clear hb2
  go_wp2_with fail
  have RB := (Box2.mk ba0 ba1 baf bag bal).set (.int .i64 (0)) (.int .i64 (0))
  obtain ⟨RB0, RB1, -, -, -⟩ := RB
  refine bodyPost_ret (v := .tuple #[.bool (Pl.lifeB (Pl.lifeD l k) t), .agg #[.int .i64 (0), .int .i64 (0)]]) (by simp [results, Try.results9, go_sem, RB0, RB1]) rfl ⟨rfl, by go_grown⟩
theorem kValid_any (l : List Pl.Ev) (k t : Int) (oa : Option Addr) (cap : Nat) (w : World) (hs : Sl w oa l.length cap 4 (quadVals l)) (hm : l.length ≤ 9223372036854775807) (hw : ∀ e ∈ l, (Lit.int .i64 e.key).wf = true) : Calls Try.prog 9 #[.slice oa l.length cap, .int .i64 k, .int .i64 t] w fun e w' => e = .returned (.tuple #[.bool (Pl.validB l k t), .agg #[.int .i64 (Pl.validF l k t).1, .int .i64 (Pl.validF l k t).2]]) ∧ Below w.heap.size w w' := by
  rcases Pl.krF_cases l with ⟨h, _⟩ | h
  · cases hk : Pl.isKeyB k with
    | false => exact kValid_key l k t oa cap w hs hm hw h hk
    | true =>
      cases ht : Pl.isTimeB t with
      | false => exact kValid_time l k t oa cap w hs hm hw h hk ht
      | true =>
        cases hn : (Pl.lifeOf l k).isSome with
        | false => exact kValid_none l k t oa cap w hs hm hw h hk ht hn
        | true => exact kValid_some l k t oa cap w hs hm hw h hk ht hn
  · exact kValid_bad l k t oa cap w hs hm hw h
end Go.Proofs.Ytldepnabkdpokaa
