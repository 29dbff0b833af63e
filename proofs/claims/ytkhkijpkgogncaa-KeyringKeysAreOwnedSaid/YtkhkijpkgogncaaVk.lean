/- The law KeyringKeysAreOwned returns true. -/
import Derived.Test.YtkhkijpkgogncaaVi
import Derived.Test.YtkhkijpkgogncaaVh
namespace Go.Proofs.Ytkhkijpkgogncaa
open Go.RowKit

set_option maxRecDepth 100000 in
set_option maxHeartbeats 2000000 in
theorem KeyringKeysAreOwned_bad (l : List Pl.Ev) (u t k : Int) (oa : Option Addr) (cap : Nat) (w : World) (hs : Sl w oa l.length cap 4 (quadVals l)) (hm : l.length ≤ 9223372036854775807) (hw : ∀ e ∈ l, (Lit.int .i64 e.key).wf = true) (hb : (Pl.ukF l u t).1 ≠ 0) : Calls Try.prog 13 #[.slice oa l.length cap, .int .i64 u, .int .i64 t, .int .i64 k] w fun e w' => e = .returned (.bool true) ∧ Below w.heap.size w w' := by
  obtain ⟨G, hG⟩ : ∃ G, Pl.ukF l u t = G := ⟨_, rfl⟩
  have HV := Lib.hid (show Pl.ukV l u t = [] by unfold Pl.ukV; rw [if_neg hb])
  rw [hG] at hb
  have HF := Lib.hid hG
  have u1 : (G.1 == 0) = false := by simp [hb]
  have u2 : (G.1 != 0) = true := by simp [hb]
  clear hG hb
  go_enter Try.func13, Try.ntmps13
  go_wp2_with fail
  refine (keys_any _).mono ?_
  rintro e w1 ⟨rfl, hb1⟩
  have B1 : Below w.heap.size w w1 := bcall (by go_grown) hb1 (by go_size)
  have s1 := B1.size
  have q1 : w.heap.size ≤ w1.heap.size := by have h := hb1.size; first | omega | (simp at h; omega)
  replace hs := hs.below hb1 (Nat.le_refl _)
  clear hb1
  go_wp2_with fail
  refine (kKeys_any l u t oa cap _ hs hm hw).mono ?_
  rw [HV.out, HF.out]
  rintro e w2 ⟨o2, c2, rfl, own2, hb2⟩
  clear own2
  simp only [List.length_nil]
  have B2 : Below w.heap.size w w2 := bcall (by go_grown) hb2 (by go_size)
  have s2 := B2.size
  have q2 : w1.heap.size ≤ w2.heap.size := by have h := hb2.size; first | omega | (simp at h; omega)
  replace hs := hs.below hb2 (Nat.le_refl _)
  clear hb2
  go_wp2_with (first | (go_at_call 16; refine (rIsKey_any _ _).mono ?_; rintro e w' ⟨rfl, rfl⟩))
  go_ret
  exact ⟨ret_true (by simp), by go_grown⟩
set_option maxRecDepth 100000 in
set_option maxHeartbeats 2000000 in
theorem KeyringKeysAreOwned_key (l : List Pl.Ev) (u t k : Int) (oa : Option Addr) (cap : Nat) (w : World) (hs : Sl w oa l.length cap 4 (quadVals l)) (hm : l.length ≤ 9223372036854775807) (hw : ∀ e ∈ l, (Lit.int .i64 e.key).wf = true) (hb : Pl.ukF l u t = (0, 0)) (hk : Pl.isKeyB k = false) : Calls Try.prog 13 #[.slice oa l.length cap, .int .i64 u, .int .i64 t, .int .i64 k] w fun e w' => e = .returned (.bool true) ∧ Below w.heap.size w w' := by
  have HF := Lib.hid hb
  have HV := Lib.hid (show Pl.ukV l u t = Pl.ukS l u t by unfold Pl.ukV; rw [hb]; rfl)
  
  go_enter Try.func13, Try.ntmps13
  go_wp2_with fail
  refine (keys_any _).mono ?_
  rintro e w1 ⟨rfl, hb1⟩
  have B1 : Below w.heap.size w w1 := bcall (by go_grown) hb1 (by go_size)
  have s1 := B1.size
  have q1 : w.heap.size ≤ w1.heap.size := by have h := hb1.size; first | omega | (simp at h; omega)
  replace hs := hs.below hb1 (Nat.le_refl _)
  clear hb1
  go_wp2_with fail
  refine (kKeys_any l u t oa cap _ hs hm hw).mono ?_
  rw [HV.out, HF.out]
  rintro e w2 ⟨o2, c2, rfl, own2, hb2⟩
  clear own2
  have B2 : Below w.heap.size w w2 := bcall (by go_grown) hb2 (by go_size)
  have s2 := B2.size
  have q2 : w1.heap.size ≤ w2.heap.size := by have h := hb2.size; first | omega | (simp at h; omega)
  replace hs := hs.below hb2 (Nat.le_refl _)
  clear hb2
  go_wp2_with (first | (go_at_call 16; refine (rIsKey_any _ _).mono ?_; rintro e w' ⟨rfl, rfl⟩))
  go_ret
  exact ⟨ret_true (by simp), by go_grown⟩
theorem Pl.ukF_ok {l : List Pl.Ev} {u t : Int} (h : (Pl.ukF l u t).1 = 0) : Pl.ukF l u t = (0, 0) ∧ Pl.krF l = (0, 0) ∧ l.length ≤ 40 ∧ Pl.Valid l ∧ Pl.isUserB u = true ∧ Pl.isTimeB t = true := by
  unfold Pl.ukF at *
  rcases Pl.krF_cases l with ⟨h1, h2, h3⟩ | h1
  · rw [h1] at h ⊢
    rw [if_pos rfl] at h ⊢
    by_cases h4 : (Pl.isUserB u && Pl.isTimeB t) = true
    · rw [if_pos h4]
      simp only [Bool.and_eq_true] at h4
      exact ⟨rfl, rfl, h2, h3, h4⟩
    · rw [if_neg h4] at h; cases h
  · rw [if_neg h1] at h; exact absurd h h1
set_option maxRecDepth 100000 in
set_option maxHeartbeats 2000000 in
theorem KeyringKeysAreOwned_no (l : List Pl.Ev) (u t k : Int) (oa : Option Addr) (cap : Nat) (w : World) (hs : Sl w oa l.length cap 4 (quadVals l)) (hm : l.length ≤ 9223372036854775807) (hw : ∀ e ∈ l, (Lit.int .i64 e.key).wf = true) (hb : Pl.ukF l u t = (0, 0)) (hk : Pl.isKeyB k = true) (hkr : Pl.krF l = (0, 0)) (h40 : l.length ≤ 40) (hv : Pl.Valid l) (ht : Pl.isTimeB t = true) (h0 : ¬ 0 ≤ Pl.keyTime l k 1) : Calls Try.prog 13 #[.slice oa l.length cap, .int .i64 u, .int .i64 t, .int .i64 k] w fun e w' => e = .returned (.bool true) ∧ Below w.heap.size w w' := by
  have HF := Lib.hid hb
  have HV := Lib.hid (show Pl.ukV l u t = Pl.ukS l u t by unfold Pl.ukV; rw [hb]; rfl)
  have hlk := Pl.ukS_length l u t
  have AF := Lib.hid (show Pl.validF l k t = (0, 0) by unfold Pl.validF; rw [if_pos (by rw [hkr]), if_pos (by rw [hk, ht]; rfl)])
  have AB := Lib.hid (show Pl.validB l k t = Pl.kvB l k t by unfold Pl.validB; rw [AF.out]; rfl)
  have OFe : Pl.ownerF l k = if 0 ≤ Pl.keyTime l k 1 then (0, 0) else (6, 0) := by unfold Pl.ownerF; rw [if_pos (by rw [hkr]), if_pos hk]
  have OVe : Pl.ownerV l k = if 0 ≤ Pl.keyTime l k 1 then Pl.keyOwner l k else 0 := by unfold Pl.ownerV; rw [OFe]; split <;> rfl
  have HM : decide (k ∈ Pl.ukS l u t) = (Pl.kvB l k t && (decide (0 ≤ Pl.keyTime l k 1) && (Pl.keyOwner l k == u))) := by
    rw [Bool.eq_iff_iff, decide_eq_true_eq, hv.mem_ukS]
    simp only [Bool.and_eq_true, decide_eq_true_eq, beq_iff_eq]
    constructor
    · rintro ⟨a, b⟩
      refine ⟨b, ?_, a⟩
      unfold Pl.kvB at b
      simp only [Bool.and_eq_true, decide_eq_true_eq] at b
      exact b.1.1
    · rintro ⟨a, _, c⟩; exact ⟨c, a⟩
  obtain ⟨LS, hLS⟩ : ∃ x, Pl.ukS l u t = x := ⟨_, rfl⟩
  rw [hLS] at HV HM hlk
  rw [if_neg h0] at OFe OVe
  have OF := Lib.hid OFe
  have OV := Lib.hid OVe
  rw [decide_eq_false h0, Bool.false_and, Bool.and_false] at HM
  replace HM := Lib.hid HM
  clear hb hkr hv hLS OFe OVe
  go_enter Try.func13, Try.ntmps13
  go_wp2_with fail
  refine (keys_any _).mono ?_
  rintro e w1 ⟨rfl, hb1⟩
  have B1 : Below w.heap.size w w1 := bcall (by go_grown) hb1 (by go_size)
  have s1 := B1.size
  have q1 : w.heap.size ≤ w1.heap.size := by have h := hb1.size; first | omega | (simp at h; omega)
  replace hs := hs.below hb1 (Nat.le_refl _)
  clear hb1
  go_wp2_with fail
  refine (kKeys_any l u t oa cap _ hs hm hw).mono ?_
  rw [HV.out, HF.out]
  rintro e w2 ⟨o2, c2, rfl, own2, hb2⟩
  have sl2 := Sl.own own2
  clear own2
  have B2 : Below w.heap.size w w2 := bcall (by go_grown) hb2 (by go_size)
  have s2 := B2.size
  have q2 : w1.heap.size ≤ w2.heap.size := by have h := hb2.size; first | omega | (simp at h; omega)
  replace hs := hs.below hb2 (Nat.le_refl _)
  clear hb2
  go_wp2_with (first | (go_at_call 16; refine (rIsKey_any _ _).mono ?_; rintro e w' ⟨rfl, rfl⟩))
  refine (kValid_any l k t oa cap _ (hs.below (by go_grown) (Nat.le_refl _)) hm hw).mono ?_
  rw [AB.out, AF.out]
  rintro e w3 ⟨rfl, hb3⟩
  have B3 : Below w.heap.size w w3 := bcall (by go_grown) hb3 (by go_size)
  have s3 := B3.size
  have q3 : w2.heap.size + 1 ≤ w3.heap.size := by have h := hb3.size; first | omega | (simp at h; omega)
  obtain ⟨ba0, ba1, baf, bag, bal⟩ := (Box2.new w2 (.int .i64 0) (.int .i64 0) 26).below hb3 (by go_size)
  replace hs := (hs.below (by go_grown) (Nat.le_refl _)).below hb3 (Nat.le_refl _)
  replace sl2 := (sl2.below (by go_grown) (Nat.le_refl _)).below hb3 (Nat.le_refl _)
  clear hb3
  go_wp2_with fail
  refine (kOwner_any l k oa cap _ (hs.below (by go_grown) (Nat.le_refl _)) hm hw).mono ?_
  rw [OV.out, OF.out]
  rintro e w4 ⟨rfl, hb4⟩
  have B4 : Below w.heap.size w w4 := bcall (by go_grown) hb4 (by go_size)
  have s4 := B4.size
  have q4 : w3.heap.size + 1 ≤ w4.heap.size := by have h := hb4.size; first | omega | (simp at h; omega)
  obtain ⟨ba0, ba1, baf, bag, bal⟩ := ((Box2.mk ba0 ba1 baf bag bal).alloc (.cells #[(.int .i64 0), (.int .i64 0)] 26)).below hb4 (by go_size)
  obtain ⟨bb0, bb1, bbf, bbg, bbl⟩ := (Box2.new w3 (.int .i64 0) (.int .i64 0) 26).below hb4 (by go_size)
  replace hs := (hs.below (by go_grown) (Nat.le_refl _)).below hb4 (Nat.le_refl _)
  replace sl2 := (sl2.below (by go_grown) (Nat.le_refl _)).below hb4 (Nat.le_refl _)
  clear hb4
  go_wp2_with fail
  refine (Has_any _ k o2 c2 _ (sl2.below (by go_grown) (Nat.le_refl _)) (by omega)).mono ?_
  rw [HM.out]
  rintro e w' ⟨rfl, rfl⟩
  cases hvb : Pl.kvB l k t with
  | false => go_wp2_with fail; go_ret; exact ⟨ret_true (by simp), by go_grown⟩
  | true => go_wp2_with fail; go_ret; exact ⟨ret_true (by simp), by go_grown⟩
set_option maxRecDepth 100000 in
set_option maxHeartbeats 2000000 in
theorem KeyringKeysAreOwned_yes (l : List Pl.Ev) (u t k : Int) (oa : Option Addr) (cap : Nat) (w : World) (hs : Sl w oa l.length cap 4 (quadVals l)) (hm : l.length ≤ 9223372036854775807) (hw : ∀ e ∈ l, (Lit.int .i64 e.key).wf = true) (hb : Pl.ukF l u t = (0, 0)) (hk : Pl.isKeyB k = true) (hkr : Pl.krF l = (0, 0)) (h40 : l.length ≤ 40) (hv : Pl.Valid l) (ht : Pl.isTimeB t = true) (h0 : 0 ≤ Pl.keyTime l k 1) : Calls Try.prog 13 #[.slice oa l.length cap, .int .i64 u, .int .i64 t, .int .i64 k] w fun e w' => e = .returned (.bool true) ∧ Below w.heap.size w w' := by
  have HF := Lib.hid hb
  have HV := Lib.hid (show Pl.ukV l u t = Pl.ukS l u t by unfold Pl.ukV; rw [hb]; rfl)
  have hlk := Pl.ukS_length l u t
  have AF := Lib.hid (show Pl.validF l k t = (0, 0) by unfold Pl.validF; rw [if_pos (by rw [hkr]), if_pos (by rw [hk, ht]; rfl)])
  have AB := Lib.hid (show Pl.validB l k t = Pl.kvB l k t by unfold Pl.validB; rw [AF.out]; rfl)
  have OFe : Pl.ownerF l k = if 0 ≤ Pl.keyTime l k 1 then (0, 0) else (6, 0) := by unfold Pl.ownerF; rw [if_pos (by rw [hkr]), if_pos hk]
  have OVe : Pl.ownerV l k = if 0 ≤ Pl.keyTime l k 1 then Pl.keyOwner l k else 0 := by unfold Pl.ownerV; rw [OFe]; split <;> rfl
  have HM : decide (k ∈ Pl.ukS l u t) = (Pl.kvB l k t && (decide (0 ≤ Pl.keyTime l k 1) && (Pl.keyOwner l k == u))) := by
    rw [Bool.eq_iff_iff, decide_eq_true_eq, hv.mem_ukS]
    simp only [Bool.and_eq_true, decide_eq_true_eq, beq_iff_eq]
    constructor
    · rintro ⟨a, b⟩
      refine ⟨b, ?_, a⟩
      unfold Pl.kvB at b
      simp only [Bool.and_eq_true, decide_eq_true_eq] at b
      exact b.1.1
    · rintro ⟨a, _, c⟩; exact ⟨c, a⟩
  obtain ⟨LS, hLS⟩ : ∃ x, Pl.ukS l u t = x := ⟨_, rfl⟩
  rw [hLS] at HV HM hlk
  rw [if_pos h0] at OFe OVe
  have OF := Lib.hid OFe
  have OV := Lib.hid OVe
  rw [decide_eq_true h0, Bool.true_and] at HM
  replace HM := Lib.hid HM
  clear hb hkr hv hLS OFe OVe
  go_enter Try.func13, Try.ntmps13
  go_wp2_with fail
  refine (keys_any _).mono ?_
  rintro e w1 ⟨rfl, hb1⟩
  have B1 : Below w.heap.size w w1 := bcall (by go_grown) hb1 (by go_size)
  have s1 := B1.size
  have q1 : w.heap.size ≤ w1.heap.size := by have h := hb1.size; first | omega | (simp at h; omega)
  replace hs := hs.below hb1 (Nat.le_refl _)
  clear hb1
  go_wp2_with fail
  refine (kKeys_any l u t oa cap _ hs hm hw).mono ?_
  rw [HV.out, HF.out]
  rintro e w2 ⟨o2, c2, rfl, own2, hb2⟩
  have sl2 := Sl.own own2
  clear own2
  have B2 : Below w.heap.size w w2 := bcall (by go_grown) hb2 (by go_size)
  have s2 := B2.size
  have q2 : w1.heap.size ≤ w2.heap.size := by have h := hb2.size; first | omega | (simp at h; omega)
  replace hs := hs.below hb2 (Nat.le_refl _)
  clear hb2
  go_wp2_with (first | (go_at_call 16; refine (rIsKey_any _ _).mono ?_; rintro e w' ⟨rfl, rfl⟩))
  refine (kValid_any l k t oa cap _ (hs.below (by go_grown) (Nat.le_refl _)) hm hw).mono ?_
  rw [AB.out, AF.out]
  rintro e w3 ⟨rfl, hb3⟩
  have B3 : Below w.heap.size w w3 := bcall (by go_grown) hb3 (by go_size)
  have s3 := B3.size
  have q3 : w2.heap.size + 1 ≤ w3.heap.size := by have h := hb3.size; first | omega | (simp at h; omega)
  obtain ⟨ba0, ba1, baf, bag, bal⟩ := (Box2.new w2 (.int .i64 0) (.int .i64 0) 26).below hb3 (by go_size)
  replace hs := (hs.below (by go_grown) (Nat.le_refl _)).below hb3 (Nat.le_refl _)
  replace sl2 := (sl2.below (by go_grown) (Nat.le_refl _)).below hb3 (Nat.le_refl _)
  clear hb3
  go_wp2_with fail
  refine (kOwner_any l k oa cap _ (hs.below (by go_grown) (Nat.le_refl _)) hm hw).mono ?_
  rw [OV.out, OF.out]
  rintro e w4 ⟨rfl, hb4⟩
  have B4 : Below w.heap.size w w4 := bcall (by go_grown) hb4 (by go_size)
  have s4 := B4.size
  have q4 : w3.heap.size + 1 ≤ w4.heap.size := by have h := hb4.size; first | omega | (simp at h; omega)
  obtain ⟨ba0, ba1, baf, bag, bal⟩ := ((Box2.mk ba0 ba1 baf bag bal).alloc (.cells #[(.int .i64 0), (.int .i64 0)] 26)).below hb4 (by go_size)
  obtain ⟨bb0, bb1, bbf, bbg, bbl⟩ := (Box2.new w3 (.int .i64 0) (.int .i64 0) 26).below hb4 (by go_size)
  replace hs := (hs.below (by go_grown) (Nat.le_refl _)).below hb4 (Nat.le_refl _)
  replace sl2 := (sl2.below (by go_grown) (Nat.le_refl _)).below hb4 (Nat.le_refl _)
  clear hb4
  go_wp2_with fail
  refine (Has_any _ k o2 c2 _ (sl2.below (by go_grown) (Nat.le_refl _)) (by omega)).mono ?_
  rw [HM.out]
  rintro e w' ⟨rfl, rfl⟩
  cases hvb : Pl.kvB l k t with
  | false => go_wp2_with fail; go_ret; exact ⟨ret_true (by simp), by go_grown⟩
  | true => go_wp2_with fail; go_ret; exact ⟨ret_true (by simp), by go_grown⟩
theorem KeyringKeysAreOwned_main (l : List Pl.Ev) (u t k : Int) (oa : Option Addr) (cap : Nat) (w : World) (hs : Sl w oa l.length cap 4 (quadVals l)) (hm : l.length ≤ 9223372036854775807) (hw : ∀ e ∈ l, (Lit.int .i64 e.key).wf = true) :
    Calls Try.prog 13 #[.slice oa l.length cap, .int .i64 u, .int .i64 t, .int .i64 k] w fun e w' => e = .returned (.bool true) ∧ Below w.heap.size w w' := by
  by_cases hb : (Pl.ukF l u t).1 = 0
  · obtain ⟨hb, hkr, h40, hv, _, ht⟩ := Pl.ukF_ok hb
    cases hk : Pl.isKeyB k with
    | false => exact KeyringKeysAreOwned_key l u t k oa cap w hs hm hw hb hk
    | true =>
      by_cases h0 : 0 ≤ Pl.keyTime l k 1
      · exact KeyringKeysAreOwned_yes l u t k oa cap w hs hm hw hb hk hkr h40 hv ht h0
      · exact KeyringKeysAreOwned_no l u t k oa cap w hs hm hw hb hk hkr h40 hv ht h0
  · exact KeyringKeysAreOwned_bad l u t k oa cap w hs hm hw hb
end Go.Proofs.Ytkhkijpkgogncaa
