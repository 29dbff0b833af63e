/- The law TranslogMatchesSpec returns true. -/
import Derived.Test.YtplcbhcbahiheaaTt
namespace Go.Proofs.Ytplcbhcbahiheaa
open Go.RowKit

theorem own_ge {w : World} {base : Nat} {e : TypeId} {size n cap : Nat} {oa : Option Addr} {xs : List Value} (h : w.ownsRow base e size (.slice oa n cap) n xs) : ∀ b off, oa = some ⟨b, off, none⟩ → base ≤ b := by
  intro b off hb
  subst hb
  rcases h.2 with ⟨a1, a2⟩ | ⟨g, c, cur, a1, hbg, _⟩
  · first | cases a1 | cases a2
  · cases a1
    exact hbg
theorem Sl.set2 {w : World} {oa : Option Addr} {n cap sz : Nat} {cs : List Value} (h : Sl w oa n cap sz cs) {r : Nat} (hne : ∀ b off, oa = some ⟨b, off, none⟩ → r ≠ b) (x y : Value) : Sl ((w.setCell ⟨r, 0, none⟩ x).setCell ⟨r, 1, none⟩ y) oa n cap sz cs := by
  refine ⟨h.hl, h.hcap, h.hmax, ?_⟩
  rcases h.mem with h0 | ⟨b, off, rfl, hlt, hc⟩
  · exact .inl h0
  · have hb := hne b off rfl
    exact .inr ⟨b, off, rfl, by simpa using hlt, fun j u hu => by
      rw [World.cell?_setCell_other _ _ _ _ (by simp), World.cell?_setCell_other _ _ _ _ (by simp)]
      exact hc j u hu⟩

set_option maxRecDepth 100000 in
set_option maxHeartbeats 1600000 in
theorem TranslogMatchesSpec_bad (xs : List Int) (i m : Int) (oa : Option Addr) (cap : Nat) (w : World) (hs : Sl w oa xs.length cap 1 (intVals xs)) (hm : xs.length ≤ 9223372036854775807) (hF : (Pl.msgF xs).1 ≠ 0) : Calls Try.prog 3 #[.slice oa xs.length cap, .int .i64 i, .int .i64 m] w fun e w' => e = .returned (.bool true) ∧ Below w.heap.size w w' := by
  have hV : Pl.rootV xs = 0 := by unfold Pl.rootV; rw [if_neg hF]
  have hP : Pl.prvF xs i = Pl.msgF xs := by unfold Pl.prvF; rw [if_neg hF]
  have hW : Pl.prvV xs i = [] := by unfold Pl.prvV; rw [hP, if_neg hF]
  have hQ : Pl.pcoF xs m = Pl.msgF xs := by unfold Pl.pcoF; rw [if_neg hF]
  have hX : Pl.pcoV xs m = [] := by unfold Pl.pcoV; rw [hQ, if_neg hF]
  obtain ⟨F, hE⟩ : ∃ F, Pl.msgF xs = F := ⟨_, rfl⟩
  rw [hE] at hF hP hQ
  have u1 : (F.1 != 0) = true := by simp [hF]
  have u2 : (F.1 == 0) = false := by simp [hF]
  clear hF
  replace hE := Lib.hid hE
  replace hV := Lib.hid hV
  replace hP := Lib.hid hP
  replace hW := Lib.hid hW
  replace hQ := Lib.hid hQ
  replace hX := Lib.hid hX
  go_enter Try.func3, Try.ntmps3
  go_wp2_with fail
  refine (LeavesFault_any xs _ cap _ (hs.below (by go_grown) (Nat.le_refl _)) hm).mono ?_
  rw [hE.out]
  rintro e w1 ⟨rfl, hb1⟩
  have B1 : Below w.heap.size w w1 := bcall (by go_grown) hb1 (by go_size)
  have s1 := B1.size
  have q1 : w.heap.size ≤ w1.heap.size := by have h := hb1.size; first | omega | (simp at h; omega)
  clear hb1
  go_wp2_with fail
  refine (Root_any xs _ cap _ (hs.below (by go_grown) (Nat.le_refl _)) hm).mono ?_
  rw [hE.out, hV.out]
  rintro e w2 ⟨rfl, hb2⟩
  have B2 : Below w.heap.size w w2 := bcall (by go_grown) hb2 (by go_size)
  have s2 := B2.size
  have q2 : w1.heap.size + 1 ≤ w2.heap.size := by have h := hb2.size; first | omega | (simp at h; omega)
  obtain ⟨bw0, bw1, bwf, bwg, bwl⟩ := (Box2.new w1 (.int .i64 F.1) (.int .i64 F.2) 24).below hb2 (by go_size)
  clear hb2
  go_wp2_with fail
  refine (logs_any _).mono ?_
  rintro e w3 ⟨rfl, hb3⟩
  have B3 : Below w.heap.size w w3 := bcall (by go_grown) hb3 (by go_size)
  have s3 := B3.size
  have q3 : w2.heap.size + 1 ≤ w3.heap.size := by have h := hb3.size; first | omega | (simp at h; omega)
  obtain ⟨bw0, bw1, bwf, bwg, bwl⟩ := ((Box2.mk bw0 bw1 bwf bwg bwl).alloc (.cells #[(.int .i64 F.1), (.int .i64 F.2)] 24)).below hb3 (by go_size)
  obtain ⟨bf0, bf1, bff, bfg, bfl⟩ := (Box2.new w2 (.int .i64 F.1) (.int .i64 F.2) 24).below hb3 (by go_size)
  clear hb3
  go_wp2_with fail
  refine (Prove_any xs i _ cap _ (hs.below (by go_grown) (Nat.le_refl _)) hm).mono ?_
  rintro e w4 ⟨v2, rfl, own2, hb4⟩
  rw [hP.out]
  rw [hW.out] at own2
  obtain ⟨o2, k2, rfl⟩ := own_slice own2
  have sl2 := Sl.own own2
  have ge2 := own_ge own2
  clear own2
  have B4 : Below w.heap.size w w4 := bcall (by go_grown) hb4 (by go_size)
  have s4 := B4.size
  have q4 : w3.heap.size + 1 ≤ w4.heap.size := by have h := hb4.size; first | omega | (simp at h; omega)
  obtain ⟨bw0, bw1, bwf, bwg, bwl⟩ := ((Box2.mk bw0 bw1 bwf bwg bwl).alloc (.cells #[(.int .i64 F.1), (.int .i64 F.2)] 24)).below hb4 (by go_size)
  obtain ⟨bf0, bf1, bff, bfg, bfl⟩ := ((Box2.mk bf0 bf1 bff bfg bfl).alloc (.cells #[(.int .i64 F.1), (.int .i64 F.2)] 24)).below hb4 (by go_size)
  obtain ⟨bv0, bv1, bvf, bvg, bvl⟩ := (Box2.new w3 (.int .i64 F.1) (.int .i64 F.2) 24).below hb4 (by go_size)
  clear hb4
  go_wp2_with fail
  refine (ProveConsistency_any xs m _ cap _ (hs.below (by go_grown) (Nat.le_refl _)) hm).mono ?_
  rintro e w5 ⟨v4, rfl, own4, hb5⟩
  rw [hQ.out]
  rw [hX.out] at own4
  obtain ⟨o4, k4, rfl⟩ := own_slice own4
  have sl4 := Sl.own own4
  have ge4 := own_ge own4
  clear own4
  have B5 : Below w.heap.size w w5 := bcall (by go_grown) hb5 (by go_size)
  have s5 := B5.size
  have q5 : w4.heap.size ≤ w5.heap.size := by have h := hb5.size; first | omega | (simp at h; omega)
  obtain ⟨bw0, bw1, bwf, bwg, bwl⟩ := (((Box2.mk bw0 bw1 bwf bwg bwl).other (r := w2.heap.size) (by omega) (.int .i64 F.1) (.int .i64 F.2)).other (r := w3.heap.size) (by omega) (.int .i64 F.1) (.int .i64 F.2)).below hb5 (by go_size)
  obtain ⟨bf0, bf1, bff, bfg, bfl⟩ := (((Box2.mk bf0 bf1 bff bfg bfl).set (.int .i64 F.1) (.int .i64 F.2)).other (r := w3.heap.size) (by omega) (.int .i64 F.1) (.int .i64 F.2)).below hb5 (by go_size)
  obtain ⟨bv0, bv1, bvf, bvg, bvl⟩ := (((Box2.mk bv0 bv1 bvf bvg bvl).other (r := w2.heap.size) (by omega) (.int .i64 F.1) (.int .i64 F.2)).set (.int .i64 F.1) (.int .i64 F.2)).below hb5 (by go_size)
  clear hb5
  go_wp2_with fail
  go_ret
  exact ⟨ret_true (by simp), by go_grown⟩
set_option maxRecDepth 100000 in
set_option maxHeartbeats 1600000 in
theorem TranslogMatchesSpec_g00 (xs : List Int) (i m : Int) (oa : Option Addr) (cap : Nat) (w : World) (hs : Sl w oa xs.length cap 1 (intVals xs)) (hm : xs.length ≤ 9223372036854775807) (hF : Pl.msgF xs = (0, 0)) (hn : xs.length ≤ 64) (hd : ∀ x ∈ xs, Pl.isDigestB x = true) (hi : Pl.inB i 0 ((xs.length : Int) - 1) = false) (hc : Pl.inB m 1 (xs.length : Int) = false) : Calls Try.prog 3 #[.slice oa xs.length cap, .int .i64 i, .int .i64 m] w fun e w' => e = .returned (.bool true) ∧ Below w.heap.size w w' := by
  have hV : Pl.rootV xs = Pl.rootS xs := by unfold Pl.rootV; rw [hF]; rfl
  have hP : Pl.prvF xs i = (3, -1) := by unfold Pl.prvF; rw [hF, if_pos rfl, hi]; rfl
  have hW : Pl.prvV xs i = [] := by unfold Pl.prvV; rw [hP]; rfl
  have hQ : Pl.pcoF xs m = (3, -1) := by unfold Pl.pcoF; rw [hF, if_pos rfl, hc]; rfl
  have hX : Pl.pcoV xs m = [] := by unfold Pl.pcoV; rw [hQ]; rfl
  replace hE := Lib.hid hF
  clear hF
  replace hd := Lib.hid hd
  replace hV := Lib.hid hV
  replace hP := Lib.hid hP
  replace hW := Lib.hid hW
  replace hQ := Lib.hid hQ
  replace hX := Lib.hid hX
  go_enter Try.func3, Try.ntmps3
  go_wp2_with fail
  refine (LeavesFault_any xs _ cap _ (hs.below (by go_grown) (Nat.le_refl _)) hm).mono ?_
  rw [hE.out]
  rintro e w1 ⟨rfl, hb1⟩
  have B1 : Below w.heap.size w w1 := bcall (by go_grown) hb1 (by go_size)
  have s1 := B1.size
  have q1 : w.heap.size ≤ w1.heap.size := by have h := hb1.size; first | omega | (simp at h; omega)
  clear hb1
  go_wp2_with fail
  refine (Root_any xs _ cap _ (hs.below (by go_grown) (Nat.le_refl _)) hm).mono ?_
  rw [hE.out, hV.out]
  rintro e w2 ⟨rfl, hb2⟩
  have B2 : Below w.heap.size w w2 := bcall (by go_grown) hb2 (by go_size)
  have s2 := B2.size
  have q2 : w1.heap.size + 1 ≤ w2.heap.size := by have h := hb2.size; first | omega | (simp at h; omega)
  obtain ⟨bw0, bw1, bwf, bwg, bwl⟩ := (Box2.new w1 (.int .i64 0) (.int .i64 0) 24).below hb2 (by go_size)
  clear hb2
  go_wp2_with fail
  refine (logs_any _).mono ?_
  rintro e w3 ⟨rfl, hb3⟩
  have B3 : Below w.heap.size w w3 := bcall (by go_grown) hb3 (by go_size)
  have s3 := B3.size
  have q3 : w2.heap.size + 1 ≤ w3.heap.size := by have h := hb3.size; first | omega | (simp at h; omega)
  obtain ⟨bw0, bw1, bwf, bwg, bwl⟩ := ((Box2.mk bw0 bw1 bwf bwg bwl).alloc (.cells #[(.int .i64 0), (.int .i64 0)] 24)).below hb3 (by go_size)
  obtain ⟨bf0, bf1, bff, bfg, bfl⟩ := (Box2.new w2 (.int .i64 0) (.int .i64 0) 24).below hb3 (by go_size)
  clear hb3
  go_wp2_with fail
  refine (LogRoot_any xs _ cap _ (hs.below (by go_grown) (Nat.le_refl _)) hn hd.out).mono ?_
  rintro e w4 ⟨rfl, hb4⟩
  have B4 : Below w.heap.size w w4 := bcall (by go_grown) hb4 (by go_size)
  have s4 := B4.size
  have q4 : w3.heap.size ≤ w4.heap.size := by have h := hb4.size; first | omega | (simp at h; omega)
  obtain ⟨bw0, bw1, bwf, bwg, bwl⟩ := (Box2.mk bw0 bw1 bwf bwg bwl).below hb4 (by go_size)
  obtain ⟨bf0, bf1, bff, bfg, bfl⟩ := (Box2.mk bf0 bf1 bff bfg bfl).below hb4 (by go_size)
  clear hb4
  go_wp2_with (go_at_call 18; refine (lin_any _ _ _ _).mono ?_; rintro e w' ⟨rfl, rfl⟩)
  refine (fault_any _ _ _).mono ?_
  rintro e w5 ⟨rfl, hb5⟩
  have B5 : Below w.heap.size w w5 := bcall (by go_grown) hb5 (by go_size)
  have s5 := B5.size
  have q5 : w4.heap.size + 1 ≤ w5.heap.size := by have h := hb5.size; first | omega | (simp at h; omega)
  obtain ⟨bw0, bw1, bwf, bwg, bwl⟩ := ((Box2.mk bw0 bw1 bwf bwg bwl).alloc (.cells #[(.int .i64 0), (.int .i64 0)] 24)).below hb5 (by go_size)
  obtain ⟨bf0, bf1, bff, bfg, bfl⟩ := ((Box2.mk bf0 bf1 bff bfg bfl).alloc (.cells #[(.int .i64 0), (.int .i64 0)] 24)).below hb5 (by go_size)
  obtain ⟨bv0, bv1, bvf, bvg, bvl⟩ := (Box2.new w4 (.int .i64 0) (.int .i64 0) 24).below hb5 (by go_size)
  clear hb5
  go_wp2_with fail
  refine (Prove_any xs i _ cap _ (hs.below (by go_grown) (Nat.le_refl _)) hm).mono ?_
  rintro e w6 ⟨v2, rfl, own2, hb6⟩
  rw [hP.out]
  rw [hW.out] at own2
  obtain ⟨o2, k2, rfl⟩ := own_slice own2
  have sl2 := Sl.own own2
  have ge2 := own_ge own2
  clear own2
  have B6 : Below w.heap.size w w6 := bcall (by go_grown) hb6 (by go_size)
  have s6 := B6.size
  have q6 : w5.heap.size ≤ w6.heap.size := by have h := hb6.size; first | omega | (simp at h; omega)
  obtain ⟨bw0, bw1, bwf, bwg, bwl⟩ := ((Box2.mk bw0 bw1 bwf bwg bwl).other (r := w4.heap.size) (by omega) (.int .i64 3) (.int .i64 (-1))).below hb6 (by go_size)
  obtain ⟨bf0, bf1, bff, bfg, bfl⟩ := ((Box2.mk bf0 bf1 bff bfg bfl).other (r := w4.heap.size) (by omega) (.int .i64 3) (.int .i64 (-1))).below hb6 (by go_size)
  obtain ⟨bv0, bv1, bvf, bvg, bvl⟩ := ((Box2.mk bv0 bv1 bvf bvg bvl).set (.int .i64 3) (.int .i64 (-1))).below hb6 (by go_size)
  clear hb6
  go_wp2_with fail
  go_wp2_with (go_at_call 18; refine (lin_any _ _ _ _).mono ?_; rintro e w' ⟨rfl, rfl⟩)
  refine (fault_any _ _ _).mono ?_
  rintro e w7 ⟨rfl, hb7⟩
  have B7 : Below w.heap.size w w7 := bcall (by go_grown) hb7 (by go_size)
  have s7 := B7.size
  have q7 : w6.heap.size ≤ w7.heap.size := by have h := hb7.size; first | omega | (simp at h; omega)
  obtain ⟨bw0, bw1, bwf, bwg, bwl⟩ := (((Box2.mk bw0 bw1 bwf bwg bwl).other (r := w2.heap.size) (by omega) (.int .i64 3) (.int .i64 (-1))).other (r := w4.heap.size) (by omega) (.int .i64 0) (.int .i64 0)).below hb7 (by go_size)
  obtain ⟨bf0, bf1, bff, bfg, bfl⟩ := (((Box2.mk bf0 bf1 bff bfg bfl).set (.int .i64 3) (.int .i64 (-1))).other (r := w4.heap.size) (by omega) (.int .i64 0) (.int .i64 0)).below hb7 (by go_size)
  obtain ⟨bv0, bv1, bvf, bvg, bvl⟩ := (((Box2.mk bv0 bv1 bvf bvg bvl).other (r := w2.heap.size) (by omega) (.int .i64 3) (.int .i64 (-1))).set (.int .i64 0) (.int .i64 0)).below hb7 (by go_size)
  clear hb7
  go_wp2_with fail
  refine (ProveConsistency_any xs m _ cap _ (hs.below (by go_grown) (Nat.le_refl _)) hm).mono ?_
  rintro e w8 ⟨v4, rfl, own4, hb8⟩
  rw [hQ.out]
  rw [hX.out] at own4
  obtain ⟨o4, k4, rfl⟩ := own_slice own4
  have sl4 := Sl.own own4
  have ge4 := own_ge own4
  clear own4
  have B8 : Below w.heap.size w w8 := bcall (by go_grown) hb8 (by go_size)
  have s8 := B8.size
  have q8 : w7.heap.size ≤ w8.heap.size := by have h := hb8.size; first | omega | (simp at h; omega)
  obtain ⟨bw0, bw1, bwf, bwg, bwl⟩ := ((Box2.mk bw0 bw1 bwf bwg bwl).other (r := w4.heap.size) (by omega) (.int .i64 3) (.int .i64 (-1))).below hb8 (by go_size)
  obtain ⟨bf0, bf1, bff, bfg, bfl⟩ := ((Box2.mk bf0 bf1 bff bfg bfl).other (r := w4.heap.size) (by omega) (.int .i64 3) (.int .i64 (-1))).below hb8 (by go_size)
  obtain ⟨bv0, bv1, bvf, bvg, bvl⟩ := ((Box2.mk bv0 bv1 bvf bvg bvl).set (.int .i64 3) (.int .i64 (-1))).below hb8 (by go_size)
  clear hb8
  go_wp2_with fail
  go_ret
  exact ⟨ret_true (by simp), by go_grown⟩
set_option maxRecDepth 100000 in
set_option maxHeartbeats 1600000 in
theorem TranslogMatchesSpec_g01 (xs : List Int) (i m : Int) (oa : Option Addr) (cap : Nat) (w : World) (hs : Sl w oa xs.length cap 1 (intVals xs)) (hm : xs.length ≤ 9223372036854775807) (hF : Pl.msgF xs = (0, 0)) (hn : xs.length ≤ 64) (hd : ∀ x ∈ xs, Pl.isDigestB x = true) (hi : Pl.inB i 0 ((xs.length : Int) - 1) = false) (hc : Pl.inB m 1 (xs.length : Int) = true) : Calls Try.prog 3 #[.slice oa xs.length cap, .int .i64 i, .int .i64 m] w fun e w' => e = .returned (.bool true) ∧ Below w.heap.size w w' := by
  have hV : Pl.rootV xs = Pl.rootS xs := by unfold Pl.rootV; rw [hF]; rfl
  have hP : Pl.prvF xs i = (3, -1) := by unfold Pl.prvF; rw [hF, if_pos rfl, hi]; rfl
  have hW : Pl.prvV xs i = [] := by unfold Pl.prvV; rw [hP]; rfl
  have bm := Pl.inB_true.1 hc
  obtain ⟨m, rfl⟩ := Int.eq_ofNat_of_zero_le (by omega : 0 ≤ m)
  have hlm : m ≤ xs.length := by omega
  have h1m : 1 ≤ m := by omega
  have hQ : Pl.pcoF xs (m : Int) = (0, 0) := by unfold Pl.pcoF; rw [hF, if_pos rfl, if_pos hc]
  have hX : Pl.pcoV xs (m : Int) = Pl.consS xs m true := by unfold Pl.pcoV; rw [hQ, if_pos rfl, Int.toNat_natCast]
  have hlJ : (Pl.consS xs m true).length ≤ 64 := Pl.consF_length 64 xs m true
  replace hE := Lib.hid hF
  clear hF
  replace hd := Lib.hid hd
  replace hV := Lib.hid hV
  replace hP := Lib.hid hP
  replace hW := Lib.hid hW
  replace hQ := Lib.hid hQ
  replace hX := Lib.hid hX
  go_enter Try.func3, Try.ntmps3
  go_wp2_with fail
  refine (LeavesFault_any xs _ cap _ (hs.below (by go_grown) (Nat.le_refl _)) hm).mono ?_
  rw [hE.out]
  rintro e w1 ⟨rfl, hb1⟩
  have B1 : Below w.heap.size w w1 := bcall (by go_grown) hb1 (by go_size)
  have s1 := B1.size
  have q1 : w.heap.size ≤ w1.heap.size := by have h := hb1.size; first | omega | (simp at h; omega)
  clear hb1
  go_wp2_with fail
  refine (Root_any xs _ cap _ (hs.below (by go_grown) (Nat.le_refl _)) hm).mono ?_
  rw [hE.out, hV.out]
  rintro e w2 ⟨rfl, hb2⟩
  have B2 : Below w.heap.size w w2 := bcall (by go_grown) hb2 (by go_size)
  have s2 := B2.size
  have q2 : w1.heap.size + 1 ≤ w2.heap.size := by have h := hb2.size; first | omega | (simp at h; omega)
  obtain ⟨bw0, bw1, bwf, bwg, bwl⟩ := (Box2.new w1 (.int .i64 0) (.int .i64 0) 24).below hb2 (by go_size)
  clear hb2
  go_wp2_with fail
  refine (logs_any _).mono ?_
  rintro e w3 ⟨rfl, hb3⟩
  have B3 : Below w.heap.size w w3 := bcall (by go_grown) hb3 (by go_size)
  have s3 := B3.size
  have q3 : w2.heap.size + 1 ≤ w3.heap.size := by have h := hb3.size; first | omega | (simp at h; omega)
  obtain ⟨bw0, bw1, bwf, bwg, bwl⟩ := ((Box2.mk bw0 bw1 bwf bwg bwl).alloc (.cells #[(.int .i64 0), (.int .i64 0)] 24)).below hb3 (by go_size)
  obtain ⟨bf0, bf1, bff, bfg, bfl⟩ := (Box2.new w2 (.int .i64 0) (.int .i64 0) 24).below hb3 (by go_size)
  clear hb3
  go_wp2_with fail
  refine (LogRoot_any xs _ cap _ (hs.below (by go_grown) (Nat.le_refl _)) hn hd.out).mono ?_
  rintro e w4 ⟨rfl, hb4⟩
  have B4 : Below w.heap.size w w4 := bcall (by go_grown) hb4 (by go_size)
  have s4 := B4.size
  have q4 : w3.heap.size ≤ w4.heap.size := by have h := hb4.size; first | omega | (simp at h; omega)
  obtain ⟨bw0, bw1, bwf, bwg, bwl⟩ := (Box2.mk bw0 bw1 bwf bwg bwl).below hb4 (by go_size)
  obtain ⟨bf0, bf1, bff, bfg, bfl⟩ := (Box2.mk bf0 bf1 bff bfg bfl).below hb4 (by go_size)
  clear hb4
  go_wp2_with (go_at_call 18; refine (lin_any _ _ _ _).mono ?_; rintro e w' ⟨rfl, rfl⟩)
  refine (fault_any _ _ _).mono ?_
  rintro e w5 ⟨rfl, hb5⟩
  have B5 : Below w.heap.size w w5 := bcall (by go_grown) hb5 (by go_size)
  have s5 := B5.size
  have q5 : w4.heap.size + 1 ≤ w5.heap.size := by have h := hb5.size; first | omega | (simp at h; omega)
  obtain ⟨bw0, bw1, bwf, bwg, bwl⟩ := ((Box2.mk bw0 bw1 bwf bwg bwl).alloc (.cells #[(.int .i64 0), (.int .i64 0)] 24)).below hb5 (by go_size)
  obtain ⟨bf0, bf1, bff, bfg, bfl⟩ := ((Box2.mk bf0 bf1 bff bfg bfl).alloc (.cells #[(.int .i64 0), (.int .i64 0)] 24)).below hb5 (by go_size)
  obtain ⟨bv0, bv1, bvf, bvg, bvl⟩ := (Box2.new w4 (.int .i64 0) (.int .i64 0) 24).below hb5 (by go_size)
  clear hb5
  go_wp2_with fail
  refine (Prove_any xs i _ cap _ (hs.below (by go_grown) (Nat.le_refl _)) hm).mono ?_
  rintro e w6 ⟨v2, rfl, own2, hb6⟩
  rw [hP.out]
  rw [hW.out] at own2
  obtain ⟨o2, k2, rfl⟩ := own_slice own2
  have sl2 := Sl.own own2
  have ge2 := own_ge own2
  clear own2
  have B6 : Below w.heap.size w w6 := bcall (by go_grown) hb6 (by go_size)
  have s6 := B6.size
  have q6 : w5.heap.size ≤ w6.heap.size := by have h := hb6.size; first | omega | (simp at h; omega)
  obtain ⟨bw0, bw1, bwf, bwg, bwl⟩ := ((Box2.mk bw0 bw1 bwf bwg bwl).other (r := w4.heap.size) (by omega) (.int .i64 3) (.int .i64 (-1))).below hb6 (by go_size)
  obtain ⟨bf0, bf1, bff, bfg, bfl⟩ := ((Box2.mk bf0 bf1 bff bfg bfl).other (r := w4.heap.size) (by omega) (.int .i64 3) (.int .i64 (-1))).below hb6 (by go_size)
  obtain ⟨bv0, bv1, bvf, bvg, bvl⟩ := ((Box2.mk bv0 bv1 bvf bvg bvl).set (.int .i64 3) (.int .i64 (-1))).below hb6 (by go_size)
  clear hb6
  go_wp2_with fail
  go_wp2_with (go_at_call 18; refine (lin_any _ _ _ _).mono ?_; rintro e w' ⟨rfl, rfl⟩)
  refine (ProveConsistency_any xs m _ cap _ (hs.below (by go_grown) (Nat.le_refl _)) hm).mono ?_
  rintro e w7 ⟨v4, rfl, own4, hb7⟩
  rw [hQ.out]
  rw [hX.out] at own4
  obtain ⟨o4, k4, rfl⟩ := own_slice own4
  have sl4 := Sl.own own4
  have ge4 := own_ge own4
  clear own4
  have B7 : Below w.heap.size w w7 := bcall (by go_grown) hb7 (by go_size)
  have s7 := B7.size
  have q7 : w6.heap.size ≤ w7.heap.size := by have h := hb7.size; first | omega | (simp at h; omega)
  obtain ⟨bw0, bw1, bwf, bwg, bwl⟩ := (((Box2.mk bw0 bw1 bwf bwg bwl).other (r := w2.heap.size) (by omega) (.int .i64 3) (.int .i64 (-1))).other (r := w4.heap.size) (by omega) (.int .i64 0) (.int .i64 0)).below hb7 (by go_size)
  obtain ⟨bf0, bf1, bff, bfg, bfl⟩ := (((Box2.mk bf0 bf1 bff bfg bfl).set (.int .i64 3) (.int .i64 (-1))).other (r := w4.heap.size) (by omega) (.int .i64 0) (.int .i64 0)).below hb7 (by go_size)
  obtain ⟨bv0, bv1, bvf, bvg, bvl⟩ := (((Box2.mk bv0 bv1 bvf bvg bvl).other (r := w2.heap.size) (by omega) (.int .i64 3) (.int .i64 (-1))).set (.int .i64 0) (.int .i64 0)).below hb7 (by go_size)
  clear hb7
  go_wp2_with fail
  refine (LogContinues_any xs m _ cap _ (hs.below (by go_grown) (Nat.le_refl _)) hn h1m hlm hd.out).mono ?_
  rintro e w8 ⟨v5, rfl, own5, hb8⟩
  obtain ⟨o5, k5, rfl⟩ := own_slice own5
  have sl5 := Sl.own own5
  have ge5 := own_ge own5
  clear own5
  have B8 : Below w.heap.size w w8 := bcall (by go_grown) hb8 (by go_size)
  have s8 := B8.size
  have q8 : w7.heap.size ≤ w8.heap.size := by have h := hb8.size; first | omega | (simp at h; omega)
  obtain ⟨bw0, bw1, bwf, bwg, bwl⟩ := ((Box2.mk bw0 bw1 bwf bwg bwl).other (r := w2.heap.size) (by omega) (.int .i64 0) (.int .i64 0)).below hb8 (by go_size)
  obtain ⟨bf0, bf1, bff, bfg, bfl⟩ := ((Box2.mk bf0 bf1 bff bfg bfl).set (.int .i64 0) (.int .i64 0)).below hb8 (by go_size)
  obtain ⟨bv0, bv1, bvf, bvg, bvl⟩ := ((Box2.mk bv0 bv1 bvf bvg bvl).other (r := w2.heap.size) (by omega) (.int .i64 0) (.int .i64 0)).below hb8 (by go_size)
  replace sl4 := (sl4.set2 (r := w2.heap.size) (fun b off hb => by have hb := ge4 b off hb; (try simp only [World.size_setCell] at hb); omega) (.int .i64 0) (.int .i64 0)).below hb8 (Nat.le_refl _)
  clear hb8
  go_wp2_with fail
  refine (Ints_any (Pl.consS xs m true) (Pl.consS xs m true) o4 o5 k4 k5 _ (sl4.below (by go_grown) (Nat.le_refl _)) (sl5.below (by go_grown) (Nat.le_refl _)) (by omega) (by omega)).mono ?_
  rw [show decide (Pl.consS xs m true = Pl.consS xs m true) = true from decide_eq_true rfl]
  rintro e w9 ⟨rfl, hb9⟩
  have B9 : Below w.heap.size w w9 := bcall (by go_grown) hb9 (by go_size)
  have s9 := B9.size
  have q9 : w8.heap.size ≤ w9.heap.size := by have h := hb9.size; first | omega | (simp at h; omega)
  obtain ⟨bw0, bw1, bwf, bwg, bwl⟩ := (Box2.mk bw0 bw1 bwf bwg bwl).below hb9 (by go_size)
  obtain ⟨bf0, bf1, bff, bfg, bfl⟩ := (Box2.mk bf0 bf1 bff bfg bfl).below hb9 (by go_size)
  obtain ⟨bv0, bv1, bvf, bvg, bvl⟩ := (Box2.mk bv0 bv1 bvf bvg bvl).below hb9 (by go_size)
  replace sl4 := sl4.below hb9 (Nat.le_refl _)
  replace sl5 := sl5.below hb9 (Nat.le_refl _)
  clear hb9
  go_wp2_with fail
  go_ret
  exact ⟨ret_true (by simp), by go_grown⟩
set_option maxRecDepth 100000 in
set_option maxHeartbeats 1600000 in
theorem TranslogMatchesSpec_g10 (xs : List Int) (i m : Int) (oa : Option Addr) (cap : Nat) (w : World) (hs : Sl w oa xs.length cap 1 (intVals xs)) (hm : xs.length ≤ 9223372036854775807) (hF : Pl.msgF xs = (0, 0)) (hn : xs.length ≤ 64) (hd : ∀ x ∈ xs, Pl.isDigestB x = true) (hi : Pl.inB i 0 ((xs.length : Int) - 1) = true) (hc : Pl.inB m 1 (xs.length : Int) = false) : Calls Try.prog 3 #[.slice oa xs.length cap, .int .i64 i, .int .i64 m] w fun e w' => e = .returned (.bool true) ∧ Below w.heap.size w w' := by
  have hV : Pl.rootV xs = Pl.rootS xs := by unfold Pl.rootV; rw [hF]; rfl
  have bi := Pl.inB_true.1 hi
  obtain ⟨i, rfl⟩ := Int.eq_ofNat_of_zero_le bi.1
  have hlt : i < xs.length := by omega
  have hP : Pl.prvF xs (i : Int) = (0, 0) := by unfold Pl.prvF; rw [hF, if_pos rfl, if_pos hi]
  have hW : Pl.prvV xs (i : Int) = Pl.proveS xs i := by unfold Pl.prvV; rw [hP, if_pos rfl, Int.toNat_natCast]
  have hlI := Pl.prove_length hn hlt
  have hQ : Pl.pcoF xs m = (3, -1) := by unfold Pl.pcoF; rw [hF, if_pos rfl, hc]; rfl
  have hX : Pl.pcoV xs m = [] := by unfold Pl.pcoV; rw [hQ]; rfl
  replace hE := Lib.hid hF
  clear hF
  replace hd := Lib.hid hd
  replace hV := Lib.hid hV
  replace hP := Lib.hid hP
  replace hW := Lib.hid hW
  replace hQ := Lib.hid hQ
  replace hX := Lib.hid hX
  go_enter Try.func3, Try.ntmps3
  go_wp2_with fail
  refine (LeavesFault_any xs _ cap _ (hs.below (by go_grown) (Nat.le_refl _)) hm).mono ?_
  rw [hE.out]
  rintro e w1 ⟨rfl, hb1⟩
  have B1 : Below w.heap.size w w1 := bcall (by go_grown) hb1 (by go_size)
  have s1 := B1.size
  have q1 : w.heap.size ≤ w1.heap.size := by have h := hb1.size; first | omega | (simp at h; omega)
  clear hb1
  go_wp2_with fail
  refine (Root_any xs _ cap _ (hs.below (by go_grown) (Nat.le_refl _)) hm).mono ?_
  rw [hE.out, hV.out]
  rintro e w2 ⟨rfl, hb2⟩
  have B2 : Below w.heap.size w w2 := bcall (by go_grown) hb2 (by go_size)
  have s2 := B2.size
  have q2 : w1.heap.size + 1 ≤ w2.heap.size := by have h := hb2.size; first | omega | (simp at h; omega)
  obtain ⟨bw0, bw1, bwf, bwg, bwl⟩ := (Box2.new w1 (.int .i64 0) (.int .i64 0) 24).below hb2 (by go_size)
  clear hb2
  go_wp2_with fail
  refine (logs_any _).mono ?_
  rintro e w3 ⟨rfl, hb3⟩
  have B3 : Below w.heap.size w w3 := bcall (by go_grown) hb3 (by go_size)
  have s3 := B3.size
  have q3 : w2.heap.size + 1 ≤ w3.heap.size := by have h := hb3.size; first | omega | (simp at h; omega)
  obtain ⟨bw0, bw1, bwf, bwg, bwl⟩ := ((Box2.mk bw0 bw1 bwf bwg bwl).alloc (.cells #[(.int .i64 0), (.int .i64 0)] 24)).below hb3 (by go_size)
  obtain ⟨bf0, bf1, bff, bfg, bfl⟩ := (Box2.new w2 (.int .i64 0) (.int .i64 0) 24).below hb3 (by go_size)
  clear hb3
  go_wp2_with fail
  refine (LogRoot_any xs _ cap _ (hs.below (by go_grown) (Nat.le_refl _)) hn hd.out).mono ?_
  rintro e w4 ⟨rfl, hb4⟩
  have B4 : Below w.heap.size w w4 := bcall (by go_grown) hb4 (by go_size)
  have s4 := B4.size
  have q4 : w3.heap.size ≤ w4.heap.size := by have h := hb4.size; first | omega | (simp at h; omega)
  obtain ⟨bw0, bw1, bwf, bwg, bwl⟩ := (Box2.mk bw0 bw1 bwf bwg bwl).below hb4 (by go_size)
  obtain ⟨bf0, bf1, bff, bfg, bfl⟩ := (Box2.mk bf0 bf1 bff bfg bfl).below hb4 (by go_size)
  clear hb4
  go_wp2_with (go_at_call 18; refine (lin_any _ _ _ _).mono ?_; rintro e w' ⟨rfl, rfl⟩)
  refine (Prove_any xs i _ cap _ (hs.below (by go_grown) (Nat.le_refl _)) hm).mono ?_
  rintro e w5 ⟨v2, rfl, own2, hb5⟩
  rw [hP.out]
  rw [hW.out] at own2
  obtain ⟨o2, k2, rfl⟩ := own_slice own2
  have sl2 := Sl.own own2
  have ge2 := own_ge own2
  clear own2
  have B5 : Below w.heap.size w w5 := bcall (by go_grown) hb5 (by go_size)
  have s5 := B5.size
  have q5 : w4.heap.size + 1 ≤ w5.heap.size := by have h := hb5.size; first | omega | (simp at h; omega)
  obtain ⟨bw0, bw1, bwf, bwg, bwl⟩ := ((Box2.mk bw0 bw1 bwf bwg bwl).alloc (.cells #[(.int .i64 0), (.int .i64 0)] 24)).below hb5 (by go_size)
  obtain ⟨bf0, bf1, bff, bfg, bfl⟩ := ((Box2.mk bf0 bf1 bff bfg bfl).alloc (.cells #[(.int .i64 0), (.int .i64 0)] 24)).below hb5 (by go_size)
  obtain ⟨bv0, bv1, bvf, bvg, bvl⟩ := (Box2.new w4 (.int .i64 0) (.int .i64 0) 24).below hb5 (by go_size)
  clear hb5
  go_wp2_with fail
  refine (LogProof_any xs i _ cap _ (hs.below (by go_grown) (Nat.le_refl _)) hn hlt hd.out).mono ?_
  rintro e w6 ⟨v3, rfl, own3, hb6⟩
  obtain ⟨o3, k3, rfl⟩ := own_slice own3
  have sl3 := Sl.own own3
  have ge3 := own_ge own3
  clear own3
  have B6 : Below w.heap.size w w6 := bcall (by go_grown) hb6 (by go_size)
  have s6 := B6.size
  have q6 : w5.heap.size ≤ w6.heap.size := by have h := hb6.size; first | omega | (simp at h; omega)
  obtain ⟨bw0, bw1, bwf, bwg, bwl⟩ := ((Box2.mk bw0 bw1 bwf bwg bwl).other (r := w2.heap.size) (by omega) (.int .i64 0) (.int .i64 0)).below hb6 (by go_size)
  obtain ⟨bf0, bf1, bff, bfg, bfl⟩ := ((Box2.mk bf0 bf1 bff bfg bfl).set (.int .i64 0) (.int .i64 0)).below hb6 (by go_size)
  obtain ⟨bv0, bv1, bvf, bvg, bvl⟩ := ((Box2.mk bv0 bv1 bvf bvg bvl).other (r := w2.heap.size) (by omega) (.int .i64 0) (.int .i64 0)).below hb6 (by go_size)
  replace sl2 := (sl2.set2 (r := w2.heap.size) (fun b off hb => by have hb := ge2 b off hb; (try simp only [World.size_alloc] at hb); omega) (.int .i64 0) (.int .i64 0)).below hb6 (Nat.le_refl _)
  clear hb6
  go_wp2_with fail
  refine (Ints_any (Pl.proveS xs i) (Pl.proveS xs i) o2 o3 k2 k3 _ (sl2.below (by go_grown) (Nat.le_refl _)) (sl3.below (by go_grown) (Nat.le_refl _)) (by omega) (by omega)).mono ?_
  rw [show decide (Pl.proveS xs i = Pl.proveS xs i) = true from decide_eq_true rfl]
  rintro e w7 ⟨rfl, hb7⟩
  have B7 : Below w.heap.size w w7 := bcall (by go_grown) hb7 (by go_size)
  have s7 := B7.size
  have q7 : w6.heap.size ≤ w7.heap.size := by have h := hb7.size; first | omega | (simp at h; omega)
  obtain ⟨bw0, bw1, bwf, bwg, bwl⟩ := (Box2.mk bw0 bw1 bwf bwg bwl).below hb7 (by go_size)
  obtain ⟨bf0, bf1, bff, bfg, bfl⟩ := (Box2.mk bf0 bf1 bff bfg bfl).below hb7 (by go_size)
  obtain ⟨bv0, bv1, bvf, bvg, bvl⟩ := (Box2.mk bv0 bv1 bvf bvg bvl).below hb7 (by go_size)
  replace sl2 := sl2.below hb7 (Nat.le_refl _)
  replace sl3 := sl3.below hb7 (Nat.le_refl _)
  clear hb7
  go_wp2_with (go_at_call 18; refine (lin_any _ _ _ _).mono ?_; rintro e w' ⟨rfl, rfl⟩)
  refine (fault_any _ _ _).mono ?_
  rintro e w8 ⟨rfl, hb8⟩
  have B8 : Below w.heap.size w w8 := bcall (by go_grown) hb8 (by go_size)
  have s8 := B8.size
  have q8 : w7.heap.size ≤ w8.heap.size := by have h := hb8.size; first | omega | (simp at h; omega)
  obtain ⟨bw0, bw1, bwf, bwg, bwl⟩ := ((Box2.mk bw0 bw1 bwf bwg bwl).other (r := w4.heap.size) (by omega) (.int .i64 0) (.int .i64 0)).below hb8 (by go_size)
  obtain ⟨bf0, bf1, bff, bfg, bfl⟩ := ((Box2.mk bf0 bf1 bff bfg bfl).other (r := w4.heap.size) (by omega) (.int .i64 0) (.int .i64 0)).below hb8 (by go_size)
  obtain ⟨bv0, bv1, bvf, bvg, bvl⟩ := ((Box2.mk bv0 bv1 bvf bvg bvl).set (.int .i64 0) (.int .i64 0)).below hb8 (by go_size)
  clear hb8
  go_wp2_with fail
  refine (ProveConsistency_any xs m _ cap _ (hs.below (by go_grown) (Nat.le_refl _)) hm).mono ?_
  rintro e w9 ⟨v4, rfl, own4, hb9⟩
  rw [hQ.out]
  rw [hX.out] at own4
  obtain ⟨o4, k4, rfl⟩ := own_slice own4
  have sl4 := Sl.own own4
  have ge4 := own_ge own4
  clear own4
  have B9 : Below w.heap.size w w9 := bcall (by go_grown) hb9 (by go_size)
  have s9 := B9.size
  have q9 : w8.heap.size ≤ w9.heap.size := by have h := hb9.size; first | omega | (simp at h; omega)
  obtain ⟨bw0, bw1, bwf, bwg, bwl⟩ := ((Box2.mk bw0 bw1 bwf bwg bwl).other (r := w4.heap.size) (by omega) (.int .i64 3) (.int .i64 (-1))).below hb9 (by go_size)
  obtain ⟨bf0, bf1, bff, bfg, bfl⟩ := ((Box2.mk bf0 bf1 bff bfg bfl).other (r := w4.heap.size) (by omega) (.int .i64 3) (.int .i64 (-1))).below hb9 (by go_size)
  obtain ⟨bv0, bv1, bvf, bvg, bvl⟩ := ((Box2.mk bv0 bv1 bvf bvg bvl).set (.int .i64 3) (.int .i64 (-1))).below hb9 (by go_size)
  clear hb9
  go_wp2_with fail
  go_ret
  exact ⟨ret_true (by simp), by go_grown⟩
set_option maxRecDepth 100000 in
set_option maxHeartbeats 1600000 in
theorem TranslogMatchesSpec_g11 (xs : List Int) (i m : Int) (oa : Option Addr) (cap : Nat) (w : World) (hs : Sl w oa xs.length cap 1 (intVals xs)) (hm : xs.length ≤ 9223372036854775807) (hF : Pl.msgF xs = (0, 0)) (hn : xs.length ≤ 64) (hd : ∀ x ∈ xs, Pl.isDigestB x = true) (hi : Pl.inB i 0 ((xs.length : Int) - 1) = true) (hc : Pl.inB m 1 (xs.length : Int) = true) : Calls Try.prog 3 #[.slice oa xs.length cap, .int .i64 i, .int .i64 m] w fun e w' => e = .returned (.bool true) ∧ Below w.heap.size w w' := by
  have hV : Pl.rootV xs = Pl.rootS xs := by unfold Pl.rootV; rw [hF]; rfl
  have bi := Pl.inB_true.1 hi
  obtain ⟨i, rfl⟩ := Int.eq_ofNat_of_zero_le bi.1
  have hlt : i < xs.length := by omega
  have hP : Pl.prvF xs (i : Int) = (0, 0) := by unfold Pl.prvF; rw [hF, if_pos rfl, if_pos hi]
  have hW : Pl.prvV xs (i : Int) = Pl.proveS xs i := by unfold Pl.prvV; rw [hP, if_pos rfl, Int.toNat_natCast]
  have hlI := Pl.prove_length hn hlt
  have bm := Pl.inB_true.1 hc
  obtain ⟨m, rfl⟩ := Int.eq_ofNat_of_zero_le (by omega : 0 ≤ m)
  have hlm : m ≤ xs.length := by omega
  have h1m : 1 ≤ m := by omega
  have hQ : Pl.pcoF xs (m : Int) = (0, 0) := by unfold Pl.pcoF; rw [hF, if_pos rfl, if_pos hc]
  have hX : Pl.pcoV xs (m : Int) = Pl.consS xs m true := by unfold Pl.pcoV; rw [hQ, if_pos rfl, Int.toNat_natCast]
  have hlJ : (Pl.consS xs m true).length ≤ 64 := Pl.consF_length 64 xs m true
  replace hE := Lib.hid hF
  clear hF
  replace hd := Lib.hid hd
  replace hV := Lib.hid hV
  replace hP := Lib.hid hP
  replace hW := Lib.hid hW
  replace hQ := Lib.hid hQ
  replace hX := Lib.hid hX
  go_enter Try.func3, Try.ntmps3
  go_wp2_with fail
  refine (LeavesFault_any xs _ cap _ (hs.below (by go_grown) (Nat.le_refl _)) hm).mono ?_
  rw [hE.out]
  rintro e w1 ⟨rfl, hb1⟩
  have B1 : Below w.heap.size w w1 := bcall (by go_grown) hb1 (by go_size)
  have s1 := B1.size
  have q1 : w.heap.size ≤ w1.heap.size := by have h := hb1.size; first | omega | (simp at h; omega)
  clear hb1
  go_wp2_with fail
  refine (Root_any xs _ cap _ (hs.below (by go_grown) (Nat.le_refl _)) hm).mono ?_
  rw [hE.out, hV.out]
  rintro e w2 ⟨rfl, hb2⟩
  have B2 : Below w.heap.size w w2 := bcall (by go_grown) hb2 (by go_size)
  have s2 := B2.size
  have q2 : w1.heap.size + 1 ≤ w2.heap.size := by have h := hb2.size; first | omega | (simp at h; omega)
  obtain ⟨bw0, bw1, bwf, bwg, bwl⟩ := (Box2.new w1 (.int .i64 0) (.int .i64 0) 24).below hb2 (by go_size)
  clear hb2
  go_wp2_with fail
  refine (logs_any _).mono ?_
  rintro e w3 ⟨rfl, hb3⟩
  have B3 : Below w.heap.size w w3 := bcall (by go_grown) hb3 (by go_size)
  have s3 := B3.size
  have q3 : w2.heap.size + 1 ≤ w3.heap.size := by have h := hb3.size; first | omega | (simp at h; omega)
  obtain ⟨bw0, bw1, bwf, bwg, bwl⟩ := ((Box2.mk bw0 bw1 bwf bwg bwl).alloc (.cells #[(.int .i64 0), (.int .i64 0)] 24)).below hb3 (by go_size)
  obtain ⟨bf0, bf1, bff, bfg, bfl⟩ := (Box2.new w2 (.int .i64 0) (.int .i64 0) 24).below hb3 (by go_size)
  clear hb3
  go_wp2_with fail
  refine (LogRoot_any xs _ cap _ (hs.below (by go_grown) (Nat.le_refl _)) hn hd.out).mono ?_
  rintro e w4 ⟨rfl, hb4⟩
  have B4 : Below w.heap.size w w4 := bcall (by go_grown) hb4 (by go_size)
  have s4 := B4.size
  have q4 : w3.heap.size ≤ w4.heap.size := by have h := hb4.size; first | omega | (simp at h; omega)
  obtain ⟨bw0, bw1, bwf, bwg, bwl⟩ := (Box2.mk bw0 bw1 bwf bwg bwl).below hb4 (by go_size)
  obtain ⟨bf0, bf1, bff, bfg, bfl⟩ := (Box2.mk bf0 bf1 bff bfg bfl).below hb4 (by go_size)
  clear hb4
  go_wp2_with (go_at_call 18; refine (lin_any _ _ _ _).mono ?_; rintro e w' ⟨rfl, rfl⟩)
  refine (Prove_any xs i _ cap _ (hs.below (by go_grown) (Nat.le_refl _)) hm).mono ?_
  rintro e w5 ⟨v2, rfl, own2, hb5⟩
  rw [hP.out]
  rw [hW.out] at own2
  obtain ⟨o2, k2, rfl⟩ := own_slice own2
  have sl2 := Sl.own own2
  have ge2 := own_ge own2
  clear own2
  have B5 : Below w.heap.size w w5 := bcall (by go_grown) hb5 (by go_size)
  have s5 := B5.size
  have q5 : w4.heap.size + 1 ≤ w5.heap.size := by have h := hb5.size; first | omega | (simp at h; omega)
  obtain ⟨bw0, bw1, bwf, bwg, bwl⟩ := ((Box2.mk bw0 bw1 bwf bwg bwl).alloc (.cells #[(.int .i64 0), (.int .i64 0)] 24)).below hb5 (by go_size)
  obtain ⟨bf0, bf1, bff, bfg, bfl⟩ := ((Box2.mk bf0 bf1 bff bfg bfl).alloc (.cells #[(.int .i64 0), (.int .i64 0)] 24)).below hb5 (by go_size)
  obtain ⟨bv0, bv1, bvf, bvg, bvl⟩ := (Box2.new w4 (.int .i64 0) (.int .i64 0) 24).below hb5 (by go_size)
  clear hb5
  go_wp2_with fail
  refine (LogProof_any xs i _ cap _ (hs.below (by go_grown) (Nat.le_refl _)) hn hlt hd.out).mono ?_
  rintro e w6 ⟨v3, rfl, own3, hb6⟩
  obtain ⟨o3, k3, rfl⟩ := own_slice own3
  have sl3 := Sl.own own3
  have ge3 := own_ge own3
  clear own3
  have B6 : Below w.heap.size w w6 := bcall (by go_grown) hb6 (by go_size)
  have s6 := B6.size
  have q6 : w5.heap.size ≤ w6.heap.size := by have h := hb6.size; first | omega | (simp at h; omega)
  obtain ⟨bw0, bw1, bwf, bwg, bwl⟩ := ((Box2.mk bw0 bw1 bwf bwg bwl).other (r := w2.heap.size) (by omega) (.int .i64 0) (.int .i64 0)).below hb6 (by go_size)
  obtain ⟨bf0, bf1, bff, bfg, bfl⟩ := ((Box2.mk bf0 bf1 bff bfg bfl).set (.int .i64 0) (.int .i64 0)).below hb6 (by go_size)
  obtain ⟨bv0, bv1, bvf, bvg, bvl⟩ := ((Box2.mk bv0 bv1 bvf bvg bvl).other (r := w2.heap.size) (by omega) (.int .i64 0) (.int .i64 0)).below hb6 (by go_size)
  replace sl2 := (sl2.set2 (r := w2.heap.size) (fun b off hb => by have hb := ge2 b off hb; (try simp only [World.size_alloc] at hb); omega) (.int .i64 0) (.int .i64 0)).below hb6 (Nat.le_refl _)
  clear hb6
  go_wp2_with fail
  refine (Ints_any (Pl.proveS xs i) (Pl.proveS xs i) o2 o3 k2 k3 _ (sl2.below (by go_grown) (Nat.le_refl _)) (sl3.below (by go_grown) (Nat.le_refl _)) (by omega) (by omega)).mono ?_
  rw [show decide (Pl.proveS xs i = Pl.proveS xs i) = true from decide_eq_true rfl]
  rintro e w7 ⟨rfl, hb7⟩
  have B7 : Below w.heap.size w w7 := bcall (by go_grown) hb7 (by go_size)
  have s7 := B7.size
  have q7 : w6.heap.size ≤ w7.heap.size := by have h := hb7.size; first | omega | (simp at h; omega)
  obtain ⟨bw0, bw1, bwf, bwg, bwl⟩ := (Box2.mk bw0 bw1 bwf bwg bwl).below hb7 (by go_size)
  obtain ⟨bf0, bf1, bff, bfg, bfl⟩ := (Box2.mk bf0 bf1 bff bfg bfl).below hb7 (by go_size)
  obtain ⟨bv0, bv1, bvf, bvg, bvl⟩ := (Box2.mk bv0 bv1 bvf bvg bvl).below hb7 (by go_size)
  replace sl2 := sl2.below hb7 (Nat.le_refl _)
  replace sl3 := sl3.below hb7 (Nat.le_refl _)
  clear hb7
  go_wp2_with (go_at_call 18; refine (lin_any _ _ _ _).mono ?_; rintro e w' ⟨rfl, rfl⟩)
  refine (ProveConsistency_any xs m _ cap _ (hs.below (by go_grown) (Nat.le_refl _)) hm).mono ?_
  rintro e w8 ⟨v4, rfl, own4, hb8⟩
  rw [hQ.out]
  rw [hX.out] at own4
  obtain ⟨o4, k4, rfl⟩ := own_slice own4
  have sl4 := Sl.own own4
  have ge4 := own_ge own4
  clear own4
  have B8 : Below w.heap.size w w8 := bcall (by go_grown) hb8 (by go_size)
  have s8 := B8.size
  have q8 : w7.heap.size ≤ w8.heap.size := by have h := hb8.size; first | omega | (simp at h; omega)
  obtain ⟨bw0, bw1, bwf, bwg, bwl⟩ := ((Box2.mk bw0 bw1 bwf bwg bwl).other (r := w4.heap.size) (by omega) (.int .i64 0) (.int .i64 0)).below hb8 (by go_size)
  obtain ⟨bf0, bf1, bff, bfg, bfl⟩ := ((Box2.mk bf0 bf1 bff bfg bfl).other (r := w4.heap.size) (by omega) (.int .i64 0) (.int .i64 0)).below hb8 (by go_size)
  obtain ⟨bv0, bv1, bvf, bvg, bvl⟩ := ((Box2.mk bv0 bv1 bvf bvg bvl).set (.int .i64 0) (.int .i64 0)).below hb8 (by go_size)
  clear hb8
  go_wp2_with fail
  refine (LogContinues_any xs m _ cap _ (hs.below (by go_grown) (Nat.le_refl _)) hn h1m hlm hd.out).mono ?_
  rintro e w9 ⟨v5, rfl, own5, hb9⟩
  obtain ⟨o5, k5, rfl⟩ := own_slice own5
  have sl5 := Sl.own own5
  have ge5 := own_ge own5
  clear own5
  have B9 : Below w.heap.size w w9 := bcall (by go_grown) hb9 (by go_size)
  have s9 := B9.size
  have q9 : w8.heap.size ≤ w9.heap.size := by have h := hb9.size; first | omega | (simp at h; omega)
  obtain ⟨bw0, bw1, bwf, bwg, bwl⟩ := ((Box2.mk bw0 bw1 bwf bwg bwl).other (r := w2.heap.size) (by omega) (.int .i64 0) (.int .i64 0)).below hb9 (by go_size)
  obtain ⟨bf0, bf1, bff, bfg, bfl⟩ := ((Box2.mk bf0 bf1 bff bfg bfl).set (.int .i64 0) (.int .i64 0)).below hb9 (by go_size)
  obtain ⟨bv0, bv1, bvf, bvg, bvl⟩ := ((Box2.mk bv0 bv1 bvf bvg bvl).other (r := w2.heap.size) (by omega) (.int .i64 0) (.int .i64 0)).below hb9 (by go_size)
  replace sl4 := (sl4.set2 (r := w2.heap.size) (fun b off hb => by have hb := ge4 b off hb; (try simp only [World.size_setCell] at hb); omega) (.int .i64 0) (.int .i64 0)).below hb9 (Nat.le_refl _)
  clear hb9
  go_wp2_with fail
  refine (Ints_any (Pl.consS xs m true) (Pl.consS xs m true) o4 o5 k4 k5 _ (sl4.below (by go_grown) (Nat.le_refl _)) (sl5.below (by go_grown) (Nat.le_refl _)) (by omega) (by omega)).mono ?_
  rw [show decide (Pl.consS xs m true = Pl.consS xs m true) = true from decide_eq_true rfl]
  rintro e w10 ⟨rfl, hb10⟩
  have B10 : Below w.heap.size w w10 := bcall (by go_grown) hb10 (by go_size)
  have s10 := B10.size
  have q10 : w9.heap.size ≤ w10.heap.size := by have h := hb10.size; first | omega | (simp at h; omega)
  obtain ⟨bw0, bw1, bwf, bwg, bwl⟩ := (Box2.mk bw0 bw1 bwf bwg bwl).below hb10 (by go_size)
  obtain ⟨bf0, bf1, bff, bfg, bfl⟩ := (Box2.mk bf0 bf1 bff bfg bfl).below hb10 (by go_size)
  obtain ⟨bv0, bv1, bvf, bvg, bvl⟩ := (Box2.mk bv0 bv1 bvf bvg bvl).below hb10 (by go_size)
  replace sl4 := sl4.below hb10 (Nat.le_refl _)
  replace sl5 := sl5.below hb10 (Nat.le_refl _)
  clear hb10
  go_wp2_with fail
  go_ret
  exact ⟨ret_true (by simp), by go_grown⟩
theorem TranslogMatchesSpec_main (i m : Int) (xs : List Int) (oa : Option Addr) (cap : Nat) (w : World) (hs : Sl w oa xs.length cap 1 (intVals xs)) (hm : xs.length ≤ 9223372036854775807) : Calls Try.prog 3 #[.slice oa xs.length cap, .int .i64 i, .int .i64 m] w fun e w' => e = .returned (.bool true) ∧ Below w.heap.size w w' := by
  rcases Pl.logF_cases xs with ⟨hF, hn, hd⟩ | hF
  · cases hi : Pl.inB i 0 ((xs.length : Int) - 1) <;> cases hc : Pl.inB m 1 (xs.length : Int)
    · exact TranslogMatchesSpec_g00 xs i m oa cap w hs hm hF hn hd hi hc
    · exact TranslogMatchesSpec_g01 xs i m oa cap w hs hm hF hn hd hi hc
    · exact TranslogMatchesSpec_g10 xs i m oa cap w hs hm hF hn hd hi hc
    · exact TranslogMatchesSpec_g11 xs i m oa cap w hs hm hF hn hd hi hc
  · exact TranslogMatchesSpec_bad xs i m oa cap w hs hm hF
end Go.Proofs.Ytplcbhcbahiheaa
