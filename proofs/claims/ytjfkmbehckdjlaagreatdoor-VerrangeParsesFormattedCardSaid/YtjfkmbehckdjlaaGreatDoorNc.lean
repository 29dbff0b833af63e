/- The law VerrangeParsesFormatted: its walk. -/
import Derived.Test.YtjfkmbehckdjlaaGreatDoorMEd
namespace Go.Proofs.YtjfkmbehckdjlaaGreatDoor
open Go.RowKit

set_option maxRecDepth 100000 in
set_option maxHeartbeats 16000000 in
theorem vpf_ok (r : List Pl.Ivl) (a : Option Addr) (c : Nat) (w : World) (h : RIn w r a c) (EN : Env w) (er : Pl.rngF r = (0, 0)) : Calls Tryz.prog 6 #[.agg #[.slice a r.length c]] w fun e w' => e = .returned (.bool true) ∧ Below w.heap.size w w' := by
  have HE := Lib.hid EN
  have H := Lib.hid h
  have CS := Lib.hid (fun (W : World) (g : RIn W r a c) (E : Env W) => rngFormat_any r a c W g E)
  rw [er] at CS
  have e1 : Pl.fmtR r = Pl.mkS (Pl.rngT r) := by unfold Pl.fmtR; rw [er]; rfl
  rw [e1] at CS
  have t := Pl.rngP_text (Pl.rng_ok (r := r) (by rw [er])).2 (Pl.rng_ok (r := r) (by rw [er])).1
  have hz : (Pl.mkS (Pl.rngT r)).size ≤ 4096 := by rw [Pl.mkS_size]; exact t.2
  have CP := Lib.hid (fun (W : World) (E : Env W) => rngParse_any (Pl.mkS (Pl.rngT r)) W hz E)
  rw [show Pl.prsV (Pl.mkS (Pl.rngT r)) = r by unfold Pl.prsV; rw [if_neg (by omega), Pl.bsl_mkS, t.1], show Pl.prsF (Pl.mkS (Pl.rngT r)) = (0, 0) by unfold Pl.prsF; rw [if_neg (by omega), Pl.bsl_mkS, t.1]] at CP
  generalize Pl.mkS (Pl.rngT r) = S at *
  delta RRngF at CP
  simp only [fltV] at CP
  clear e1 t
  delta RFmt at CS
  simp only [fltV] at CS
  clear h EN er
  go_enter Tryz.func6, Tryz.ntmps6
  have B0 : Below w.heap.size w w := Below.refl _ _
  go_wp2_with fail
  have B1 : Below w.heap.size w (w.alloc (.cells #[.slice a r.length c] 24)) := by go_grown
  have q1 : w.heap.size + 1 ≤ (w.alloc (.cells #[.slice a r.length c] 24)).heap.size := by simp only [World.size_alloc]; omega
  replace H := Lib.hid (H.out.below (Below.refl _ _ |>.alloc (Nat.le_refl _) (.cells #[.slice a r.length c] 24)) (Nat.le_refl _))
  have X := (Bk.new (r := w.heap.size) (cs := [.slice a r.length c]) w 24 (by simp))
  generalize (w.alloc (.cells #[.slice a r.length c] 24)) = w1 at *
  have s1 : w.heap.size ≤ w1.heap.size := B1.size
  obtain ⟨X_c, X_f, X_l⟩ := id X
  refine (CS.out _ H.out (HE.out.below B1 (Nat.le_refl _))).mono ?_
  rintro e w2 ⟨rfl, hb⟩
  have B2 : Below w.heap.size w w2 := bcall (by go_grown) hb (by go_size)
  have q2 : w1.heap.size + 0 ≤ w2.heap.size := by have z := hb.size; (try simp only [World.size_alloc, World.size_setCell, World.size_drew] at z); omega
  replace H := Lib.hid (H.out.below hb (Nat.le_refl _))
  replace X := (X).below hb (by go_size)
  clear hb
  have s2 : w.heap.size ≤ w2.heap.size := B2.size
  clear X_c X_f X_l
  obtain ⟨X_c, X_f, X_l⟩ := id X
  go_wp2_with fail
  have B3 : Below w.heap.size w (w2.alloc (.cells #[.int .i64 0, .int .i64 0] 29)) := by go_grown
  have q3 : w2.heap.size + 1 ≤ (w2.alloc (.cells #[.int .i64 0, .int .i64 0] 29)).heap.size := by simp only [World.size_alloc]; omega
  replace H := Lib.hid (H.out.below (Below.refl _ _ |>.alloc (Nat.le_refl _) (.cells #[.int .i64 0, .int .i64 0] 29)) (Nat.le_refl _))
  replace X := (X.alloc (.cells #[.int .i64 0, .int .i64 0] 29))
  have F := (Bk.new (r := w2.heap.size) (cs := [.int .i64 0, .int .i64 0]) w2 29 (by simp))
  clear X_c X_f X_l
  generalize (w2.alloc (.cells #[.int .i64 0, .int .i64 0] 29)) = w3 at *
  have s3 : w.heap.size ≤ w3.heap.size := B3.size
  obtain ⟨X_c, X_f, X_l⟩ := id X
  obtain ⟨F_c, F_f, F_l⟩ := id F
  refine (ranges_any _ (HE.out.below B3 (Nat.le_refl _))).mono ?_
  rintro e w4 ⟨rfl, hb⟩
  have B4 : Below w.heap.size w w4 := bcall (by go_grown) hb (by go_size)
  have q4 : w3.heap.size + 0 ≤ w4.heap.size := by have z := hb.size; (try simp only [World.size_alloc, World.size_setCell, World.size_drew] at z); omega
  replace H := Lib.hid (H.out.below hb (Nat.le_refl _))
  replace X := (X).below hb (by go_size)
  replace F := (F).below hb (by go_size)
  clear hb
  have s4 : w.heap.size ≤ w4.heap.size := B4.size
  clear X_c X_f X_l F_c F_f F_l
  obtain ⟨X_c, X_f, X_l⟩ := id X
  obtain ⟨F_c, F_f, F_l⟩ := id F
  go_wp2_with fail
  refine (CP.out _ (HE.out.below B4 (Nat.le_refl _))).mono ?_
  rintro e w5 ⟨o5, k5, rfl, RA, hb⟩
  replace RA := Lib.hid RA
  have B5 : Below w.heap.size w w5 := bcall (by go_grown) hb (by go_size)
  have q5 : w4.heap.size + 0 ≤ w5.heap.size := by have z := hb.size; (try simp only [World.size_alloc, World.size_setCell, World.size_drew] at z); omega
  replace H := Lib.hid (H.out.below hb (Nat.le_refl _))
  replace X := (X).below hb (by go_size)
  replace F := (F).below hb (by go_size)
  clear hb
  have s5 : w.heap.size ≤ w5.heap.size := B5.size
  clear X_c X_f X_l F_c F_f F_l
  obtain ⟨X_c, X_f, X_l⟩ := id X
  obtain ⟨F_c, F_f, F_l⟩ := id F
  go_wp2_with fail
  have B6 : Below w.heap.size w ((w5.alloc (.cells #[.slice o5 r.length k5] 24)).alloc (.cells #[.int .i64 0, .int .i64 0] 29)) := by go_grown
  have q6 : w5.heap.size + 2 ≤ ((w5.alloc (.cells #[.slice o5 r.length k5] 24)).alloc (.cells #[.int .i64 0, .int .i64 0] 29)).heap.size := by simp only [World.size_alloc]; omega
  replace H := Lib.hid ((H.out.below (Below.refl _ _ |>.alloc (Nat.le_refl _) (.cells #[.slice o5 r.length k5] 24)) (Nat.le_refl _)).below (Below.refl _ _ |>.alloc (Nat.le_refl _) (.cells #[.int .i64 0, .int .i64 0] 29)) (Nat.le_refl _))
  replace RA := Lib.hid ((RA.out.below (Below.refl _ _ |>.alloc (Nat.le_refl _) (.cells #[.slice o5 r.length k5] 24)) (Nat.le_refl _)).below (Below.refl _ _ |>.alloc (Nat.le_refl _) (.cells #[.int .i64 0, .int .i64 0] 29)) (Nat.le_refl _))
  replace X := ((X.alloc (.cells #[.slice o5 r.length k5] 24)).alloc (.cells #[.int .i64 0, .int .i64 0] 29))
  replace F := ((F.alloc (.cells #[.slice o5 r.length k5] 24)).alloc (.cells #[.int .i64 0, .int .i64 0] 29))
  have P := ((Bk.new (r := w5.heap.size) (cs := [.slice o5 r.length k5]) w5 24 (by simp)).alloc (.cells #[.int .i64 0, .int .i64 0] 29))
  have G := (Bk.new (r := w5.heap.size + 1) (cs := [.int .i64 0, .int .i64 0]) (w5.alloc (.cells #[.slice o5 r.length k5] 24)) 29 (by simp))
  clear X_c X_f X_l F_c F_f F_l
  generalize ((w5.alloc (.cells #[.slice o5 r.length k5] 24)).alloc (.cells #[.int .i64 0, .int .i64 0] 29)) = w6 at *
  have s6 : w.heap.size ≤ w6.heap.size := B6.size
  obtain ⟨X_c, X_f, X_l⟩ := id X
  obtain ⟨F_c, F_f, F_l⟩ := id F
  obtain ⟨P_c, P_f, P_l⟩ := id P
  obtain ⟨G_c, G_f, G_l⟩ := id G
  refine (same_self r _ _ _ _ _ RA.out H.out).mono ?_
  rintro e w7 ⟨rfl, hb⟩
  have B7 : Below w.heap.size w w7 := bcall (by go_grown) hb (by go_size)
  have q7 : w6.heap.size + 0 ≤ w7.heap.size := by have z := hb.size; (try simp only [World.size_alloc, World.size_setCell, World.size_drew] at z); omega
  replace H := Lib.hid (H.out.below hb (Nat.le_refl _))
  replace RA := Lib.hid (RA.out.below hb (Nat.le_refl _))
  replace X := (X).below hb (by go_size)
  replace F := (F).below hb (by go_size)
  replace P := (P).below hb (by go_size)
  replace G := (G).below hb (by go_size)
  clear hb
  have s7 : w.heap.size ≤ w7.heap.size := B7.size
  clear X_c X_f X_l F_c F_f F_l P_c P_f P_l G_c G_f G_l
  obtain ⟨X_c, X_f, X_l⟩ := id X
  obtain ⟨F_c, F_f, F_l⟩ := id F
  obtain ⟨P_c, P_f, P_l⟩ := id P
  obtain ⟨G_c, G_f, G_l⟩ := id G
  go_wp2_with fail
  go_ret
  exact ⟨by first | rfl | simp, by go_grown⟩
set_option maxRecDepth 100000 in
set_option maxHeartbeats 16000000 in
theorem vpf_bad (r : List Pl.Ivl) (a : Option Addr) (c : Nat) (w : World) (h : RIn w r a c) (EN : Env w) (f1 f2 : Int) (er : Pl.rngF r = (f1, f2)) (hf : f1 ≠ 0) : Calls Tryz.prog 6 #[.agg #[.slice a r.length c]] w fun e w' => e = .returned (.bool true) ∧ Below w.heap.size w w' := by
  have HE := Lib.hid EN
  have H := Lib.hid h
  have CS := Lib.hid (fun (W : World) (g : RIn W r a c) (E : Env W) => rngFormat_any r a c W g E)
  rw [er] at CS
  have e1 : Pl.fmtR r = ⟨#[]⟩ := by unfold Pl.fmtR; rw [er, if_pos hf]; rfl
  rw [e1] at CS
  have u1 : (f1 == 0) = false := beqF hf
  have u2 : (f1 != 0) = true := bneT hf
  obtain ⟨x1, x2⟩ := str_self ⟨#[]⟩
  obtain ⟨x3, x4⟩ := str_none (X := (⟨#[]⟩ : ByteArray)) (l := []) rfl rfl
  have x5 : ((⟨#[]⟩ : ByteArray).toList == []) = true := by rw [x3]; rfl
  clear e1 hf
  delta RFmt at CS
  simp only [fltV] at CS
  clear h EN er
  go_enter Tryz.func6, Tryz.ntmps6
  have B0 : Below w.heap.size w w := Below.refl _ _
  go_wp2_with fail
  have B1 : Below w.heap.size w (w.alloc (.cells #[.slice a r.length c] 24)) := by go_grown
  have q1 : w.heap.size + 1 ≤ (w.alloc (.cells #[.slice a r.length c] 24)).heap.size := by simp only [World.size_alloc]; omega
  replace H := Lib.hid (H.out.below (Below.refl _ _ |>.alloc (Nat.le_refl _) (.cells #[.slice a r.length c] 24)) (Nat.le_refl _))
  have X := (Bk.new (r := w.heap.size) (cs := [.slice a r.length c]) w 24 (by simp))
  generalize (w.alloc (.cells #[.slice a r.length c] 24)) = w1 at *
  have s1 : w.heap.size ≤ w1.heap.size := B1.size
  obtain ⟨X_c, X_f, X_l⟩ := id X
  refine (CS.out _ H.out (HE.out.below B1 (Nat.le_refl _))).mono ?_
  rintro e w2 ⟨rfl, hb⟩
  have B2 : Below w.heap.size w w2 := bcall (by go_grown) hb (by go_size)
  have q2 : w1.heap.size + 0 ≤ w2.heap.size := by have z := hb.size; (try simp only [World.size_alloc, World.size_setCell, World.size_drew] at z); omega
  replace H := Lib.hid (H.out.below hb (Nat.le_refl _))
  replace X := (X).below hb (by go_size)
  clear hb
  have s2 : w.heap.size ≤ w2.heap.size := B2.size
  clear X_c X_f X_l
  obtain ⟨X_c, X_f, X_l⟩ := id X
  go_wp2_with fail
  have B3 : Below w.heap.size w (w2.alloc (.cells #[.int .i64 f1, .int .i64 f2] 29)) := by go_grown
  have q3 : w2.heap.size + 1 ≤ (w2.alloc (.cells #[.int .i64 f1, .int .i64 f2] 29)).heap.size := by simp only [World.size_alloc]; omega
  replace H := Lib.hid (H.out.below (Below.refl _ _ |>.alloc (Nat.le_refl _) (.cells #[.int .i64 f1, .int .i64 f2] 29)) (Nat.le_refl _))
  replace X := (X.alloc (.cells #[.int .i64 f1, .int .i64 f2] 29))
  have F := (Bk.new (r := w2.heap.size) (cs := [.int .i64 f1, .int .i64 f2]) w2 29 (by simp))
  clear X_c X_f X_l
  generalize (w2.alloc (.cells #[.int .i64 f1, .int .i64 f2] 29)) = w3 at *
  have s3 : w.heap.size ≤ w3.heap.size := B3.size
  obtain ⟨X_c, X_f, X_l⟩ := id X
  obtain ⟨F_c, F_f, F_l⟩ := id F
  refine (ranges_any _ (HE.out.below B3 (Nat.le_refl _))).mono ?_
  rintro e w4 ⟨rfl, hb⟩
  have B4 : Below w.heap.size w w4 := bcall (by go_grown) hb (by go_size)
  have q4 : w3.heap.size + 0 ≤ w4.heap.size := by have z := hb.size; (try simp only [World.size_alloc, World.size_setCell, World.size_drew] at z); omega
  replace H := Lib.hid (H.out.below hb (Nat.le_refl _))
  replace X := (X).below hb (by go_size)
  replace F := (F).below hb (by go_size)
  clear hb
  have s4 : w.heap.size ≤ w4.heap.size := B4.size
  clear X_c X_f X_l F_c F_f F_l
  obtain ⟨X_c, X_f, X_l⟩ := id X
  obtain ⟨F_c, F_f, F_l⟩ := id F
  go_wp2_with fail
  refine (ranges_any _ (HE.out.below B4 (Nat.le_refl _))).mono ?_
  rintro e w5 ⟨rfl, hb⟩
  have B5 : Below w.heap.size w w5 := bcall (by go_grown) hb (by go_size)
  have q5 : w4.heap.size + 0 ≤ w5.heap.size := by have z := hb.size; (try simp only [World.size_alloc, World.size_setCell, World.size_drew] at z); omega
  replace H := Lib.hid (H.out.below hb (Nat.le_refl _))
  replace X := (X).below hb (by go_size)
  replace F := (F).below hb (by go_size)
  clear hb
  have s5 : w.heap.size ≤ w5.heap.size := B5.size
  clear X_c X_f X_l F_c F_f F_l
  obtain ⟨X_c, X_f, X_l⟩ := id X
  obtain ⟨F_c, F_f, F_l⟩ := id F
  go_wp2_with fail
  go_ret
  exact ⟨by first | rfl | simp, by go_grown⟩
theorem VerrangeParsesFormatted_any (r : List Pl.Ivl) (a : Option Addr) (c : Nat) (w : World) (h : RIn w r a c) (EN : Env w) : Calls Tryz.prog 6 #[.agg #[.slice a r.length c]] w fun e w' => e = .returned (.bool true) ∧ Below w.heap.size w w' := by
  by_cases f1 : (Pl.rngF r).1 = 0
  · exact vpf_ok r a c w h EN (Pl.rng_zero f1)
  · exact vpf_bad r a c w h EN _ _ rfl f1
end Go.Proofs.YtjfkmbehckdjlaaGreatDoor
