/- The law VerrangeOperationsAreSetOperations: its walk. -/
import Derived.Test.YtjfkmbehckdjlaaGreatDoorMEd
import Derived.Deep.DeepCutAuto
namespace Go.Proofs.YtjfkmbehckdjlaaGreatDoor
open Go.RowKit
set_option maxRecDepth 100000 in
set_option maxHeartbeats 16000000 in
theorem vso_bad (r t : List Pl.Ivl) (v : Pl.Ver) (a b p : Option Addr) (c d q : Nat) (w : World) (h1 : RIn w r a c) (h2 : RIn w t b d) (h3 : VIn w v p q) (EN : Env w) (ev : (Pl.vrF v).1 ≠ 0) : Calls Tryz.prog 7 #[.agg #[.slice a r.length c], .agg #[.slice b t.length d], verV v p q] w fun e w' => e = .returned (.bool true) ∧ Below w.heap.size w w' := by
 have HE := Lib.hid EN
 have H := Lib.hid h1
 have K := Lib.hid h2
 have M := Lib.hid h3
 have CG := Lib.hid (fun (W : World) (g : VIn W v p q) => VersionFault_any v p q W g)
 obtain ⟨G, hG⟩ : ∃ G, Pl.vrF v = G := ⟨_, rfl⟩
 rw [hG] at CG ev
 obtain ⟨f1, f2⟩ := G
 simp only [fltV] at CG
 have u2 : (f1 != 0) = true := bneT ev
 clear h1 h2 h3 EN hG ev
 go_enter Tryz.func7, Tryz.ntmps7
 have B0 : Below w.heap.size w w := Below.refl _ _
 go_wp2_with fail
 have B1 : Below w.heap.size w (((w.alloc (.cells #[.slice a r.length c] 24)).alloc (.cells #[.slice b t.length d] 24)).alloc (.cells #[.int .i64 v.maj, .int .i64 v.min, .int .i64 v.pat, .slice p v.pre.length q] 27)) := by go_grown
 have q1 : w.heap.size + 3 ≤ (((w.alloc (.cells #[.slice a r.length c] 24)).alloc (.cells #[.slice b t.length d] 24)).alloc (.cells #[.int .i64 v.maj, .int .i64 v.min, .int .i64 v.pat, .slice p v.pre.length q] 27)).heap.size := by simp only [World.size_alloc]; omega
 replace H := Lib.hid (((H.out.below (Below.refl _ _ |>.alloc (Nat.le_refl _) (.cells #[.slice a r.length c] 24)) (Nat.le_refl _)).below (Below.refl _ _ |>.alloc (Nat.le_refl _) (.cells #[.slice b t.length d] 24)) (Nat.le_refl _)).below (Below.refl _ _ |>.alloc (Nat.le_refl _) (.cells #[.int .i64 v.maj, .int .i64 v.min, .int .i64 v.pat, .slice p v.pre.length q] 27)) (Nat.le_refl _))
 replace K := Lib.hid (((K.out.below (Below.refl _ _ |>.alloc (Nat.le_refl _) (.cells #[.slice a r.length c] 24)) (Nat.le_refl _)).below (Below.refl _ _ |>.alloc (Nat.le_refl _) (.cells #[.slice b t.length d] 24)) (Nat.le_refl _)).below (Below.refl _ _ |>.alloc (Nat.le_refl _) (.cells #[.int .i64 v.maj, .int .i64 v.min, .int .i64 v.pat, .slice p v.pre.length q] 27)) (Nat.le_refl _))
 replace M := Lib.hid (((M.out.below (Below.refl _ _ |>.alloc (Nat.le_refl _) (.cells #[.slice a r.length c] 24)) (Nat.le_refl _)).below (Below.refl _ _ |>.alloc (Nat.le_refl _) (.cells #[.slice b t.length d] 24)) (Nat.le_refl _)).below (Below.refl _ _ |>.alloc (Nat.le_refl _) (.cells #[.int .i64 v.maj, .int .i64 v.min, .int .i64 v.pat, .slice p v.pre.length q] 27)) (Nat.le_refl _))
 have X := (((Bk.new (r := w.heap.size) (cs := [.slice a r.length c]) w 24 (by simp)).alloc (.cells #[.slice b t.length d] 24)).alloc (.cells #[.int .i64 v.maj, .int .i64 v.min, .int .i64 v.pat, .slice p v.pre.length q] 27))
 have Y := ((Bk.new (r := w.heap.size + 1) (cs := [.slice b t.length d]) (w.alloc (.cells #[.slice a r.length c] 24)) 24 (by simp)).alloc (.cells #[.int .i64 v.maj, .int .i64 v.min, .int .i64 v.pat, .slice p v.pre.length q] 27))
 have Z := (Bk.new (r := w.heap.size + 1 + 1) (cs := [.int .i64 v.maj, .int .i64 v.min, .int .i64 v.pat, .slice p v.pre.length q]) ((w.alloc (.cells #[.slice a r.length c] 24)).alloc (.cells #[.slice b t.length d] 24)) 27 (by simp))
 generalize (((w.alloc (.cells #[.slice a r.length c] 24)).alloc (.cells #[.slice b t.length d] 24)).alloc (.cells #[.int .i64 v.maj, .int .i64 v.min, .int .i64 v.pat, .slice p v.pre.length q] 27)) = w1 at *
 have s1 : w.heap.size ≤ w1.heap.size := B1.size
 obtain ⟨Xc, Xf, Xl⟩ := id X
 obtain ⟨Yc, Yf, Yl⟩ := id Y
 obtain ⟨Zc, Zf, Zl⟩ := id Z
 refine (ranges_any _ (HE.out.below B1 (Nat.le_refl _))).mono ?_
 rintro e w2 ⟨rfl, hb⟩
 have B2 : Below w.heap.size w w2 := bcall (by go_grown) hb (by go_size)
 have q2 : w1.heap.size + 0 ≤ w2.heap.size := hb.size
 replace H := Lib.hid (H.out.below hb (Nat.le_refl _))
 replace K := Lib.hid (K.out.below hb (Nat.le_refl _))
 replace M := Lib.hid (M.out.below hb (Nat.le_refl _))
 replace X := (X).below hb (by go_size)
 replace Y := (Y).below hb (by go_size)
 replace Z := (Z).below hb (by go_size)
 clear hb
 have s2 : w.heap.size ≤ w2.heap.size := B2.size
 clear Xc Xf Xl Yc Yf Yl Zc Zf Zl
 obtain ⟨Xc, Xf, Xl⟩ := id X
 obtain ⟨Yc, Yf, Yl⟩ := id Y
 obtain ⟨Zc, Zf, Zl⟩ := id Z
 go_wp2_with fail
 refine (great_any r a c _ H.out).mono ?_
 rintro e w3 ⟨⟨q1, rfl⟩, hb⟩
 have B3 : Below w.heap.size w w3 := bcall (by go_grown) hb (by go_size)
 have q3 : w2.heap.size + 0 ≤ w3.heap.size := hb.size
 replace H := Lib.hid (H.out.below hb (Nat.le_refl _))
 replace K := Lib.hid (K.out.below hb (Nat.le_refl _))
 replace M := Lib.hid (M.out.below hb (Nat.le_refl _))
 replace X := (X).below hb (by go_size)
 replace Y := (Y).below hb (by go_size)
 replace Z := (Z).below hb (by go_size)
 clear hb
 have s3 : w.heap.size ≤ w3.heap.size := B3.size
 clear Xc Xf Xl Yc Yf Yl Zc Zf Zl
 obtain ⟨Xc, Xf, Xl⟩ := id X
 obtain ⟨Yc, Yf, Yl⟩ := id Y
 obtain ⟨Zc, Zf, Zl⟩ := id Z
 cases q1 with
 | true =>
  go_wp2_with fail
  go_ret
  exact ⟨by first | rfl | simp, by go_grown⟩
 | false =>
  go_wp2_with fail
  refine (great_any t b d _ K.out).mono ?_
  rintro e w4 ⟨⟨q2, rfl⟩, hb⟩
  have B4 : Below w.heap.size w w4 := bcall (by go_grown) hb (by go_size)
  have q4 : w3.heap.size + 0 ≤ w4.heap.size := hb.size
  replace H := Lib.hid (H.out.below hb (Nat.le_refl _))
  replace K := Lib.hid (K.out.below hb (Nat.le_refl _))
  replace M := Lib.hid (M.out.below hb (Nat.le_refl _))
  replace X := (X).below hb (by go_size)
  replace Y := (Y).below hb (by go_size)
  replace Z := (Z).below hb (by go_size)
  clear hb
  have s4 : w.heap.size ≤ w4.heap.size := B4.size
  clear Xc Xf Xl Yc Yf Yl Zc Zf Zl
  obtain ⟨Xc, Xf, Xl⟩ := id X
  obtain ⟨Yc, Yf, Yl⟩ := id Y
  obtain ⟨Zc, Zf, Zl⟩ := id Z
  cases q2 with
  | true =>
   go_wp2_with fail
   go_ret
   exact ⟨by first | rfl | simp, by go_grown⟩
  | false =>
   go_wp2_with fail
   refine (CG.out _ M.out).mono ?_
   rintro e w5 ⟨rfl, hb⟩
   have B5 : Below w.heap.size w w5 := bcall (by go_grown) hb (by go_size)
   have q5 : w4.heap.size + 0 ≤ w5.heap.size := hb.size
   replace H := Lib.hid (H.out.below hb (Nat.le_refl _))
   replace K := Lib.hid (K.out.below hb (Nat.le_refl _))
   replace M := Lib.hid (M.out.below hb (Nat.le_refl _))
   replace X := (X).below hb (by go_size)
   replace Y := (Y).below hb (by go_size)
   replace Z := (Z).below hb (by go_size)
   clear hb
   have s5 : w.heap.size ≤ w5.heap.size := B5.size
   clear Xc Xf Xl Yc Yf Yl Zc Zf Zl
   obtain ⟨Xc, Xf, Xl⟩ := id X
   obtain ⟨Yc, Yf, Yl⟩ := id Y
   obtain ⟨Zc, Zf, Zl⟩ := id Z
   go_wp2_with fail
   go_ret
   exact ⟨by first | rfl | simp, by go_grown⟩
set_option maxRecDepth 100000 in
set_option maxHeartbeats 16000000 in
theorem vso_ok (r t : List Pl.Ivl) (v : Pl.Ver) (a b p : Option Addr) (c d q : Nat) (w : World) (h1 : RIn w r a c) (h2 : RIn w t b d) (h3 : VIn w v p q) (EN : Env w) (ov : v.Ok) : Calls Tryz.prog 7 #[.agg #[.slice a r.length c], .agg #[.slice b t.length d], verV v p q] w fun e w' => e = .returned (.bool true) ∧ Below w.heap.size w w' := by
 have HE := Lib.hid EN
 have H := Lib.hid h1
 have K := Lib.hid h2
 have M := Lib.hid h3
 have CG := Lib.hid (fun (W : World) (g : VIn W v p q) => VersionFault_any v p q W g)
 rw [Pl.vrF_ok ov] at CG
 have C1 := Lib.hid (fun (W : World) (g1 : RIn W r a c) (g2 : RIn W t b d) => union_any r t a b c d W g1 g2)
 have C2 := Lib.hid (fun (W : World) (g1 : RIn W r a c) (g2 : RIn W t b d) => inter_any r t a b c d W g1 g2)
 have C3 := Lib.hid (fun (W : World) (g1 : RIn W r a c) => compl_any r a c W g1)
 have E1 := Lib.hid (Pl.con_union (a := r) (b := t) ov)
 have E2 := Lib.hid (Pl.con_inter (a := r) (b := t) ov)
 have E3 := Lib.hid (Pl.con_compl (a := r) ov)
 generalize Pl.opV (Pl.pairF r t) (Pl.unionR r t) = lu at *
 generalize Pl.opV (Pl.pairF r t) (Pl.commonR r t) = li at *
 generalize Pl.opV (Pl.rngF r) (Pl.invR r) = lc at *
 generalize Pl.opF (Pl.pairF r t) (Pl.unionR r t) = F1 at *
 generalize Pl.opF (Pl.pairF r t) (Pl.commonR r t) = F2 at *
 generalize Pl.opF (Pl.rngF r) (Pl.invR r) = F3 at *
 obtain ⟨f1, g1⟩ := F1
 obtain ⟨f2, g2⟩ := F2
 obtain ⟨f3, g3⟩ := F3
 have D1 := Lib.hid (fun (W : World) (o1 : Option Addr) (k1 : Nat) (x : RIn W lu o1 k1) (y : VIn W v p q) => has_any lu v o1 p k1 q W x y)
 have D2 := Lib.hid (fun (W : World) (o1 : Option Addr) (k1 : Nat) (x : RIn W li o1 k1) (y : VIn W v p q) => has_any li v o1 p k1 q W x y)
 have D3 := Lib.hid (fun (W : World) (o1 : Option Addr) (k1 : Nat) (x : RIn W lc o1 k1) (y : VIn W v p q) => has_any lc v o1 p k1 q W x y)
 have DA := Lib.hid (fun (W : World) (x : RIn W r a c) (y : VIn W v p q) => has_any r v a p c q W x y)
 have DB := Lib.hid (fun (W : World) (x : RIn W t b d) (y : VIn W v p q) => has_any t v b p d q W x y)
 generalize Pl.conB lu v = bu at *
 generalize Pl.conB li v = bi at *
 generalize Pl.conB lc v = bc at *
 generalize Pl.conB r v = ba at *
 generalize Pl.conB t v = bb at *
 delta RRngF at C1 C2 C3
 simp only [fltV] at CG C1 C2 C3
 clear h1 h2 h3 EN ov
 go_enter Tryz.func7, Tryz.ntmps7
 have B0 : Below w.heap.size w w := Below.refl _ _
 go_wp2_with fail
 have B1 : Below w.heap.size w (((w.alloc (.cells #[.slice a r.length c] 24)).alloc (.cells #[.slice b t.length d] 24)).alloc (.cells #[.int .i64 v.maj, .int .i64 v.min, .int .i64 v.pat, .slice p v.pre.length q] 27)) := by go_grown
 have q1 : w.heap.size + 3 ≤ (((w.alloc (.cells #[.slice a r.length c] 24)).alloc (.cells #[.slice b t.length d] 24)).alloc (.cells #[.int .i64 v.maj, .int .i64 v.min, .int .i64 v.pat, .slice p v.pre.length q] 27)).heap.size := by simp only [World.size_alloc]; omega
 replace H := Lib.hid (((H.out.below (Below.refl _ _ |>.alloc (Nat.le_refl _) (.cells #[.slice a r.length c] 24)) (Nat.le_refl _)).below (Below.refl _ _ |>.alloc (Nat.le_refl _) (.cells #[.slice b t.length d] 24)) (Nat.le_refl _)).below (Below.refl _ _ |>.alloc (Nat.le_refl _) (.cells #[.int .i64 v.maj, .int .i64 v.min, .int .i64 v.pat, .slice p v.pre.length q] 27)) (Nat.le_refl _))
 replace K := Lib.hid (((K.out.below (Below.refl _ _ |>.alloc (Nat.le_refl _) (.cells #[.slice a r.length c] 24)) (Nat.le_refl _)).below (Below.refl _ _ |>.alloc (Nat.le_refl _) (.cells #[.slice b t.length d] 24)) (Nat.le_refl _)).below (Below.refl _ _ |>.alloc (Nat.le_refl _) (.cells #[.int .i64 v.maj, .int .i64 v.min, .int .i64 v.pat, .slice p v.pre.length q] 27)) (Nat.le_refl _))
 replace M := Lib.hid (((M.out.below (Below.refl _ _ |>.alloc (Nat.le_refl _) (.cells #[.slice a r.length c] 24)) (Nat.le_refl _)).below (Below.refl _ _ |>.alloc (Nat.le_refl _) (.cells #[.slice b t.length d] 24)) (Nat.le_refl _)).below (Below.refl _ _ |>.alloc (Nat.le_refl _) (.cells #[.int .i64 v.maj, .int .i64 v.min, .int .i64 v.pat, .slice p v.pre.length q] 27)) (Nat.le_refl _))
 have X := (((Bk.new (r := w.heap.size) (cs := [.slice a r.length c]) w 24 (by simp)).alloc (.cells #[.slice b t.length d] 24)).alloc (.cells #[.int .i64 v.maj, .int .i64 v.min, .int .i64 v.pat, .slice p v.pre.length q] 27))
 have Y := ((Bk.new (r := w.heap.size + 1) (cs := [.slice b t.length d]) (w.alloc (.cells #[.slice a r.length c] 24)) 24 (by simp)).alloc (.cells #[.int .i64 v.maj, .int .i64 v.min, .int .i64 v.pat, .slice p v.pre.length q] 27))
 have Z := (Bk.new (r := w.heap.size + 1 + 1) (cs := [.int .i64 v.maj, .int .i64 v.min, .int .i64 v.pat, .slice p v.pre.length q]) ((w.alloc (.cells #[.slice a r.length c] 24)).alloc (.cells #[.slice b t.length d] 24)) 27 (by simp))
 generalize (((w.alloc (.cells #[.slice a r.length c] 24)).alloc (.cells #[.slice b t.length d] 24)).alloc (.cells #[.int .i64 v.maj, .int .i64 v.min, .int .i64 v.pat, .slice p v.pre.length q] 27)) = w1 at *
 have s1 : w.heap.size ≤ w1.heap.size := B1.size
 obtain ⟨Xc, Xf, Xl⟩ := id X
 obtain ⟨Yc, Yf, Yl⟩ := id Y
 obtain ⟨Zc, Zf, Zl⟩ := id Z
 refine (ranges_any _ (HE.out.below B1 (Nat.le_refl _))).mono ?_
 rintro e w2 ⟨rfl, hb⟩
 have B2 : Below w.heap.size w w2 := bcall (by go_grown) hb (by go_size)
 have q2 : w1.heap.size + 0 ≤ w2.heap.size := hb.size
 replace H := Lib.hid (H.out.below hb (Nat.le_refl _))
 replace K := Lib.hid (K.out.below hb (Nat.le_refl _))
 replace M := Lib.hid (M.out.below hb (Nat.le_refl _))
 replace X := (X).below hb (by go_size)
 replace Y := (Y).below hb (by go_size)
 replace Z := (Z).below hb (by go_size)
 clear hb
 have s2 : w.heap.size ≤ w2.heap.size := B2.size
 clear Xc Xf Xl Yc Yf Yl Zc Zf Zl
 obtain ⟨Xc, Xf, Xl⟩ := id X
 obtain ⟨Yc, Yf, Yl⟩ := id Y
 obtain ⟨Zc, Zf, Zl⟩ := id Z
 go_wp2_with fail
 refine (great_any r a c _ H.out).mono ?_
 rintro e w3 ⟨⟨q1, rfl⟩, hb⟩
 have B3 : Below w.heap.size w w3 := bcall (by go_grown) hb (by go_size)
 have q3 : w2.heap.size + 0 ≤ w3.heap.size := hb.size
 replace H := Lib.hid (H.out.below hb (Nat.le_refl _))
 replace K := Lib.hid (K.out.below hb (Nat.le_refl _))
 replace M := Lib.hid (M.out.below hb (Nat.le_refl _))
 replace X := (X).below hb (by go_size)
 replace Y := (Y).below hb (by go_size)
 replace Z := (Z).below hb (by go_size)
 clear hb
 have s3 : w.heap.size ≤ w3.heap.size := B3.size
 clear Xc Xf Xl Yc Yf Yl Zc Zf Zl
 obtain ⟨Xc, Xf, Xl⟩ := id X
 obtain ⟨Yc, Yf, Yl⟩ := id Y
 obtain ⟨Zc, Zf, Zl⟩ := id Z
 cases q1 with
 | true =>
  go_wp2_with fail
  go_ret
  exact ⟨by first | rfl | simp, by go_grown⟩
 | false =>
  go_wp2_with fail
  refine (great_any t b d _ K.out).mono ?_
  rintro e w4 ⟨⟨q2, rfl⟩, hb⟩
  have B4 : Below w.heap.size w w4 := bcall (by go_grown) hb (by go_size)
  have q4 : w3.heap.size + 0 ≤ w4.heap.size := hb.size
  replace H := Lib.hid (H.out.below hb (Nat.le_refl _))
  replace K := Lib.hid (K.out.below hb (Nat.le_refl _))
  replace M := Lib.hid (M.out.below hb (Nat.le_refl _))
  replace X := (X).below hb (by go_size)
  replace Y := (Y).below hb (by go_size)
  replace Z := (Z).below hb (by go_size)
  clear hb
  have s4 : w.heap.size ≤ w4.heap.size := B4.size
  clear Xc Xf Xl Yc Yf Yl Zc Zf Zl
  obtain ⟨Xc, Xf, Xl⟩ := id X
  obtain ⟨Yc, Yf, Yl⟩ := id Y
  obtain ⟨Zc, Zf, Zl⟩ := id Z
  cases q2 with
  | true =>
   go_wp2_with fail
   go_ret
   exact ⟨by first | rfl | simp, by go_grown⟩
  | false =>
   go_wp2_with fail
   refine (CG.out _ M.out).mono ?_
   rintro e w5 ⟨rfl, hb⟩
   have B5 : Below w.heap.size w w5 := bcall (by go_grown) hb (by go_size)
   have q5 : w4.heap.size + 0 ≤ w5.heap.size := hb.size
   replace H := Lib.hid (H.out.below hb (Nat.le_refl _))
   replace K := Lib.hid (K.out.below hb (Nat.le_refl _))
   replace M := Lib.hid (M.out.below hb (Nat.le_refl _))
   replace X := (X).below hb (by go_size)
   replace Y := (Y).below hb (by go_size)
   replace Z := (Z).below hb (by go_size)
   clear hb
   have s5 : w.heap.size ≤ w5.heap.size := B5.size
   clear Xc Xf Xl Yc Yf Yl Zc Zf Zl
   obtain ⟨Xc, Xf, Xl⟩ := id X
   obtain ⟨Yc, Yf, Yl⟩ := id Y
   obtain ⟨Zc, Zf, Zl⟩ := id Z
   go_wp2_with fail
   refine (C1.out _ H.out K.out).mono ?_
   rintro e w6 ⟨ou, ku, rfl, RU, hb⟩
   replace RU := Lib.hid RU
   have B6 : Below w.heap.size w w6 := bcall (by go_grown) hb (by go_size)
   have q6 : w5.heap.size + 0 ≤ w6.heap.size := hb.size
   replace H := Lib.hid (H.out.below hb (Nat.le_refl _))
   replace K := Lib.hid (K.out.below hb (Nat.le_refl _))
   replace M := Lib.hid (M.out.below hb (Nat.le_refl _))
   replace X := (X).below hb (by go_size)
   replace Y := (Y).below hb (by go_size)
   replace Z := (Z).below hb (by go_size)
   clear hb
   have s6 : w.heap.size ≤ w6.heap.size := B6.size
   clear Xc Xf Xl Yc Yf Yl Zc Zf Zl
   obtain ⟨Xc, Xf, Xl⟩ := id X
   obtain ⟨Yc, Yf, Yl⟩ := id Y
   obtain ⟨Zc, Zf, Zl⟩ := id Z
   go_wp2_with fail
   have B7 : Below w.heap.size w ((w6.alloc (.cells #[.slice ou lu.length ku] 24)).alloc (.cells #[.int .i64 f1, .int .i64 g1] 29)) := by go_grown
   have q7 : w6.heap.size + 2 ≤ ((w6.alloc (.cells #[.slice ou lu.length ku] 24)).alloc (.cells #[.int .i64 f1, .int .i64 g1] 29)).heap.size := by simp only [World.size_alloc]; omega
   replace H := Lib.hid ((H.out.below (Below.refl _ _ |>.alloc (Nat.le_refl _) (.cells #[.slice ou lu.length ku] 24)) (Nat.le_refl _)).below (Below.refl _ _ |>.alloc (Nat.le_refl _) (.cells #[.int .i64 f1, .int .i64 g1] 29)) (Nat.le_refl _))
   replace K := Lib.hid ((K.out.below (Below.refl _ _ |>.alloc (Nat.le_refl _) (.cells #[.slice ou lu.length ku] 24)) (Nat.le_refl _)).below (Below.refl _ _ |>.alloc (Nat.le_refl _) (.cells #[.int .i64 f1, .int .i64 g1] 29)) (Nat.le_refl _))
   replace M := Lib.hid ((M.out.below (Below.refl _ _ |>.alloc (Nat.le_refl _) (.cells #[.slice ou lu.length ku] 24)) (Nat.le_refl _)).below (Below.refl _ _ |>.alloc (Nat.le_refl _) (.cells #[.int .i64 f1, .int .i64 g1] 29)) (Nat.le_refl _))
   replace RU := Lib.hid ((RU.out.below (Below.refl _ _ |>.alloc (Nat.le_refl _) (.cells #[.slice ou lu.length ku] 24)) (Nat.le_refl _)).below (Below.refl _ _ |>.alloc (Nat.le_refl _) (.cells #[.int .i64 f1, .int .i64 g1] 29)) (Nat.le_refl _))
   replace X := ((X.alloc (.cells #[.slice ou lu.length ku] 24)).alloc (.cells #[.int .i64 f1, .int .i64 g1] 29))
   replace Y := ((Y.alloc (.cells #[.slice ou lu.length ku] 24)).alloc (.cells #[.int .i64 f1, .int .i64 g1] 29))
   replace Z := ((Z.alloc (.cells #[.slice ou lu.length ku] 24)).alloc (.cells #[.int .i64 f1, .int .i64 g1] 29))
   have U := ((Bk.new (r := w6.heap.size) (cs := [.slice ou lu.length ku]) w6 24 (by simp)).alloc (.cells #[.int .i64 f1, .int .i64 g1] 29))
   have F1 := (Bk.new (r := w6.heap.size + 1) (cs := [.int .i64 f1, .int .i64 g1]) (w6.alloc (.cells #[.slice ou lu.length ku] 24)) 29 (by simp))
   clear Xc Xf Xl Yc Yf Yl Zc Zf Zl
   generalize ((w6.alloc (.cells #[.slice ou lu.length ku] 24)).alloc (.cells #[.int .i64 f1, .int .i64 g1] 29)) = w7 at *
   have s7 : w.heap.size ≤ w7.heap.size := B7.size
   obtain ⟨Xc, Xf, Xl⟩ := id X
   obtain ⟨Yc, Yf, Yl⟩ := id Y
   obtain ⟨Zc, Zf, Zl⟩ := id Z
   obtain ⟨Uc, Uf, Ul⟩ := id U
   obtain ⟨F1c, F1f, F1l⟩ := id F1
   refine (C2.out _ H.out K.out).mono ?_
   rintro e w8 ⟨oi, ki, rfl, RI, hb⟩
   replace RI := Lib.hid RI
   have B8 : Below w.heap.size w w8 := bcall (by go_grown) hb (by go_size)
   have q8 : w7.heap.size + 0 ≤ w8.heap.size := hb.size
   replace H := Lib.hid (H.out.below hb (Nat.le_refl _))
   replace K := Lib.hid (K.out.below hb (Nat.le_refl _))
   replace M := Lib.hid (M.out.below hb (Nat.le_refl _))
   replace RU := Lib.hid (RU.out.below hb (Nat.le_refl _))
   replace X := (X).below hb (by go_size)
   replace Y := (Y).below hb (by go_size)
   replace Z := (Z).below hb (by go_size)
   replace U := (U).below hb (by go_size)
   replace F1 := (F1).below hb (by go_size)
   clear hb
   have s8 : w.heap.size ≤ w8.heap.size := B8.size
   clear Xc Xf Xl Yc Yf Yl Zc Zf Zl Uc Uf Ul F1c F1f F1l
   obtain ⟨Xc, Xf, Xl⟩ := id X
   obtain ⟨Yc, Yf, Yl⟩ := id Y
   obtain ⟨Zc, Zf, Zl⟩ := id Z
   obtain ⟨Uc, Uf, Ul⟩ := id U
   obtain ⟨F1c, F1f, F1l⟩ := id F1
   go_wp2_with fail
   have B9 : Below w.heap.size w ((w8.alloc (.cells #[.slice oi li.length ki] 24)).alloc (.cells #[.int .i64 f2, .int .i64 g2] 29)) := by go_grown
   have q9 : w8.heap.size + 2 ≤ ((w8.alloc (.cells #[.slice oi li.length ki] 24)).alloc (.cells #[.int .i64 f2, .int .i64 g2] 29)).heap.size := by simp only [World.size_alloc]; omega
   replace H := Lib.hid ((H.out.below (Below.refl _ _ |>.alloc (Nat.le_refl _) (.cells #[.slice oi li.length ki] 24)) (Nat.le_refl _)).below (Below.refl _ _ |>.alloc (Nat.le_refl _) (.cells #[.int .i64 f2, .int .i64 g2] 29)) (Nat.le_refl _))
   replace K := Lib.hid ((K.out.below (Below.refl _ _ |>.alloc (Nat.le_refl _) (.cells #[.slice oi li.length ki] 24)) (Nat.le_refl _)).below (Below.refl _ _ |>.alloc (Nat.le_refl _) (.cells #[.int .i64 f2, .int .i64 g2] 29)) (Nat.le_refl _))
   replace M := Lib.hid ((M.out.below (Below.refl _ _ |>.alloc (Nat.le_refl _) (.cells #[.slice oi li.length ki] 24)) (Nat.le_refl _)).below (Below.refl _ _ |>.alloc (Nat.le_refl _) (.cells #[.int .i64 f2, .int .i64 g2] 29)) (Nat.le_refl _))
   replace RU := Lib.hid ((RU.out.below (Below.refl _ _ |>.alloc (Nat.le_refl _) (.cells #[.slice oi li.length ki] 24)) (Nat.le_refl _)).below (Below.refl _ _ |>.alloc (Nat.le_refl _) (.cells #[.int .i64 f2, .int .i64 g2] 29)) (Nat.le_refl _))
   replace RI := Lib.hid ((RI.out.below (Below.refl _ _ |>.alloc (Nat.le_refl _) (.cells #[.slice oi li.length ki] 24)) (Nat.le_refl _)).below (Below.refl _ _ |>.alloc (Nat.le_refl _) (.cells #[.int .i64 f2, .int .i64 g2] 29)) (Nat.le_refl _))
   replace X := ((X.alloc (.cells #[.slice oi li.length ki] 24)).alloc (.cells #[.int .i64 f2, .int .i64 g2] 29))
   replace Y := ((Y.alloc (.cells #[.slice oi li.length ki] 24)).alloc (.cells #[.int .i64 f2, .int .i64 g2] 29))
   replace Z := ((Z.alloc (.cells #[.slice oi li.length ki] 24)).alloc (.cells #[.int .i64 f2, .int .i64 g2] 29))
   replace U := ((U.alloc (.cells #[.slice oi li.length ki] 24)).alloc (.cells #[.int .i64 f2, .int .i64 g2] 29))
   replace F1 := ((F1.alloc (.cells #[.slice oi li.length ki] 24)).alloc (.cells #[.int .i64 f2, .int .i64 g2] 29))
   have I := ((Bk.new (r := w8.heap.size) (cs := [.slice oi li.length ki]) w8 24 (by simp)).alloc (.cells #[.int .i64 f2, .int .i64 g2] 29))
   have F2 := (Bk.new (r := w8.heap.size + 1) (cs := [.int .i64 f2, .int .i64 g2]) (w8.alloc (.cells #[.slice oi li.length ki] 24)) 29 (by simp))
   clear Xc Xf Xl Yc Yf Yl Zc Zf Zl Uc Uf Ul F1c F1f F1l
   generalize ((w8.alloc (.cells #[.slice oi li.length ki] 24)).alloc (.cells #[.int .i64 f2, .int .i64 g2] 29)) = w9 at *
   have s9 : w.heap.size ≤ w9.heap.size := B9.size
   obtain ⟨Xc, Xf, Xl⟩ := id X
   obtain ⟨Yc, Yf, Yl⟩ := id Y
   obtain ⟨Zc, Zf, Zl⟩ := id Z
   obtain ⟨Uc, Uf, Ul⟩ := id U
   obtain ⟨F1c, F1f, F1l⟩ := id F1
   obtain ⟨Ic, If, Il⟩ := id I
   obtain ⟨F2c, F2f, F2l⟩ := id F2
   refine (C3.out _ H.out).mono ?_
   rintro e w10 ⟨oc, kc, rfl, RC, hb⟩
   replace RC := Lib.hid RC
   have B10 : Below w.heap.size w w10 := bcall (by go_grown) hb (by go_size)
   have q10 : w9.heap.size + 0 ≤ w10.heap.size := hb.size
   replace H := Lib.hid (H.out.below hb (Nat.le_refl _))
   replace K := Lib.hid (K.out.below hb (Nat.le_refl _))
   replace M := Lib.hid (M.out.below hb (Nat.le_refl _))
   replace RU := Lib.hid (RU.out.below hb (Nat.le_refl _))
   replace RI := Lib.hid (RI.out.below hb (Nat.le_refl _))
   replace X := (X).below hb (by go_size)
   replace Y := (Y).below hb (by go_size)
   replace Z := (Z).below hb (by go_size)
   replace U := (U).below hb (by go_size)
   replace F1 := (F1).below hb (by go_size)
   replace I := (I).below hb (by go_size)
   replace F2 := (F2).below hb (by go_size)
   clear hb
   have s10 : w.heap.size ≤ w10.heap.size := B10.size
   clear Xc Xf Xl Yc Yf Yl Zc Zf Zl Uc Uf Ul F1c F1f F1l Ic If Il F2c F2f F2l
   obtain ⟨Xc, Xf, Xl⟩ := id X
   obtain ⟨Yc, Yf, Yl⟩ := id Y
   obtain ⟨Zc, Zf, Zl⟩ := id Z
   obtain ⟨Uc, Uf, Ul⟩ := id U
   obtain ⟨F1c, F1f, F1l⟩ := id F1
   obtain ⟨Ic, If, Il⟩ := id I
   obtain ⟨F2c, F2f, F2l⟩ := id F2
   go_wp2_with fail
   have B11 : Below w.heap.size w ((w10.alloc (.cells #[.slice oc lc.length kc] 24)).alloc (.cells #[.int .i64 f3, .int .i64 g3] 29)) := by go_grown
   have q11 : w10.heap.size + 2 ≤ ((w10.alloc (.cells #[.slice oc lc.length kc] 24)).alloc (.cells #[.int .i64 f3, .int .i64 g3] 29)).heap.size := by simp only [World.size_alloc]; omega
   replace H := Lib.hid ((H.out.below (Below.refl _ _ |>.alloc (Nat.le_refl _) (.cells #[.slice oc lc.length kc] 24)) (Nat.le_refl _)).below (Below.refl _ _ |>.alloc (Nat.le_refl _) (.cells #[.int .i64 f3, .int .i64 g3] 29)) (Nat.le_refl _))
   replace K := Lib.hid ((K.out.below (Below.refl _ _ |>.alloc (Nat.le_refl _) (.cells #[.slice oc lc.length kc] 24)) (Nat.le_refl _)).below (Below.refl _ _ |>.alloc (Nat.le_refl _) (.cells #[.int .i64 f3, .int .i64 g3] 29)) (Nat.le_refl _))
   replace M := Lib.hid ((M.out.below (Below.refl _ _ |>.alloc (Nat.le_refl _) (.cells #[.slice oc lc.length kc] 24)) (Nat.le_refl _)).below (Below.refl _ _ |>.alloc (Nat.le_refl _) (.cells #[.int .i64 f3, .int .i64 g3] 29)) (Nat.le_refl _))
   replace RU := Lib.hid ((RU.out.below (Below.refl _ _ |>.alloc (Nat.le_refl _) (.cells #[.slice oc lc.length kc] 24)) (Nat.le_refl _)).below (Below.refl _ _ |>.alloc (Nat.le_refl _) (.cells #[.int .i64 f3, .int .i64 g3] 29)) (Nat.le_refl _))
   replace RI := Lib.hid ((RI.out.below (Below.refl _ _ |>.alloc (Nat.le_refl _) (.cells #[.slice oc lc.length kc] 24)) (Nat.le_refl _)).below (Below.refl _ _ |>.alloc (Nat.le_refl _) (.cells #[.int .i64 f3, .int .i64 g3] 29)) (Nat.le_refl _))
   replace RC := Lib.hid ((RC.out.below (Below.refl _ _ |>.alloc (Nat.le_refl _) (.cells #[.slice oc lc.length kc] 24)) (Nat.le_refl _)).below (Below.refl _ _ |>.alloc (Nat.le_refl _) (.cells #[.int .i64 f3, .int .i64 g3] 29)) (Nat.le_refl _))
   replace X := ((X.alloc (.cells #[.slice oc lc.length kc] 24)).alloc (.cells #[.int .i64 f3, .int .i64 g3] 29))
   replace Y := ((Y.alloc (.cells #[.slice oc lc.length kc] 24)).alloc (.cells #[.int .i64 f3, .int .i64 g3] 29))
   replace Z := ((Z.alloc (.cells #[.slice oc lc.length kc] 24)).alloc (.cells #[.int .i64 f3, .int .i64 g3] 29))
   replace U := ((U.alloc (.cells #[.slice oc lc.length kc] 24)).alloc (.cells #[.int .i64 f3, .int .i64 g3] 29))
   replace F1 := ((F1.alloc (.cells #[.slice oc lc.length kc] 24)).alloc (.cells #[.int .i64 f3, .int .i64 g3] 29))
   replace I := ((I.alloc (.cells #[.slice oc lc.length kc] 24)).alloc (.cells #[.int .i64 f3, .int .i64 g3] 29))
   replace F2 := ((F2.alloc (.cells #[.slice oc lc.length kc] 24)).alloc (.cells #[.int .i64 f3, .int .i64 g3] 29))
   have C := ((Bk.new (r := w10.heap.size) (cs := [.slice oc lc.length kc]) w10 24 (by simp)).alloc (.cells #[.int .i64 f3, .int .i64 g3] 29))
   have F3 := (Bk.new (r := w10.heap.size + 1) (cs := [.int .i64 f3, .int .i64 g3]) (w10.alloc (.cells #[.slice oc lc.length kc] 24)) 29 (by simp))
   clear Xc Xf Xl Yc Yf Yl Zc Zf Zl Uc Uf Ul F1c F1f F1l Ic If Il F2c F2f F2l
   generalize ((w10.alloc (.cells #[.slice oc lc.length kc] 24)).alloc (.cells #[.int .i64 f3, .int .i64 g3] 29)) = w11 at *
   have s11 : w.heap.size ≤ w11.heap.size := B11.size
   obtain ⟨Xc, Xf, Xl⟩ := id X
   obtain ⟨Yc, Yf, Yl⟩ := id Y
   obtain ⟨Zc, Zf, Zl⟩ := id Z
   obtain ⟨Uc, Uf, Ul⟩ := id U
   obtain ⟨F1c, F1f, F1l⟩ := id F1
   obtain ⟨Ic, If, Il⟩ := id I
   obtain ⟨F2c, F2f, F2l⟩ := id F2
   obtain ⟨Cc, Cf, Cl⟩ := id C
   obtain ⟨F3c, F3f, F3l⟩ := id F3
   go_upto_region 8 with fail
   go_cut [79] (fun s wx => s = .bool false ∧ Bk wx w.heap.size [.slice a r.length c] ∧ Bk wx (w.heap.size + 1 + 1) [.int .i64 v.maj, .int .i64 v.min, .int .i64 v.pat, .slice p v.pre.length q] ∧ Bk wx w10.heap.size [.slice oc lc.length kc] ∧ Bk wx (w10.heap.size + 1) [.int .i64 f3, .int .i64 g3] ∧ Below w11.heap.size w11 wx)
   case first =>
    clear E3 D3 C1 C2 C3 CG
    by_cases z1 : f1 = 0
    · skip
      by_cases z2 : f2 = 0
      · skip
        cases ba with
        | true =>
         cases bb with
         | true =>
          have e1 := E1.out z1
          obtain rfl : bu = true := e1
          subst z1
          have u1 : ((0 : Int) == 0) = true := rfl
          have e2 := E2.out z2
          obtain rfl : bi = true := e2
          subst z2
          clear E1 E2
          have BW12 : Below w11.heap.size w11 w11 := Below.refl _ _
          refine wp_region_ord [0, 1, 2, 3, 4, 5, 7, 8, 6, 9, 10, 11, 12, 13, 14, 15, 16, 17, 18, 19, 20, 21, 22, 23, 25, 26, 24, 27, 28, 29, 30, 31, 32, 33, 34, 35] (by kernel_rfl) (by kernel_rfl) ?_
          have B12 : Below w.heap.size w w11.drew := by go_grown
          have q12 : w11.heap.size + 0 ≤ w11.drew.heap.size := by simp only [World.size_drew]; omega
          replace H := Lib.hid (H.out.below (Below.refl _ _).drew (Nat.le_refl _))
          replace K := Lib.hid (K.out.below (Below.refl _ _).drew (Nat.le_refl _))
          replace M := Lib.hid (M.out.below (Below.refl _ _).drew (Nat.le_refl _))
          replace RU := Lib.hid (RU.out.below (Below.refl _ _).drew (Nat.le_refl _))
          replace RI := Lib.hid (RI.out.below (Below.refl _ _).drew (Nat.le_refl _))
          replace RC := Lib.hid (RC.out.below (Below.refl _ _).drew (Nat.le_refl _))
          replace X := X.drew
          replace Y := Y.drew
          replace Z := Z.drew
          replace U := U.drew
          replace F1 := F1.drew
          replace I := I.drew
          replace F2 := F2.drew
          replace C := C.drew
          replace F3 := F3.drew
          replace BW12 := (show Below w11.heap.size w11 w11.drew from by go_grown)
          clear Xc Xf Xl Yc Yf Yl Zc Zf Zl Uc Uf Ul F1c F1f F1l Ic If Il F2c F2f F2l Cc Cf Cl F3c F3f F3l
          generalize w11.drew = w12 at *
          have s12 : w.heap.size ≤ w12.heap.size := B12.size
          obtain ⟨Xc, Xf, Xl⟩ := id X
          obtain ⟨Yc, Yf, Yl⟩ := id Y
          obtain ⟨Zc, Zf, Zl⟩ := id Z
          obtain ⟨Uc, Uf, Ul⟩ := id U
          obtain ⟨F1c, F1f, F1l⟩ := id F1
          obtain ⟨Ic, If, Il⟩ := id I
          obtain ⟨F2c, F2f, F2l⟩ := id F2
          obtain ⟨Cc, Cf, Cl⟩ := id C
          obtain ⟨F3c, F3f, F3l⟩ := id F3
          repeat (first | (refine wpI_rd rfl rfl ?_; go_big_quiet_step (fail); refine wpQuiet_nil ?_) | (refine wpI_skip rfl rfl ?_; try simp only [Act.put, List.setIfInBounds_toArray, List.set]))
          try simp only
          refine wpI_call (f := 32) rfl rfl rfl (by simp [go_sem]; rfl) ?_
          refine (D1.out _ _ _ RU.out M.out).mono ?_
          rintro e w13 ⟨rfl, hb⟩
          have BW13 : Below w11.heap.size w11 w13 := bcall BW12 hb (by omega)
          refine ⟨_, rfl, hb, ?_⟩
          skip
          have B13 : Below w.heap.size w w13 := bcall (by go_grown) hb (by go_size)
          have q13 : w12.heap.size + 0 ≤ w13.heap.size := hb.size
          replace H := Lib.hid (H.out.below hb (Nat.le_refl _))
          replace K := Lib.hid (K.out.below hb (Nat.le_refl _))
          replace M := Lib.hid (M.out.below hb (Nat.le_refl _))
          replace RU := Lib.hid (RU.out.below hb (Nat.le_refl _))
          replace RI := Lib.hid (RI.out.below hb (Nat.le_refl _))
          replace RC := Lib.hid (RC.out.below hb (Nat.le_refl _))
          replace X := (X).below hb (by go_size)
          replace Y := (Y).below hb (by go_size)
          replace Z := (Z).below hb (by go_size)
          replace U := (U).below hb (by go_size)
          replace F1 := (F1).below hb (by go_size)
          replace I := (I).below hb (by go_size)
          replace F2 := (F2).below hb (by go_size)
          replace C := (C).below hb (by go_size)
          replace F3 := (F3).below hb (by go_size)
          clear hb
          have s13 : w.heap.size ≤ w13.heap.size := B13.size
          clear Xc Xf Xl Yc Yf Yl Zc Zf Zl Uc Uf Ul F1c F1f F1l Ic If Il F2c F2f F2l Cc Cf Cl F3c F3f F3l
          obtain ⟨Xc, Xf, Xl⟩ := id X
          obtain ⟨Yc, Yf, Yl⟩ := id Y
          obtain ⟨Zc, Zf, Zl⟩ := id Z
          obtain ⟨Uc, Uf, Ul⟩ := id U
          obtain ⟨F1c, F1f, F1l⟩ := id F1
          obtain ⟨Ic, If, Il⟩ := id I
          obtain ⟨F2c, F2f, F2l⟩ := id F2
          obtain ⟨Cc, Cf, Cl⟩ := id C
          obtain ⟨F3c, F3f, F3l⟩ := id F3
          try simp only [Act.put, List.setIfInBounds_toArray, List.set]
          repeat (first | (refine wpI_rd rfl rfl ?_; go_big_quiet_step (fail); refine wpQuiet_nil ?_) | (refine wpI_skip rfl rfl ?_; try simp only [Act.put, List.setIfInBounds_toArray, List.set]))
          try simp only [Act.put, List.setIfInBounds_toArray, List.set]
          refine wpI_call (f := 32) rfl rfl rfl (by simp [go_sem]; rfl) ?_
          refine (DA.out _ H.out M.out).mono ?_
          rintro e w14 ⟨rfl, hb⟩
          have BW14 : Below w11.heap.size w11 w14 := bcall BW13 hb (by omega)
          refine ⟨_, rfl, hb, ?_⟩
          skip
          have B14 : Below w.heap.size w w14 := bcall (by go_grown) hb (by go_size)
          have q14 : w13.heap.size + 0 ≤ w14.heap.size := hb.size
          replace H := Lib.hid (H.out.below hb (Nat.le_refl _))
          replace K := Lib.hid (K.out.below hb (Nat.le_refl _))
          replace M := Lib.hid (M.out.below hb (Nat.le_refl _))
          replace RU := Lib.hid (RU.out.below hb (Nat.le_refl _))
          replace RI := Lib.hid (RI.out.below hb (Nat.le_refl _))
          replace RC := Lib.hid (RC.out.below hb (Nat.le_refl _))
          replace X := (X).below hb (by go_size)
          replace Y := (Y).below hb (by go_size)
          replace Z := (Z).below hb (by go_size)
          replace U := (U).below hb (by go_size)
          replace F1 := (F1).below hb (by go_size)
          replace I := (I).below hb (by go_size)
          replace F2 := (F2).below hb (by go_size)
          replace C := (C).below hb (by go_size)
          replace F3 := (F3).below hb (by go_size)
          clear hb
          have s14 : w.heap.size ≤ w14.heap.size := B14.size
          clear Xc Xf Xl Yc Yf Yl Zc Zf Zl Uc Uf Ul F1c F1f F1l Ic If Il F2c F2f F2l Cc Cf Cl F3c F3f F3l
          obtain ⟨Xc, Xf, Xl⟩ := id X
          obtain ⟨Yc, Yf, Yl⟩ := id Y
          obtain ⟨Zc, Zf, Zl⟩ := id Z
          obtain ⟨Uc, Uf, Ul⟩ := id U
          obtain ⟨F1c, F1f, F1l⟩ := id F1
          obtain ⟨Ic, If, Il⟩ := id I
          obtain ⟨F2c, F2f, F2l⟩ := id F2
          obtain ⟨Cc, Cf, Cl⟩ := id C
          obtain ⟨F3c, F3f, F3l⟩ := id F3
          try simp only [Act.put, List.setIfInBounds_toArray, List.set]
          repeat (first | (refine wpI_rd rfl rfl ?_; go_big_quiet_step (fail); refine wpQuiet_nil ?_) | (refine wpI_skip rfl rfl ?_; try simp only [Act.put, List.setIfInBounds_toArray, List.set]))
          try simp only [Act.put, List.setIfInBounds_toArray, List.set]
          refine wpI_call (f := 32) rfl rfl rfl (by simp [go_sem]; rfl) ?_
          refine (D2.out _ _ _ RI.out M.out).mono ?_
          rintro e w15 ⟨rfl, hb⟩
          have BW15 : Below w11.heap.size w11 w15 := bcall BW14 hb (by omega)
          refine ⟨_, rfl, hb, ?_⟩
          skip
          have B15 : Below w.heap.size w w15 := bcall (by go_grown) hb (by go_size)
          have q15 : w14.heap.size + 0 ≤ w15.heap.size := hb.size
          replace H := Lib.hid (H.out.below hb (Nat.le_refl _))
          replace K := Lib.hid (K.out.below hb (Nat.le_refl _))
          replace M := Lib.hid (M.out.below hb (Nat.le_refl _))
          replace RU := Lib.hid (RU.out.below hb (Nat.le_refl _))
          replace RI := Lib.hid (RI.out.below hb (Nat.le_refl _))
          replace RC := Lib.hid (RC.out.below hb (Nat.le_refl _))
          replace X := (X).below hb (by go_size)
          replace Y := (Y).below hb (by go_size)
          replace Z := (Z).below hb (by go_size)
          replace U := (U).below hb (by go_size)
          replace F1 := (F1).below hb (by go_size)
          replace I := (I).below hb (by go_size)
          replace F2 := (F2).below hb (by go_size)
          replace C := (C).below hb (by go_size)
          replace F3 := (F3).below hb (by go_size)
          clear hb
          have s15 : w.heap.size ≤ w15.heap.size := B15.size
          clear Xc Xf Xl Yc Yf Yl Zc Zf Zl Uc Uf Ul F1c F1f F1l Ic If Il F2c F2f F2l Cc Cf Cl F3c F3f F3l
          obtain ⟨Xc, Xf, Xl⟩ := id X
          obtain ⟨Yc, Yf, Yl⟩ := id Y
          obtain ⟨Zc, Zf, Zl⟩ := id Z
          obtain ⟨Uc, Uf, Ul⟩ := id U
          obtain ⟨F1c, F1f, F1l⟩ := id F1
          obtain ⟨Ic, If, Il⟩ := id I
          obtain ⟨F2c, F2f, F2l⟩ := id F2
          obtain ⟨Cc, Cf, Cl⟩ := id C
          obtain ⟨F3c, F3f, F3l⟩ := id F3
          try simp only [Act.put, List.setIfInBounds_toArray, List.set]
          repeat (first | (refine wpI_rd rfl rfl ?_; go_big_quiet_step (fail); refine wpQuiet_nil ?_) | (refine wpI_skip rfl rfl ?_; try simp only [Act.put, List.setIfInBounds_toArray, List.set]))
          try simp only [Act.put, List.setIfInBounds_toArray, List.set]
          refine wpI_call (f := 32) rfl rfl rfl (by simp [go_sem]; rfl) ?_
          refine (DA.out _ H.out M.out).mono ?_
          rintro e w16 ⟨rfl, hb⟩
          have BW16 : Below w11.heap.size w11 w16 := bcall BW15 hb (by omega)
          refine ⟨_, rfl, hb, ?_⟩
          skip
          have B16 : Below w.heap.size w w16 := bcall (by go_grown) hb (by go_size)
          have q16 : w15.heap.size + 0 ≤ w16.heap.size := hb.size
          replace H := Lib.hid (H.out.below hb (Nat.le_refl _))
          replace K := Lib.hid (K.out.below hb (Nat.le_refl _))
          replace M := Lib.hid (M.out.below hb (Nat.le_refl _))
          replace RU := Lib.hid (RU.out.below hb (Nat.le_refl _))
          replace RI := Lib.hid (RI.out.below hb (Nat.le_refl _))
          replace RC := Lib.hid (RC.out.below hb (Nat.le_refl _))
          replace X := (X).below hb (by go_size)
          replace Y := (Y).below hb (by go_size)
          replace Z := (Z).below hb (by go_size)
          replace U := (U).below hb (by go_size)
          replace F1 := (F1).below hb (by go_size)
          replace I := (I).below hb (by go_size)
          replace F2 := (F2).below hb (by go_size)
          replace C := (C).below hb (by go_size)
          replace F3 := (F3).below hb (by go_size)
          clear hb
          have s16 : w.heap.size ≤ w16.heap.size := B16.size
          clear Xc Xf Xl Yc Yf Yl Zc Zf Zl Uc Uf Ul F1c F1f F1l Ic If Il F2c F2f F2l Cc Cf Cl F3c F3f F3l
          obtain ⟨Xc, Xf, Xl⟩ := id X
          obtain ⟨Yc, Yf, Yl⟩ := id Y
          obtain ⟨Zc, Zf, Zl⟩ := id Z
          obtain ⟨Uc, Uf, Ul⟩ := id U
          obtain ⟨F1c, F1f, F1l⟩ := id F1
          obtain ⟨Ic, If, Il⟩ := id I
          obtain ⟨F2c, F2f, F2l⟩ := id F2
          obtain ⟨Cc, Cf, Cl⟩ := id C
          obtain ⟨F3c, F3f, F3l⟩ := id F3
          try simp only [Act.put, List.setIfInBounds_toArray, List.set]
          repeat (first | (refine wpI_rd rfl rfl ?_; go_big_quiet_step (fail); refine wpQuiet_nil ?_) | (refine wpI_skip rfl rfl ?_; try simp only [Act.put, List.setIfInBounds_toArray, List.set]))
          try simp only [Act.put, List.setIfInBounds_toArray, List.set]
          refine wpI_call (f := 32) rfl rfl rfl (by simp [go_sem]; rfl) ?_
          refine (DB.out _ K.out M.out).mono ?_
          rintro e w17 ⟨rfl, hb⟩
          have BW17 : Below w11.heap.size w11 w17 := bcall BW16 hb (by omega)
          refine ⟨_, rfl, hb, ?_⟩
          skip
          have B17 : Below w.heap.size w w17 := bcall (by go_grown) hb (by go_size)
          have q17 : w16.heap.size + 0 ≤ w17.heap.size := hb.size
          replace H := Lib.hid (H.out.below hb (Nat.le_refl _))
          replace K := Lib.hid (K.out.below hb (Nat.le_refl _))
          replace M := Lib.hid (M.out.below hb (Nat.le_refl _))
          replace RU := Lib.hid (RU.out.below hb (Nat.le_refl _))
          replace RI := Lib.hid (RI.out.below hb (Nat.le_refl _))
          replace RC := Lib.hid (RC.out.below hb (Nat.le_refl _))
          replace X := (X).below hb (by go_size)
          replace Y := (Y).below hb (by go_size)
          replace Z := (Z).below hb (by go_size)
          replace U := (U).below hb (by go_size)
          replace F1 := (F1).below hb (by go_size)
          replace I := (I).below hb (by go_size)
          replace F2 := (F2).below hb (by go_size)
          replace C := (C).below hb (by go_size)
          replace F3 := (F3).below hb (by go_size)
          clear hb
          have s17 : w.heap.size ≤ w17.heap.size := B17.size
          clear Xc Xf Xl Yc Yf Yl Zc Zf Zl Uc Uf Ul F1c F1f F1l Ic If Il F2c F2f F2l Cc Cf Cl F3c F3f F3l
          obtain ⟨Xc, Xf, Xl⟩ := id X
          obtain ⟨Yc, Yf, Yl⟩ := id Y
          obtain ⟨Zc, Zf, Zl⟩ := id Z
          obtain ⟨Uc, Uf, Ul⟩ := id U
          obtain ⟨F1c, F1f, F1l⟩ := id F1
          obtain ⟨Ic, If, Il⟩ := id I
          obtain ⟨F2c, F2f, F2l⟩ := id F2
          obtain ⟨Cc, Cf, Cl⟩ := id C
          obtain ⟨F3c, F3f, F3l⟩ := id F3
          try simp only [Act.put, List.setIfInBounds_toArray, List.set]
          repeat (first | (refine wpI_rd rfl rfl ?_; go_big_quiet_step (fail); refine wpQuiet_nil ?_) | (refine wpI_skip rfl rfl ?_; try simp only [Act.put, List.setIfInBounds_toArray, List.set]))
          try simp only [Act.put, List.setIfInBounds_toArray, List.set]
          refine wpI_nil ?_
          try simp only [Act.put, List.setIfInBounds_toArray, List.set]
          go_wp2_with fail
          go_meet
          exact ⟨rfl, X, Z, C, F3, BW17⟩
         | false =>
          have e1 := E1.out z1
          obtain rfl : bu = true := e1
          subst z1
          have u1 : ((0 : Int) == 0) = true := rfl
          have e2 := E2.out z2
          obtain rfl : bi = false := e2
          subst z2
          clear E1 E2
          have BW12 : Below w11.heap.size w11 w11 := Below.refl _ _
          refine wp_region_ord [0, 1, 2, 3, 4, 5, 7, 8, 6, 9, 10, 11, 12, 13, 14, 15, 16, 17, 18, 19, 20, 21, 22, 23, 25, 26, 24, 27, 28, 29, 30, 31, 32, 33, 34, 35] (by kernel_rfl) (by kernel_rfl) ?_
          have B12 : Below w.heap.size w w11.drew := by go_grown
          have q12 : w11.heap.size + 0 ≤ w11.drew.heap.size := by simp only [World.size_drew]; omega
          replace H := Lib.hid (H.out.below (Below.refl _ _).drew (Nat.le_refl _))
          replace K := Lib.hid (K.out.below (Below.refl _ _).drew (Nat.le_refl _))
          replace M := Lib.hid (M.out.below (Below.refl _ _).drew (Nat.le_refl _))
          replace RU := Lib.hid (RU.out.below (Below.refl _ _).drew (Nat.le_refl _))
          replace RI := Lib.hid (RI.out.below (Below.refl _ _).drew (Nat.le_refl _))
          replace RC := Lib.hid (RC.out.below (Below.refl _ _).drew (Nat.le_refl _))
          replace X := X.drew
          replace Y := Y.drew
          replace Z := Z.drew
          replace U := U.drew
          replace F1 := F1.drew
          replace I := I.drew
          replace F2 := F2.drew
          replace C := C.drew
          replace F3 := F3.drew
          replace BW12 := (show Below w11.heap.size w11 w11.drew from by go_grown)
          clear Xc Xf Xl Yc Yf Yl Zc Zf Zl Uc Uf Ul F1c F1f F1l Ic If Il F2c F2f F2l Cc Cf Cl F3c F3f F3l
          generalize w11.drew = w12 at *
          have s12 : w.heap.size ≤ w12.heap.size := B12.size
          obtain ⟨Xc, Xf, Xl⟩ := id X
          obtain ⟨Yc, Yf, Yl⟩ := id Y
          obtain ⟨Zc, Zf, Zl⟩ := id Z
          obtain ⟨Uc, Uf, Ul⟩ := id U
          obtain ⟨F1c, F1f, F1l⟩ := id F1
          obtain ⟨Ic, If, Il⟩ := id I
          obtain ⟨F2c, F2f, F2l⟩ := id F2
          obtain ⟨Cc, Cf, Cl⟩ := id C
          obtain ⟨F3c, F3f, F3l⟩ := id F3
          repeat (first | (refine wpI_rd rfl rfl ?_; go_big_quiet_step (fail); refine wpQuiet_nil ?_) | (refine wpI_skip rfl rfl ?_; try simp only [Act.put, List.setIfInBounds_toArray, List.set]))
          try simp only
          refine wpI_call (f := 32) rfl rfl rfl (by simp [go_sem]; rfl) ?_
          refine (D1.out _ _ _ RU.out M.out).mono ?_
          rintro e w13 ⟨rfl, hb⟩
          have BW13 : Below w11.heap.size w11 w13 := bcall BW12 hb (by omega)
          refine ⟨_, rfl, hb, ?_⟩
          skip
          have B13 : Below w.heap.size w w13 := bcall (by go_grown) hb (by go_size)
          have q13 : w12.heap.size + 0 ≤ w13.heap.size := hb.size
          replace H := Lib.hid (H.out.below hb (Nat.le_refl _))
          replace K := Lib.hid (K.out.below hb (Nat.le_refl _))
          replace M := Lib.hid (M.out.below hb (Nat.le_refl _))
          replace RU := Lib.hid (RU.out.below hb (Nat.le_refl _))
          replace RI := Lib.hid (RI.out.below hb (Nat.le_refl _))
          replace RC := Lib.hid (RC.out.below hb (Nat.le_refl _))
          replace X := (X).below hb (by go_size)
          replace Y := (Y).below hb (by go_size)
          replace Z := (Z).below hb (by go_size)
          replace U := (U).below hb (by go_size)
          replace F1 := (F1).below hb (by go_size)
          replace I := (I).below hb (by go_size)
          replace F2 := (F2).below hb (by go_size)
          replace C := (C).below hb (by go_size)
          replace F3 := (F3).below hb (by go_size)
          clear hb
          have s13 : w.heap.size ≤ w13.heap.size := B13.size
          clear Xc Xf Xl Yc Yf Yl Zc Zf Zl Uc Uf Ul F1c F1f F1l Ic If Il F2c F2f F2l Cc Cf Cl F3c F3f F3l
          obtain ⟨Xc, Xf, Xl⟩ := id X
          obtain ⟨Yc, Yf, Yl⟩ := id Y
          obtain ⟨Zc, Zf, Zl⟩ := id Z
          obtain ⟨Uc, Uf, Ul⟩ := id U
          obtain ⟨F1c, F1f, F1l⟩ := id F1
          obtain ⟨Ic, If, Il⟩ := id I
          obtain ⟨F2c, F2f, F2l⟩ := id F2
          obtain ⟨Cc, Cf, Cl⟩ := id C
          obtain ⟨F3c, F3f, F3l⟩ := id F3
          try simp only [Act.put, List.setIfInBounds_toArray, List.set]
          repeat (first | (refine wpI_rd rfl rfl ?_; go_big_quiet_step (fail); refine wpQuiet_nil ?_) | (refine wpI_skip rfl rfl ?_; try simp only [Act.put, List.setIfInBounds_toArray, List.set]))
          try simp only [Act.put, List.setIfInBounds_toArray, List.set]
          refine wpI_call (f := 32) rfl rfl rfl (by simp [go_sem]; rfl) ?_
          refine (DA.out _ H.out M.out).mono ?_
          rintro e w14 ⟨rfl, hb⟩
          have BW14 : Below w11.heap.size w11 w14 := bcall BW13 hb (by omega)
          refine ⟨_, rfl, hb, ?_⟩
          skip
          have B14 : Below w.heap.size w w14 := bcall (by go_grown) hb (by go_size)
          have q14 : w13.heap.size + 0 ≤ w14.heap.size := hb.size
          replace H := Lib.hid (H.out.below hb (Nat.le_refl _))
          replace K := Lib.hid (K.out.below hb (Nat.le_refl _))
          replace M := Lib.hid (M.out.below hb (Nat.le_refl _))
          replace RU := Lib.hid (RU.out.below hb (Nat.le_refl _))
          replace RI := Lib.hid (RI.out.below hb (Nat.le_refl _))
          replace RC := Lib.hid (RC.out.below hb (Nat.le_refl _))
          replace X := (X).below hb (by go_size)
          replace Y := (Y).below hb (by go_size)
          replace Z := (Z).below hb (by go_size)
          replace U := (U).below hb (by go_size)
          replace F1 := (F1).below hb (by go_size)
          replace I := (I).below hb (by go_size)
          replace F2 := (F2).below hb (by go_size)
          replace C := (C).below hb (by go_size)
          replace F3 := (F3).below hb (by go_size)
          clear hb
          have s14 : w.heap.size ≤ w14.heap.size := B14.size
          clear Xc Xf Xl Yc Yf Yl Zc Zf Zl Uc Uf Ul F1c F1f F1l Ic If Il F2c F2f F2l Cc Cf Cl F3c F3f F3l
          obtain ⟨Xc, Xf, Xl⟩ := id X
          obtain ⟨Yc, Yf, Yl⟩ := id Y
          obtain ⟨Zc, Zf, Zl⟩ := id Z
          obtain ⟨Uc, Uf, Ul⟩ := id U
          obtain ⟨F1c, F1f, F1l⟩ := id F1
          obtain ⟨Ic, If, Il⟩ := id I
          obtain ⟨F2c, F2f, F2l⟩ := id F2
          obtain ⟨Cc, Cf, Cl⟩ := id C
          obtain ⟨F3c, F3f, F3l⟩ := id F3
          try simp only [Act.put, List.setIfInBounds_toArray, List.set]
          repeat (first | (refine wpI_rd rfl rfl ?_; go_big_quiet_step (fail); refine wpQuiet_nil ?_) | (refine wpI_skip rfl rfl ?_; try simp only [Act.put, List.setIfInBounds_toArray, List.set]))
          try simp only [Act.put, List.setIfInBounds_toArray, List.set]
          refine wpI_call (f := 32) rfl rfl rfl (by simp [go_sem]; rfl) ?_
          refine (D2.out _ _ _ RI.out M.out).mono ?_
          rintro e w15 ⟨rfl, hb⟩
          have BW15 : Below w11.heap.size w11 w15 := bcall BW14 hb (by omega)
          refine ⟨_, rfl, hb, ?_⟩
          skip
          have B15 : Below w.heap.size w w15 := bcall (by go_grown) hb (by go_size)
          have q15 : w14.heap.size + 0 ≤ w15.heap.size := hb.size
          replace H := Lib.hid (H.out.below hb (Nat.le_refl _))
          replace K := Lib.hid (K.out.below hb (Nat.le_refl _))
          replace M := Lib.hid (M.out.below hb (Nat.le_refl _))
          replace RU := Lib.hid (RU.out.below hb (Nat.le_refl _))
          replace RI := Lib.hid (RI.out.below hb (Nat.le_refl _))
          replace RC := Lib.hid (RC.out.below hb (Nat.le_refl _))
          replace X := (X).below hb (by go_size)
          replace Y := (Y).below hb (by go_size)
          replace Z := (Z).below hb (by go_size)
          replace U := (U).below hb (by go_size)
          replace F1 := (F1).below hb (by go_size)
          replace I := (I).below hb (by go_size)
          replace F2 := (F2).below hb (by go_size)
          replace C := (C).below hb (by go_size)
          replace F3 := (F3).below hb (by go_size)
          clear hb
          have s15 : w.heap.size ≤ w15.heap.size := B15.size
          clear Xc Xf Xl Yc Yf Yl Zc Zf Zl Uc Uf Ul F1c F1f F1l Ic If Il F2c F2f F2l Cc Cf Cl F3c F3f F3l
          obtain ⟨Xc, Xf, Xl⟩ := id X
          obtain ⟨Yc, Yf, Yl⟩ := id Y
          obtain ⟨Zc, Zf, Zl⟩ := id Z
          obtain ⟨Uc, Uf, Ul⟩ := id U
          obtain ⟨F1c, F1f, F1l⟩ := id F1
          obtain ⟨Ic, If, Il⟩ := id I
          obtain ⟨F2c, F2f, F2l⟩ := id F2
          obtain ⟨Cc, Cf, Cl⟩ := id C
          obtain ⟨F3c, F3f, F3l⟩ := id F3
          try simp only [Act.put, List.setIfInBounds_toArray, List.set]
          repeat (first | (refine wpI_rd rfl rfl ?_; go_big_quiet_step (fail); refine wpQuiet_nil ?_) | (refine wpI_skip rfl rfl ?_; try simp only [Act.put, List.setIfInBounds_toArray, List.set]))
          try simp only [Act.put, List.setIfInBounds_toArray, List.set]
          refine wpI_call (f := 32) rfl rfl rfl (by simp [go_sem]; rfl) ?_
          refine (DA.out _ H.out M.out).mono ?_
          rintro e w16 ⟨rfl, hb⟩
          have BW16 : Below w11.heap.size w11 w16 := bcall BW15 hb (by omega)
          refine ⟨_, rfl, hb, ?_⟩
          skip
          have B16 : Below w.heap.size w w16 := bcall (by go_grown) hb (by go_size)
          have q16 : w15.heap.size + 0 ≤ w16.heap.size := hb.size
          replace H := Lib.hid (H.out.below hb (Nat.le_refl _))
          replace K := Lib.hid (K.out.below hb (Nat.le_refl _))
          replace M := Lib.hid (M.out.below hb (Nat.le_refl _))
          replace RU := Lib.hid (RU.out.below hb (Nat.le_refl _))
          replace RI := Lib.hid (RI.out.below hb (Nat.le_refl _))
          replace RC := Lib.hid (RC.out.below hb (Nat.le_refl _))
          replace X := (X).below hb (by go_size)
          replace Y := (Y).below hb (by go_size)
          replace Z := (Z).below hb (by go_size)
          replace U := (U).below hb (by go_size)
          replace F1 := (F1).below hb (by go_size)
          replace I := (I).below hb (by go_size)
          replace F2 := (F2).below hb (by go_size)
          replace C := (C).below hb (by go_size)
          replace F3 := (F3).below hb (by go_size)
          clear hb
          have s16 : w.heap.size ≤ w16.heap.size := B16.size
          clear Xc Xf Xl Yc Yf Yl Zc Zf Zl Uc Uf Ul F1c F1f F1l Ic If Il F2c F2f F2l Cc Cf Cl F3c F3f F3l
          obtain ⟨Xc, Xf, Xl⟩ := id X
          obtain ⟨Yc, Yf, Yl⟩ := id Y
          obtain ⟨Zc, Zf, Zl⟩ := id Z
          obtain ⟨Uc, Uf, Ul⟩ := id U
          obtain ⟨F1c, F1f, F1l⟩ := id F1
          obtain ⟨Ic, If, Il⟩ := id I
          obtain ⟨F2c, F2f, F2l⟩ := id F2
          obtain ⟨Cc, Cf, Cl⟩ := id C
          obtain ⟨F3c, F3f, F3l⟩ := id F3
          try simp only [Act.put, List.setIfInBounds_toArray, List.set]
          repeat (first | (refine wpI_rd rfl rfl ?_; go_big_quiet_step (fail); refine wpQuiet_nil ?_) | (refine wpI_skip rfl rfl ?_; try simp only [Act.put, List.setIfInBounds_toArray, List.set]))
          try simp only [Act.put, List.setIfInBounds_toArray, List.set]
          refine wpI_call (f := 32) rfl rfl rfl (by simp [go_sem]; rfl) ?_
          refine (DB.out _ K.out M.out).mono ?_
          rintro e w17 ⟨rfl, hb⟩
          have BW17 : Below w11.heap.size w11 w17 := bcall BW16 hb (by omega)
          refine ⟨_, rfl, hb, ?_⟩
          skip
          have B17 : Below w.heap.size w w17 := bcall (by go_grown) hb (by go_size)
          have q17 : w16.heap.size + 0 ≤ w17.heap.size := hb.size
          replace H := Lib.hid (H.out.below hb (Nat.le_refl _))
          replace K := Lib.hid (K.out.below hb (Nat.le_refl _))
          replace M := Lib.hid (M.out.below hb (Nat.le_refl _))
          replace RU := Lib.hid (RU.out.below hb (Nat.le_refl _))
          replace RI := Lib.hid (RI.out.below hb (Nat.le_refl _))
          replace RC := Lib.hid (RC.out.below hb (Nat.le_refl _))
          replace X := (X).below hb (by go_size)
          replace Y := (Y).below hb (by go_size)
          replace Z := (Z).below hb (by go_size)
          replace U := (U).below hb (by go_size)
          replace F1 := (F1).below hb (by go_size)
          replace I := (I).below hb (by go_size)
          replace F2 := (F2).below hb (by go_size)
          replace C := (C).below hb (by go_size)
          replace F3 := (F3).below hb (by go_size)
          clear hb
          have s17 : w.heap.size ≤ w17.heap.size := B17.size
          clear Xc Xf Xl Yc Yf Yl Zc Zf Zl Uc Uf Ul F1c F1f F1l Ic If Il F2c F2f F2l Cc Cf Cl F3c F3f F3l
          obtain ⟨Xc, Xf, Xl⟩ := id X
          obtain ⟨Yc, Yf, Yl⟩ := id Y
          obtain ⟨Zc, Zf, Zl⟩ := id Z
          obtain ⟨Uc, Uf, Ul⟩ := id U
          obtain ⟨F1c, F1f, F1l⟩ := id F1
          obtain ⟨Ic, If, Il⟩ := id I
          obtain ⟨F2c, F2f, F2l⟩ := id F2
          obtain ⟨Cc, Cf, Cl⟩ := id C
          obtain ⟨F3c, F3f, F3l⟩ := id F3
          try simp only [Act.put, List.setIfInBounds_toArray, List.set]
          repeat (first | (refine wpI_rd rfl rfl ?_; go_big_quiet_step (fail); refine wpQuiet_nil ?_) | (refine wpI_skip rfl rfl ?_; try simp only [Act.put, List.setIfInBounds_toArray, List.set]))
          try simp only [Act.put, List.setIfInBounds_toArray, List.set]
          refine wpI_nil ?_
          try simp only [Act.put, List.setIfInBounds_toArray, List.set]
          go_wp2_with fail
          go_meet
          exact ⟨rfl, X, Z, C, F3, BW17⟩
        | false =>
         cases bb with
         | true =>
          have e1 := E1.out z1
          obtain rfl : bu = true := e1
          subst z1
          have u1 : ((0 : Int) == 0) = true := rfl
          have e2 := E2.out z2
          obtain rfl : bi = false := e2
          subst z2
          clear E1 E2
          have BW12 : Below w11.heap.size w11 w11 := Below.refl _ _
          refine wp_region_ord [0, 1, 2, 3, 4, 5, 7, 8, 6, 9, 10, 11, 12, 13, 14, 15, 16, 17, 18, 19, 20, 21, 22, 23, 25, 26, 24, 27, 28, 29, 30, 31, 32, 33, 34, 35] (by kernel_rfl) (by kernel_rfl) ?_
          have B12 : Below w.heap.size w w11.drew := by go_grown
          have q12 : w11.heap.size + 0 ≤ w11.drew.heap.size := by simp only [World.size_drew]; omega
          replace H := Lib.hid (H.out.below (Below.refl _ _).drew (Nat.le_refl _))
          replace K := Lib.hid (K.out.below (Below.refl _ _).drew (Nat.le_refl _))
          replace M := Lib.hid (M.out.below (Below.refl _ _).drew (Nat.le_refl _))
          replace RU := Lib.hid (RU.out.below (Below.refl _ _).drew (Nat.le_refl _))
          replace RI := Lib.hid (RI.out.below (Below.refl _ _).drew (Nat.le_refl _))
          replace RC := Lib.hid (RC.out.below (Below.refl _ _).drew (Nat.le_refl _))
          replace X := X.drew
          replace Y := Y.drew
          replace Z := Z.drew
          replace U := U.drew
          replace F1 := F1.drew
          replace I := I.drew
          replace F2 := F2.drew
          replace C := C.drew
          replace F3 := F3.drew
          replace BW12 := (show Below w11.heap.size w11 w11.drew from by go_grown)
          clear Xc Xf Xl Yc Yf Yl Zc Zf Zl Uc Uf Ul F1c F1f F1l Ic If Il F2c F2f F2l Cc Cf Cl F3c F3f F3l
          generalize w11.drew = w12 at *
          have s12 : w.heap.size ≤ w12.heap.size := B12.size
          obtain ⟨Xc, Xf, Xl⟩ := id X
          obtain ⟨Yc, Yf, Yl⟩ := id Y
          obtain ⟨Zc, Zf, Zl⟩ := id Z
          obtain ⟨Uc, Uf, Ul⟩ := id U
          obtain ⟨F1c, F1f, F1l⟩ := id F1
          obtain ⟨Ic, If, Il⟩ := id I
          obtain ⟨F2c, F2f, F2l⟩ := id F2
          obtain ⟨Cc, Cf, Cl⟩ := id C
          obtain ⟨F3c, F3f, F3l⟩ := id F3
          repeat (first | (refine wpI_rd rfl rfl ?_; go_big_quiet_step (fail); refine wpQuiet_nil ?_) | (refine wpI_skip rfl rfl ?_; try simp only [Act.put, List.setIfInBounds_toArray, List.set]))
          try simp only
          refine wpI_call (f := 32) rfl rfl rfl (by simp [go_sem]; rfl) ?_
          refine (D1.out _ _ _ RU.out M.out).mono ?_
          rintro e w13 ⟨rfl, hb⟩
          have BW13 : Below w11.heap.size w11 w13 := bcall BW12 hb (by omega)
          refine ⟨_, rfl, hb, ?_⟩
          skip
          have B13 : Below w.heap.size w w13 := bcall (by go_grown) hb (by go_size)
          have q13 : w12.heap.size + 0 ≤ w13.heap.size := hb.size
          replace H := Lib.hid (H.out.below hb (Nat.le_refl _))
          replace K := Lib.hid (K.out.below hb (Nat.le_refl _))
          replace M := Lib.hid (M.out.below hb (Nat.le_refl _))
          replace RU := Lib.hid (RU.out.below hb (Nat.le_refl _))
          replace RI := Lib.hid (RI.out.below hb (Nat.le_refl _))
          replace RC := Lib.hid (RC.out.below hb (Nat.le_refl _))
          replace X := (X).below hb (by go_size)
          replace Y := (Y).below hb (by go_size)
          replace Z := (Z).below hb (by go_size)
          replace U := (U).below hb (by go_size)
          replace F1 := (F1).below hb (by go_size)
          replace I := (I).below hb (by go_size)
          replace F2 := (F2).below hb (by go_size)
          replace C := (C).below hb (by go_size)
          replace F3 := (F3).below hb (by go_size)
          clear hb
          have s13 : w.heap.size ≤ w13.heap.size := B13.size
          clear Xc Xf Xl Yc Yf Yl Zc Zf Zl Uc Uf Ul F1c F1f F1l Ic If Il F2c F2f F2l Cc Cf Cl F3c F3f F3l
          obtain ⟨Xc, Xf, Xl⟩ := id X
          obtain ⟨Yc, Yf, Yl⟩ := id Y
          obtain ⟨Zc, Zf, Zl⟩ := id Z
          obtain ⟨Uc, Uf, Ul⟩ := id U
          obtain ⟨F1c, F1f, F1l⟩ := id F1
          obtain ⟨Ic, If, Il⟩ := id I
          obtain ⟨F2c, F2f, F2l⟩ := id F2
          obtain ⟨Cc, Cf, Cl⟩ := id C
          obtain ⟨F3c, F3f, F3l⟩ := id F3
          try simp only [Act.put, List.setIfInBounds_toArray, List.set]
          repeat (first | (refine wpI_rd rfl rfl ?_; go_big_quiet_step (fail); refine wpQuiet_nil ?_) | (refine wpI_skip rfl rfl ?_; try simp only [Act.put, List.setIfInBounds_toArray, List.set]))
          try simp only [Act.put, List.setIfInBounds_toArray, List.set]
          refine wpI_call (f := 32) rfl rfl rfl (by simp [go_sem]; rfl) ?_
          refine (DA.out _ H.out M.out).mono ?_
          rintro e w14 ⟨rfl, hb⟩
          have BW14 : Below w11.heap.size w11 w14 := bcall BW13 hb (by omega)
          refine ⟨_, rfl, hb, ?_⟩
          skip
          have B14 : Below w.heap.size w w14 := bcall (by go_grown) hb (by go_size)
          have q14 : w13.heap.size + 0 ≤ w14.heap.size := hb.size
          replace H := Lib.hid (H.out.below hb (Nat.le_refl _))
          replace K := Lib.hid (K.out.below hb (Nat.le_refl _))
          replace M := Lib.hid (M.out.below hb (Nat.le_refl _))
          replace RU := Lib.hid (RU.out.below hb (Nat.le_refl _))
          replace RI := Lib.hid (RI.out.below hb (Nat.le_refl _))
          replace RC := Lib.hid (RC.out.below hb (Nat.le_refl _))
          replace X := (X).below hb (by go_size)
          replace Y := (Y).below hb (by go_size)
          replace Z := (Z).below hb (by go_size)
          replace U := (U).below hb (by go_size)
          replace F1 := (F1).below hb (by go_size)
          replace I := (I).below hb (by go_size)
          replace F2 := (F2).below hb (by go_size)
          replace C := (C).below hb (by go_size)
          replace F3 := (F3).below hb (by go_size)
          clear hb
          have s14 : w.heap.size ≤ w14.heap.size := B14.size
          clear Xc Xf Xl Yc Yf Yl Zc Zf Zl Uc Uf Ul F1c F1f F1l Ic If Il F2c F2f F2l Cc Cf Cl F3c F3f F3l
          obtain ⟨Xc, Xf, Xl⟩ := id X
          obtain ⟨Yc, Yf, Yl⟩ := id Y
          obtain ⟨Zc, Zf, Zl⟩ := id Z
          obtain ⟨Uc, Uf, Ul⟩ := id U
          obtain ⟨F1c, F1f, F1l⟩ := id F1
          obtain ⟨Ic, If, Il⟩ := id I
          obtain ⟨F2c, F2f, F2l⟩ := id F2
          obtain ⟨Cc, Cf, Cl⟩ := id C
          obtain ⟨F3c, F3f, F3l⟩ := id F3
          try simp only [Act.put, List.setIfInBounds_toArray, List.set]
          repeat (first | (refine wpI_rd rfl rfl ?_; go_big_quiet_step (fail); refine wpQuiet_nil ?_) | (refine wpI_skip rfl rfl ?_; try simp only [Act.put, List.setIfInBounds_toArray, List.set]))
          try simp only [Act.put, List.setIfInBounds_toArray, List.set]
          refine wpI_call (f := 32) rfl rfl rfl (by simp [go_sem]; rfl) ?_
          refine (DB.out _ K.out M.out).mono ?_
          rintro e w15 ⟨rfl, hb⟩
          have BW15 : Below w11.heap.size w11 w15 := bcall BW14 hb (by omega)
          refine ⟨_, rfl, hb, ?_⟩
          skip
          have B15 : Below w.heap.size w w15 := bcall (by go_grown) hb (by go_size)
          have q15 : w14.heap.size + 0 ≤ w15.heap.size := hb.size
          replace H := Lib.hid (H.out.below hb (Nat.le_refl _))
          replace K := Lib.hid (K.out.below hb (Nat.le_refl _))
          replace M := Lib.hid (M.out.below hb (Nat.le_refl _))
          replace RU := Lib.hid (RU.out.below hb (Nat.le_refl _))
          replace RI := Lib.hid (RI.out.below hb (Nat.le_refl _))
          replace RC := Lib.hid (RC.out.below hb (Nat.le_refl _))
          replace X := (X).below hb (by go_size)
          replace Y := (Y).below hb (by go_size)
          replace Z := (Z).below hb (by go_size)
          replace U := (U).below hb (by go_size)
          replace F1 := (F1).below hb (by go_size)
          replace I := (I).below hb (by go_size)
          replace F2 := (F2).below hb (by go_size)
          replace C := (C).below hb (by go_size)
          replace F3 := (F3).below hb (by go_size)
          clear hb
          have s15 : w.heap.size ≤ w15.heap.size := B15.size
          clear Xc Xf Xl Yc Yf Yl Zc Zf Zl Uc Uf Ul F1c F1f F1l Ic If Il F2c F2f F2l Cc Cf Cl F3c F3f F3l
          obtain ⟨Xc, Xf, Xl⟩ := id X
          obtain ⟨Yc, Yf, Yl⟩ := id Y
          obtain ⟨Zc, Zf, Zl⟩ := id Z
          obtain ⟨Uc, Uf, Ul⟩ := id U
          obtain ⟨F1c, F1f, F1l⟩ := id F1
          obtain ⟨Ic, If, Il⟩ := id I
          obtain ⟨F2c, F2f, F2l⟩ := id F2
          obtain ⟨Cc, Cf, Cl⟩ := id C
          obtain ⟨F3c, F3f, F3l⟩ := id F3
          try simp only [Act.put, List.setIfInBounds_toArray, List.set]
          repeat (first | (refine wpI_rd rfl rfl ?_; go_big_quiet_step (fail); refine wpQuiet_nil ?_) | (refine wpI_skip rfl rfl ?_; try simp only [Act.put, List.setIfInBounds_toArray, List.set]))
          try simp only [Act.put, List.setIfInBounds_toArray, List.set]
          refine wpI_call (f := 32) rfl rfl rfl (by simp [go_sem]; rfl) ?_
          refine (D2.out _ _ _ RI.out M.out).mono ?_
          rintro e w16 ⟨rfl, hb⟩
          have BW16 : Below w11.heap.size w11 w16 := bcall BW15 hb (by omega)
          refine ⟨_, rfl, hb, ?_⟩
          skip
          have B16 : Below w.heap.size w w16 := bcall (by go_grown) hb (by go_size)
          have q16 : w15.heap.size + 0 ≤ w16.heap.size := hb.size
          replace H := Lib.hid (H.out.below hb (Nat.le_refl _))
          replace K := Lib.hid (K.out.below hb (Nat.le_refl _))
          replace M := Lib.hid (M.out.below hb (Nat.le_refl _))
          replace RU := Lib.hid (RU.out.below hb (Nat.le_refl _))
          replace RI := Lib.hid (RI.out.below hb (Nat.le_refl _))
          replace RC := Lib.hid (RC.out.below hb (Nat.le_refl _))
          replace X := (X).below hb (by go_size)
          replace Y := (Y).below hb (by go_size)
          replace Z := (Z).below hb (by go_size)
          replace U := (U).below hb (by go_size)
          replace F1 := (F1).below hb (by go_size)
          replace I := (I).below hb (by go_size)
          replace F2 := (F2).below hb (by go_size)
          replace C := (C).below hb (by go_size)
          replace F3 := (F3).below hb (by go_size)
          clear hb
          have s16 : w.heap.size ≤ w16.heap.size := B16.size
          clear Xc Xf Xl Yc Yf Yl Zc Zf Zl Uc Uf Ul F1c F1f F1l Ic If Il F2c F2f F2l Cc Cf Cl F3c F3f F3l
          obtain ⟨Xc, Xf, Xl⟩ := id X
          obtain ⟨Yc, Yf, Yl⟩ := id Y
          obtain ⟨Zc, Zf, Zl⟩ := id Z
          obtain ⟨Uc, Uf, Ul⟩ := id U
          obtain ⟨F1c, F1f, F1l⟩ := id F1
          obtain ⟨Ic, If, Il⟩ := id I
          obtain ⟨F2c, F2f, F2l⟩ := id F2
          obtain ⟨Cc, Cf, Cl⟩ := id C
          obtain ⟨F3c, F3f, F3l⟩ := id F3
          try simp only [Act.put, List.setIfInBounds_toArray, List.set]
          repeat (first | (refine wpI_rd rfl rfl ?_; go_big_quiet_step (fail); refine wpQuiet_nil ?_) | (refine wpI_skip rfl rfl ?_; try simp only [Act.put, List.setIfInBounds_toArray, List.set]))
          try simp only [Act.put, List.setIfInBounds_toArray, List.set]
          refine wpI_call (f := 32) rfl rfl rfl (by simp [go_sem]; rfl) ?_
          refine (DA.out _ H.out M.out).mono ?_
          rintro e w17 ⟨rfl, hb⟩
          have BW17 : Below w11.heap.size w11 w17 := bcall BW16 hb (by omega)
          refine ⟨_, rfl, hb, ?_⟩
          skip
          have B17 : Below w.heap.size w w17 := bcall (by go_grown) hb (by go_size)
          have q17 : w16.heap.size + 0 ≤ w17.heap.size := hb.size
          replace H := Lib.hid (H.out.below hb (Nat.le_refl _))
          replace K := Lib.hid (K.out.below hb (Nat.le_refl _))
          replace M := Lib.hid (M.out.below hb (Nat.le_refl _))
          replace RU := Lib.hid (RU.out.below hb (Nat.le_refl _))
          replace RI := Lib.hid (RI.out.below hb (Nat.le_refl _))
          replace RC := Lib.hid (RC.out.below hb (Nat.le_refl _))
          replace X := (X).below hb (by go_size)
          replace Y := (Y).below hb (by go_size)
          replace Z := (Z).below hb (by go_size)
          replace U := (U).below hb (by go_size)
          replace F1 := (F1).below hb (by go_size)
          replace I := (I).below hb (by go_size)
          replace F2 := (F2).below hb (by go_size)
          replace C := (C).below hb (by go_size)
          replace F3 := (F3).below hb (by go_size)
          clear hb
          have s17 : w.heap.size ≤ w17.heap.size := B17.size
          clear Xc Xf Xl Yc Yf Yl Zc Zf Zl Uc Uf Ul F1c F1f F1l Ic If Il F2c F2f F2l Cc Cf Cl F3c F3f F3l
          obtain ⟨Xc, Xf, Xl⟩ := id X
          obtain ⟨Yc, Yf, Yl⟩ := id Y
          obtain ⟨Zc, Zf, Zl⟩ := id Z
          obtain ⟨Uc, Uf, Ul⟩ := id U
          obtain ⟨F1c, F1f, F1l⟩ := id F1
          obtain ⟨Ic, If, Il⟩ := id I
          obtain ⟨F2c, F2f, F2l⟩ := id F2
          obtain ⟨Cc, Cf, Cl⟩ := id C
          obtain ⟨F3c, F3f, F3l⟩ := id F3
          try simp only [Act.put, List.setIfInBounds_toArray, List.set]
          repeat (first | (refine wpI_rd rfl rfl ?_; go_big_quiet_step (fail); refine wpQuiet_nil ?_) | (refine wpI_skip rfl rfl ?_; try simp only [Act.put, List.setIfInBounds_toArray, List.set]))
          try simp only [Act.put, List.setIfInBounds_toArray, List.set]
          refine wpI_nil ?_
          try simp only [Act.put, List.setIfInBounds_toArray, List.set]
          go_wp2_with fail
          go_meet
          exact ⟨rfl, X, Z, C, F3, BW17⟩
         | false =>
          have e1 := E1.out z1
          obtain rfl : bu = false := e1
          subst z1
          have u1 : ((0 : Int) == 0) = true := rfl
          have e2 := E2.out z2
          obtain rfl : bi = false := e2
          subst z2
          clear E1 E2
          have BW12 : Below w11.heap.size w11 w11 := Below.refl _ _
          refine wp_region_ord [0, 1, 2, 3, 4, 5, 7, 8, 6, 9, 10, 11, 12, 13, 14, 15, 16, 17, 18, 19, 20, 21, 22, 23, 25, 26, 24, 27, 28, 29, 30, 31, 32, 33, 34, 35] (by kernel_rfl) (by kernel_rfl) ?_
          have B12 : Below w.heap.size w w11.drew := by go_grown
          have q12 : w11.heap.size + 0 ≤ w11.drew.heap.size := by simp only [World.size_drew]; omega
          replace H := Lib.hid (H.out.below (Below.refl _ _).drew (Nat.le_refl _))
          replace K := Lib.hid (K.out.below (Below.refl _ _).drew (Nat.le_refl _))
          replace M := Lib.hid (M.out.below (Below.refl _ _).drew (Nat.le_refl _))
          replace RU := Lib.hid (RU.out.below (Below.refl _ _).drew (Nat.le_refl _))
          replace RI := Lib.hid (RI.out.below (Below.refl _ _).drew (Nat.le_refl _))
          replace RC := Lib.hid (RC.out.below (Below.refl _ _).drew (Nat.le_refl _))
          replace X := X.drew
          replace Y := Y.drew
          replace Z := Z.drew
          replace U := U.drew
          replace F1 := F1.drew
          replace I := I.drew
          replace F2 := F2.drew
          replace C := C.drew
          replace F3 := F3.drew
          replace BW12 := (show Below w11.heap.size w11 w11.drew from by go_grown)
          clear Xc Xf Xl Yc Yf Yl Zc Zf Zl Uc Uf Ul F1c F1f F1l Ic If Il F2c F2f F2l Cc Cf Cl F3c F3f F3l
          generalize w11.drew = w12 at *
          have s12 : w.heap.size ≤ w12.heap.size := B12.size
          obtain ⟨Xc, Xf, Xl⟩ := id X
          obtain ⟨Yc, Yf, Yl⟩ := id Y
          obtain ⟨Zc, Zf, Zl⟩ := id Z
          obtain ⟨Uc, Uf, Ul⟩ := id U
          obtain ⟨F1c, F1f, F1l⟩ := id F1
          obtain ⟨Ic, If, Il⟩ := id I
          obtain ⟨F2c, F2f, F2l⟩ := id F2
          obtain ⟨Cc, Cf, Cl⟩ := id C
          obtain ⟨F3c, F3f, F3l⟩ := id F3
          repeat (first | (refine wpI_rd rfl rfl ?_; go_big_quiet_step (fail); refine wpQuiet_nil ?_) | (refine wpI_skip rfl rfl ?_; try simp only [Act.put, List.setIfInBounds_toArray, List.set]))
          try simp only
          refine wpI_call (f := 32) rfl rfl rfl (by simp [go_sem]; rfl) ?_
          refine (D1.out _ _ _ RU.out M.out).mono ?_
          rintro e w13 ⟨rfl, hb⟩
          have BW13 : Below w11.heap.size w11 w13 := bcall BW12 hb (by omega)
          refine ⟨_, rfl, hb, ?_⟩
          skip
          have B13 : Below w.heap.size w w13 := bcall (by go_grown) hb (by go_size)
          have q13 : w12.heap.size + 0 ≤ w13.heap.size := hb.size
          replace H := Lib.hid (H.out.below hb (Nat.le_refl _))
          replace K := Lib.hid (K.out.below hb (Nat.le_refl _))
          replace M := Lib.hid (M.out.below hb (Nat.le_refl _))
          replace RU := Lib.hid (RU.out.below hb (Nat.le_refl _))
          replace RI := Lib.hid (RI.out.below hb (Nat.le_refl _))
          replace RC := Lib.hid (RC.out.below hb (Nat.le_refl _))
          replace X := (X).below hb (by go_size)
          replace Y := (Y).below hb (by go_size)
          replace Z := (Z).below hb (by go_size)
          replace U := (U).below hb (by go_size)
          replace F1 := (F1).below hb (by go_size)
          replace I := (I).below hb (by go_size)
          replace F2 := (F2).below hb (by go_size)
          replace C := (C).below hb (by go_size)
          replace F3 := (F3).below hb (by go_size)
          clear hb
          have s13 : w.heap.size ≤ w13.heap.size := B13.size
          clear Xc Xf Xl Yc Yf Yl Zc Zf Zl Uc Uf Ul F1c F1f F1l Ic If Il F2c F2f F2l Cc Cf Cl F3c F3f F3l
          obtain ⟨Xc, Xf, Xl⟩ := id X
          obtain ⟨Yc, Yf, Yl⟩ := id Y
          obtain ⟨Zc, Zf, Zl⟩ := id Z
          obtain ⟨Uc, Uf, Ul⟩ := id U
          obtain ⟨F1c, F1f, F1l⟩ := id F1
          obtain ⟨Ic, If, Il⟩ := id I
          obtain ⟨F2c, F2f, F2l⟩ := id F2
          obtain ⟨Cc, Cf, Cl⟩ := id C
          obtain ⟨F3c, F3f, F3l⟩ := id F3
          try simp only [Act.put, List.setIfInBounds_toArray, List.set]
          repeat (first | (refine wpI_rd rfl rfl ?_; go_big_quiet_step (fail); refine wpQuiet_nil ?_) | (refine wpI_skip rfl rfl ?_; try simp only [Act.put, List.setIfInBounds_toArray, List.set]))
          try simp only [Act.put, List.setIfInBounds_toArray, List.set]
          refine wpI_call (f := 32) rfl rfl rfl (by simp [go_sem]; rfl) ?_
          refine (DA.out _ H.out M.out).mono ?_
          rintro e w14 ⟨rfl, hb⟩
          have BW14 : Below w11.heap.size w11 w14 := bcall BW13 hb (by omega)
          refine ⟨_, rfl, hb, ?_⟩
          skip
          have B14 : Below w.heap.size w w14 := bcall (by go_grown) hb (by go_size)
          have q14 : w13.heap.size + 0 ≤ w14.heap.size := hb.size
          replace H := Lib.hid (H.out.below hb (Nat.le_refl _))
          replace K := Lib.hid (K.out.below hb (Nat.le_refl _))
          replace M := Lib.hid (M.out.below hb (Nat.le_refl _))
          replace RU := Lib.hid (RU.out.below hb (Nat.le_refl _))
          replace RI := Lib.hid (RI.out.below hb (Nat.le_refl _))
          replace RC := Lib.hid (RC.out.below hb (Nat.le_refl _))
          replace X := (X).below hb (by go_size)
          replace Y := (Y).below hb (by go_size)
          replace Z := (Z).below hb (by go_size)
          replace U := (U).below hb (by go_size)
          replace F1 := (F1).below hb (by go_size)
          replace I := (I).below hb (by go_size)
          replace F2 := (F2).below hb (by go_size)
          replace C := (C).below hb (by go_size)
          replace F3 := (F3).below hb (by go_size)
          clear hb
          have s14 : w.heap.size ≤ w14.heap.size := B14.size
          clear Xc Xf Xl Yc Yf Yl Zc Zf Zl Uc Uf Ul F1c F1f F1l Ic If Il F2c F2f F2l Cc Cf Cl F3c F3f F3l
          obtain ⟨Xc, Xf, Xl⟩ := id X
          obtain ⟨Yc, Yf, Yl⟩ := id Y
          obtain ⟨Zc, Zf, Zl⟩ := id Z
          obtain ⟨Uc, Uf, Ul⟩ := id U
          obtain ⟨F1c, F1f, F1l⟩ := id F1
          obtain ⟨Ic, If, Il⟩ := id I
          obtain ⟨F2c, F2f, F2l⟩ := id F2
          obtain ⟨Cc, Cf, Cl⟩ := id C
          obtain ⟨F3c, F3f, F3l⟩ := id F3
          try simp only [Act.put, List.setIfInBounds_toArray, List.set]
          repeat (first | (refine wpI_rd rfl rfl ?_; go_big_quiet_step (fail); refine wpQuiet_nil ?_) | (refine wpI_skip rfl rfl ?_; try simp only [Act.put, List.setIfInBounds_toArray, List.set]))
          try simp only [Act.put, List.setIfInBounds_toArray, List.set]
          refine wpI_call (f := 32) rfl rfl rfl (by simp [go_sem]; rfl) ?_
          refine (DB.out _ K.out M.out).mono ?_
          rintro e w15 ⟨rfl, hb⟩
          have BW15 : Below w11.heap.size w11 w15 := bcall BW14 hb (by omega)
          refine ⟨_, rfl, hb, ?_⟩
          skip
          have B15 : Below w.heap.size w w15 := bcall (by go_grown) hb (by go_size)
          have q15 : w14.heap.size + 0 ≤ w15.heap.size := hb.size
          replace H := Lib.hid (H.out.below hb (Nat.le_refl _))
          replace K := Lib.hid (K.out.below hb (Nat.le_refl _))
          replace M := Lib.hid (M.out.below hb (Nat.le_refl _))
          replace RU := Lib.hid (RU.out.below hb (Nat.le_refl _))
          replace RI := Lib.hid (RI.out.below hb (Nat.le_refl _))
          replace RC := Lib.hid (RC.out.below hb (Nat.le_refl _))
          replace X := (X).below hb (by go_size)
          replace Y := (Y).below hb (by go_size)
          replace Z := (Z).below hb (by go_size)
          replace U := (U).below hb (by go_size)
          replace F1 := (F1).below hb (by go_size)
          replace I := (I).below hb (by go_size)
          replace F2 := (F2).below hb (by go_size)
          replace C := (C).below hb (by go_size)
          replace F3 := (F3).below hb (by go_size)
          clear hb
          have s15 : w.heap.size ≤ w15.heap.size := B15.size
          clear Xc Xf Xl Yc Yf Yl Zc Zf Zl Uc Uf Ul F1c F1f F1l Ic If Il F2c F2f F2l Cc Cf Cl F3c F3f F3l
          obtain ⟨Xc, Xf, Xl⟩ := id X
          obtain ⟨Yc, Yf, Yl⟩ := id Y
          obtain ⟨Zc, Zf, Zl⟩ := id Z
          obtain ⟨Uc, Uf, Ul⟩ := id U
          obtain ⟨F1c, F1f, F1l⟩ := id F1
          obtain ⟨Ic, If, Il⟩ := id I
          obtain ⟨F2c, F2f, F2l⟩ := id F2
          obtain ⟨Cc, Cf, Cl⟩ := id C
          obtain ⟨F3c, F3f, F3l⟩ := id F3
          try simp only [Act.put, List.setIfInBounds_toArray, List.set]
          repeat (first | (refine wpI_rd rfl rfl ?_; go_big_quiet_step (fail); refine wpQuiet_nil ?_) | (refine wpI_skip rfl rfl ?_; try simp only [Act.put, List.setIfInBounds_toArray, List.set]))
          try simp only [Act.put, List.setIfInBounds_toArray, List.set]
          refine wpI_call (f := 32) rfl rfl rfl (by simp [go_sem]; rfl) ?_
          refine (D2.out _ _ _ RI.out M.out).mono ?_
          rintro e w16 ⟨rfl, hb⟩
          have BW16 : Below w11.heap.size w11 w16 := bcall BW15 hb (by omega)
          refine ⟨_, rfl, hb, ?_⟩
          skip
          have B16 : Below w.heap.size w w16 := bcall (by go_grown) hb (by go_size)
          have q16 : w15.heap.size + 0 ≤ w16.heap.size := hb.size
          replace H := Lib.hid (H.out.below hb (Nat.le_refl _))
          replace K := Lib.hid (K.out.below hb (Nat.le_refl _))
          replace M := Lib.hid (M.out.below hb (Nat.le_refl _))
          replace RU := Lib.hid (RU.out.below hb (Nat.le_refl _))
          replace RI := Lib.hid (RI.out.below hb (Nat.le_refl _))
          replace RC := Lib.hid (RC.out.below hb (Nat.le_refl _))
          replace X := (X).below hb (by go_size)
          replace Y := (Y).below hb (by go_size)
          replace Z := (Z).below hb (by go_size)
          replace U := (U).below hb (by go_size)
          replace F1 := (F1).below hb (by go_size)
          replace I := (I).below hb (by go_size)
          replace F2 := (F2).below hb (by go_size)
          replace C := (C).below hb (by go_size)
          replace F3 := (F3).below hb (by go_size)
          clear hb
          have s16 : w.heap.size ≤ w16.heap.size := B16.size
          clear Xc Xf Xl Yc Yf Yl Zc Zf Zl Uc Uf Ul F1c F1f F1l Ic If Il F2c F2f F2l Cc Cf Cl F3c F3f F3l
          obtain ⟨Xc, Xf, Xl⟩ := id X
          obtain ⟨Yc, Yf, Yl⟩ := id Y
          obtain ⟨Zc, Zf, Zl⟩ := id Z
          obtain ⟨Uc, Uf, Ul⟩ := id U
          obtain ⟨F1c, F1f, F1l⟩ := id F1
          obtain ⟨Ic, If, Il⟩ := id I
          obtain ⟨F2c, F2f, F2l⟩ := id F2
          obtain ⟨Cc, Cf, Cl⟩ := id C
          obtain ⟨F3c, F3f, F3l⟩ := id F3
          try simp only [Act.put, List.setIfInBounds_toArray, List.set]
          repeat (first | (refine wpI_rd rfl rfl ?_; go_big_quiet_step (fail); refine wpQuiet_nil ?_) | (refine wpI_skip rfl rfl ?_; try simp only [Act.put, List.setIfInBounds_toArray, List.set]))
          try simp only [Act.put, List.setIfInBounds_toArray, List.set]
          refine wpI_call (f := 32) rfl rfl rfl (by simp [go_sem]; rfl) ?_
          refine (DA.out _ H.out M.out).mono ?_
          rintro e w17 ⟨rfl, hb⟩
          have BW17 : Below w11.heap.size w11 w17 := bcall BW16 hb (by omega)
          refine ⟨_, rfl, hb, ?_⟩
          skip
          have B17 : Below w.heap.size w w17 := bcall (by go_grown) hb (by go_size)
          have q17 : w16.heap.size + 0 ≤ w17.heap.size := hb.size
          replace H := Lib.hid (H.out.below hb (Nat.le_refl _))
          replace K := Lib.hid (K.out.below hb (Nat.le_refl _))
          replace M := Lib.hid (M.out.below hb (Nat.le_refl _))
          replace RU := Lib.hid (RU.out.below hb (Nat.le_refl _))
          replace RI := Lib.hid (RI.out.below hb (Nat.le_refl _))
          replace RC := Lib.hid (RC.out.below hb (Nat.le_refl _))
          replace X := (X).below hb (by go_size)
          replace Y := (Y).below hb (by go_size)
          replace Z := (Z).below hb (by go_size)
          replace U := (U).below hb (by go_size)
          replace F1 := (F1).below hb (by go_size)
          replace I := (I).below hb (by go_size)
          replace F2 := (F2).below hb (by go_size)
          replace C := (C).below hb (by go_size)
          replace F3 := (F3).below hb (by go_size)
          clear hb
          have s17 : w.heap.size ≤ w17.heap.size := B17.size
          clear Xc Xf Xl Yc Yf Yl Zc Zf Zl Uc Uf Ul F1c F1f F1l Ic If Il F2c F2f F2l Cc Cf Cl F3c F3f F3l
          obtain ⟨Xc, Xf, Xl⟩ := id X
          obtain ⟨Yc, Yf, Yl⟩ := id Y
          obtain ⟨Zc, Zf, Zl⟩ := id Z
          obtain ⟨Uc, Uf, Ul⟩ := id U
          obtain ⟨F1c, F1f, F1l⟩ := id F1
          obtain ⟨Ic, If, Il⟩ := id I
          obtain ⟨F2c, F2f, F2l⟩ := id F2
          obtain ⟨Cc, Cf, Cl⟩ := id C
          obtain ⟨F3c, F3f, F3l⟩ := id F3
          try simp only [Act.put, List.setIfInBounds_toArray, List.set]
          repeat (first | (refine wpI_rd rfl rfl ?_; go_big_quiet_step (fail); refine wpQuiet_nil ?_) | (refine wpI_skip rfl rfl ?_; try simp only [Act.put, List.setIfInBounds_toArray, List.set]))
          try simp only [Act.put, List.setIfInBounds_toArray, List.set]
          refine wpI_nil ?_
          try simp only [Act.put, List.setIfInBounds_toArray, List.set]
          go_wp2_with fail
          go_meet
          exact ⟨rfl, X, Z, C, F3, BW17⟩
      · skip
        cases ba with
        | true =>
         cases bb with
         | true =>
          have e1 := E1.out z1
          obtain rfl : bu = true := e1
          subst z1
          have u1 : ((0 : Int) == 0) = true := rfl
          have u2 : (f2 == 0) = false := beqF z2
          clear E1 E2
          have BW12 : Below w11.heap.size w11 w11 := Below.refl _ _
          refine wp_region_ord [0, 1, 2, 3, 4, 5, 7, 8, 6, 9, 10, 11, 12, 13, 14, 15, 16, 17, 18, 19, 20, 21, 22, 23, 25, 26, 24, 27, 28, 29, 30, 31, 32, 33, 34, 35] (by kernel_rfl) (by kernel_rfl) ?_
          have B12 : Below w.heap.size w w11.drew := by go_grown
          have q12 : w11.heap.size + 0 ≤ w11.drew.heap.size := by simp only [World.size_drew]; omega
          replace H := Lib.hid (H.out.below (Below.refl _ _).drew (Nat.le_refl _))
          replace K := Lib.hid (K.out.below (Below.refl _ _).drew (Nat.le_refl _))
          replace M := Lib.hid (M.out.below (Below.refl _ _).drew (Nat.le_refl _))
          replace RU := Lib.hid (RU.out.below (Below.refl _ _).drew (Nat.le_refl _))
          replace RI := Lib.hid (RI.out.below (Below.refl _ _).drew (Nat.le_refl _))
          replace RC := Lib.hid (RC.out.below (Below.refl _ _).drew (Nat.le_refl _))
          replace X := X.drew
          replace Y := Y.drew
          replace Z := Z.drew
          replace U := U.drew
          replace F1 := F1.drew
          replace I := I.drew
          replace F2 := F2.drew
          replace C := C.drew
          replace F3 := F3.drew
          replace BW12 := (show Below w11.heap.size w11 w11.drew from by go_grown)
          clear Xc Xf Xl Yc Yf Yl Zc Zf Zl Uc Uf Ul F1c F1f F1l Ic If Il F2c F2f F2l Cc Cf Cl F3c F3f F3l
          generalize w11.drew = w12 at *
          have s12 : w.heap.size ≤ w12.heap.size := B12.size
          obtain ⟨Xc, Xf, Xl⟩ := id X
          obtain ⟨Yc, Yf, Yl⟩ := id Y
          obtain ⟨Zc, Zf, Zl⟩ := id Z
          obtain ⟨Uc, Uf, Ul⟩ := id U
          obtain ⟨F1c, F1f, F1l⟩ := id F1
          obtain ⟨Ic, If, Il⟩ := id I
          obtain ⟨F2c, F2f, F2l⟩ := id F2
          obtain ⟨Cc, Cf, Cl⟩ := id C
          obtain ⟨F3c, F3f, F3l⟩ := id F3
          repeat (first | (refine wpI_rd rfl rfl ?_; go_big_quiet_step (fail); refine wpQuiet_nil ?_) | (refine wpI_skip rfl rfl ?_; try simp only [Act.put, List.setIfInBounds_toArray, List.set]))
          try simp only
          refine wpI_call (f := 32) rfl rfl rfl (by simp [go_sem]; rfl) ?_
          refine (D1.out _ _ _ RU.out M.out).mono ?_
          rintro e w13 ⟨rfl, hb⟩
          have BW13 : Below w11.heap.size w11 w13 := bcall BW12 hb (by omega)
          refine ⟨_, rfl, hb, ?_⟩
          skip
          have B13 : Below w.heap.size w w13 := bcall (by go_grown) hb (by go_size)
          have q13 : w12.heap.size + 0 ≤ w13.heap.size := hb.size
          replace H := Lib.hid (H.out.below hb (Nat.le_refl _))
          replace K := Lib.hid (K.out.below hb (Nat.le_refl _))
          replace M := Lib.hid (M.out.below hb (Nat.le_refl _))
          replace RU := Lib.hid (RU.out.below hb (Nat.le_refl _))
          replace RI := Lib.hid (RI.out.below hb (Nat.le_refl _))
          replace RC := Lib.hid (RC.out.below hb (Nat.le_refl _))
          replace X := (X).below hb (by go_size)
          replace Y := (Y).below hb (by go_size)
          replace Z := (Z).below hb (by go_size)
          replace U := (U).below hb (by go_size)
          replace F1 := (F1).below hb (by go_size)
          replace I := (I).below hb (by go_size)
          replace F2 := (F2).below hb (by go_size)
          replace C := (C).below hb (by go_size)
          replace F3 := (F3).below hb (by go_size)
          clear hb
          have s13 : w.heap.size ≤ w13.heap.size := B13.size
          clear Xc Xf Xl Yc Yf Yl Zc Zf Zl Uc Uf Ul F1c F1f F1l Ic If Il F2c F2f F2l Cc Cf Cl F3c F3f F3l
          obtain ⟨Xc, Xf, Xl⟩ := id X
          obtain ⟨Yc, Yf, Yl⟩ := id Y
          obtain ⟨Zc, Zf, Zl⟩ := id Z
          obtain ⟨Uc, Uf, Ul⟩ := id U
          obtain ⟨F1c, F1f, F1l⟩ := id F1
          obtain ⟨Ic, If, Il⟩ := id I
          obtain ⟨F2c, F2f, F2l⟩ := id F2
          obtain ⟨Cc, Cf, Cl⟩ := id C
          obtain ⟨F3c, F3f, F3l⟩ := id F3
          try simp only [Act.put, List.setIfInBounds_toArray, List.set]
          repeat (first | (refine wpI_rd rfl rfl ?_; go_big_quiet_step (fail); refine wpQuiet_nil ?_) | (refine wpI_skip rfl rfl ?_; try simp only [Act.put, List.setIfInBounds_toArray, List.set]))
          try simp only [Act.put, List.setIfInBounds_toArray, List.set]
          refine wpI_call (f := 32) rfl rfl rfl (by simp [go_sem]; rfl) ?_
          refine (DA.out _ H.out M.out).mono ?_
          rintro e w14 ⟨rfl, hb⟩
          have BW14 : Below w11.heap.size w11 w14 := bcall BW13 hb (by omega)
          refine ⟨_, rfl, hb, ?_⟩
          skip
          have B14 : Below w.heap.size w w14 := bcall (by go_grown) hb (by go_size)
          have q14 : w13.heap.size + 0 ≤ w14.heap.size := hb.size
          replace H := Lib.hid (H.out.below hb (Nat.le_refl _))
          replace K := Lib.hid (K.out.below hb (Nat.le_refl _))
          replace M := Lib.hid (M.out.below hb (Nat.le_refl _))
          replace RU := Lib.hid (RU.out.below hb (Nat.le_refl _))
          replace RI := Lib.hid (RI.out.below hb (Nat.le_refl _))
          replace RC := Lib.hid (RC.out.below hb (Nat.le_refl _))
          replace X := (X).below hb (by go_size)
          replace Y := (Y).below hb (by go_size)
          replace Z := (Z).below hb (by go_size)
          replace U := (U).below hb (by go_size)
          replace F1 := (F1).below hb (by go_size)
          replace I := (I).below hb (by go_size)
          replace F2 := (F2).below hb (by go_size)
          replace C := (C).below hb (by go_size)
          replace F3 := (F3).below hb (by go_size)
          clear hb
          have s14 : w.heap.size ≤ w14.heap.size := B14.size
          clear Xc Xf Xl Yc Yf Yl Zc Zf Zl Uc Uf Ul F1c F1f F1l Ic If Il F2c F2f F2l Cc Cf Cl F3c F3f F3l
          obtain ⟨Xc, Xf, Xl⟩ := id X
          obtain ⟨Yc, Yf, Yl⟩ := id Y
          obtain ⟨Zc, Zf, Zl⟩ := id Z
          obtain ⟨Uc, Uf, Ul⟩ := id U
          obtain ⟨F1c, F1f, F1l⟩ := id F1
          obtain ⟨Ic, If, Il⟩ := id I
          obtain ⟨F2c, F2f, F2l⟩ := id F2
          obtain ⟨Cc, Cf, Cl⟩ := id C
          obtain ⟨F3c, F3f, F3l⟩ := id F3
          try simp only [Act.put, List.setIfInBounds_toArray, List.set]
          repeat (first | (refine wpI_rd rfl rfl ?_; go_big_quiet_step (fail); refine wpQuiet_nil ?_) | (refine wpI_skip rfl rfl ?_; try simp only [Act.put, List.setIfInBounds_toArray, List.set]))
          try simp only [Act.put, List.setIfInBounds_toArray, List.set]
          refine wpI_nil ?_
          try simp only [Act.put, List.setIfInBounds_toArray, List.set]
          go_wp2_with fail
          go_meet
          exact ⟨rfl, X, Z, C, F3, BW14⟩
         | false =>
          have e1 := E1.out z1
          obtain rfl : bu = true := e1
          subst z1
          have u1 : ((0 : Int) == 0) = true := rfl
          have u2 : (f2 == 0) = false := beqF z2
          clear E1 E2
          have BW12 : Below w11.heap.size w11 w11 := Below.refl _ _
          refine wp_region_ord [0, 1, 2, 3, 4, 5, 7, 8, 6, 9, 10, 11, 12, 13, 14, 15, 16, 17, 18, 19, 20, 21, 22, 23, 25, 26, 24, 27, 28, 29, 30, 31, 32, 33, 34, 35] (by kernel_rfl) (by kernel_rfl) ?_
          have B12 : Below w.heap.size w w11.drew := by go_grown
          have q12 : w11.heap.size + 0 ≤ w11.drew.heap.size := by simp only [World.size_drew]; omega
          replace H := Lib.hid (H.out.below (Below.refl _ _).drew (Nat.le_refl _))
          replace K := Lib.hid (K.out.below (Below.refl _ _).drew (Nat.le_refl _))
          replace M := Lib.hid (M.out.below (Below.refl _ _).drew (Nat.le_refl _))
          replace RU := Lib.hid (RU.out.below (Below.refl _ _).drew (Nat.le_refl _))
          replace RI := Lib.hid (RI.out.below (Below.refl _ _).drew (Nat.le_refl _))
          replace RC := Lib.hid (RC.out.below (Below.refl _ _).drew (Nat.le_refl _))
          replace X := X.drew
          replace Y := Y.drew
          replace Z := Z.drew
          replace U := U.drew
          replace F1 := F1.drew
          replace I := I.drew
          replace F2 := F2.drew
          replace C := C.drew
          replace F3 := F3.drew
          replace BW12 := (show Below w11.heap.size w11 w11.drew from by go_grown)
          clear Xc Xf Xl Yc Yf Yl Zc Zf Zl Uc Uf Ul F1c F1f F1l Ic If Il F2c F2f F2l Cc Cf Cl F3c F3f F3l
          generalize w11.drew = w12 at *
          have s12 : w.heap.size ≤ w12.heap.size := B12.size
          obtain ⟨Xc, Xf, Xl⟩ := id X
          obtain ⟨Yc, Yf, Yl⟩ := id Y
          obtain ⟨Zc, Zf, Zl⟩ := id Z
          obtain ⟨Uc, Uf, Ul⟩ := id U
          obtain ⟨F1c, F1f, F1l⟩ := id F1
          obtain ⟨Ic, If, Il⟩ := id I
          obtain ⟨F2c, F2f, F2l⟩ := id F2
          obtain ⟨Cc, Cf, Cl⟩ := id C
          obtain ⟨F3c, F3f, F3l⟩ := id F3
          repeat (first | (refine wpI_rd rfl rfl ?_; go_big_quiet_step (fail); refine wpQuiet_nil ?_) | (refine wpI_skip rfl rfl ?_; try simp only [Act.put, List.setIfInBounds_toArray, List.set]))
          try simp only
          refine wpI_call (f := 32) rfl rfl rfl (by simp [go_sem]; rfl) ?_
          refine (D1.out _ _ _ RU.out M.out).mono ?_
          rintro e w13 ⟨rfl, hb⟩
          have BW13 : Below w11.heap.size w11 w13 := bcall BW12 hb (by omega)
          refine ⟨_, rfl, hb, ?_⟩
          skip
          have B13 : Below w.heap.size w w13 := bcall (by go_grown) hb (by go_size)
          have q13 : w12.heap.size + 0 ≤ w13.heap.size := hb.size
          replace H := Lib.hid (H.out.below hb (Nat.le_refl _))
          replace K := Lib.hid (K.out.below hb (Nat.le_refl _))
          replace M := Lib.hid (M.out.below hb (Nat.le_refl _))
          replace RU := Lib.hid (RU.out.below hb (Nat.le_refl _))
          replace RI := Lib.hid (RI.out.below hb (Nat.le_refl _))
          replace RC := Lib.hid (RC.out.below hb (Nat.le_refl _))
          replace X := (X).below hb (by go_size)
          replace Y := (Y).below hb (by go_size)
          replace Z := (Z).below hb (by go_size)
          replace U := (U).below hb (by go_size)
          replace F1 := (F1).below hb (by go_size)
          replace I := (I).below hb (by go_size)
          replace F2 := (F2).below hb (by go_size)
          replace C := (C).below hb (by go_size)
          replace F3 := (F3).below hb (by go_size)
          clear hb
          have s13 : w.heap.size ≤ w13.heap.size := B13.size
          clear Xc Xf Xl Yc Yf Yl Zc Zf Zl Uc Uf Ul F1c F1f F1l Ic If Il F2c F2f F2l Cc Cf Cl F3c F3f F3l
          obtain ⟨Xc, Xf, Xl⟩ := id X
          obtain ⟨Yc, Yf, Yl⟩ := id Y
          obtain ⟨Zc, Zf, Zl⟩ := id Z
          obtain ⟨Uc, Uf, Ul⟩ := id U
          obtain ⟨F1c, F1f, F1l⟩ := id F1
          obtain ⟨Ic, If, Il⟩ := id I
          obtain ⟨F2c, F2f, F2l⟩ := id F2
          obtain ⟨Cc, Cf, Cl⟩ := id C
          obtain ⟨F3c, F3f, F3l⟩ := id F3
          try simp only [Act.put, List.setIfInBounds_toArray, List.set]
          repeat (first | (refine wpI_rd rfl rfl ?_; go_big_quiet_step (fail); refine wpQuiet_nil ?_) | (refine wpI_skip rfl rfl ?_; try simp only [Act.put, List.setIfInBounds_toArray, List.set]))
          try simp only [Act.put, List.setIfInBounds_toArray, List.set]
          refine wpI_call (f := 32) rfl rfl rfl (by simp [go_sem]; rfl) ?_
          refine (DA.out _ H.out M.out).mono ?_
          rintro e w14 ⟨rfl, hb⟩
          have BW14 : Below w11.heap.size w11 w14 := bcall BW13 hb (by omega)
          refine ⟨_, rfl, hb, ?_⟩
          skip
          have B14 : Below w.heap.size w w14 := bcall (by go_grown) hb (by go_size)
          have q14 : w13.heap.size + 0 ≤ w14.heap.size := hb.size
          replace H := Lib.hid (H.out.below hb (Nat.le_refl _))
          replace K := Lib.hid (K.out.below hb (Nat.le_refl _))
          replace M := Lib.hid (M.out.below hb (Nat.le_refl _))
          replace RU := Lib.hid (RU.out.below hb (Nat.le_refl _))
          replace RI := Lib.hid (RI.out.below hb (Nat.le_refl _))
          replace RC := Lib.hid (RC.out.below hb (Nat.le_refl _))
          replace X := (X).below hb (by go_size)
          replace Y := (Y).below hb (by go_size)
          replace Z := (Z).below hb (by go_size)
          replace U := (U).below hb (by go_size)
          replace F1 := (F1).below hb (by go_size)
          replace I := (I).below hb (by go_size)
          replace F2 := (F2).below hb (by go_size)
          replace C := (C).below hb (by go_size)
          replace F3 := (F3).below hb (by go_size)
          clear hb
          have s14 : w.heap.size ≤ w14.heap.size := B14.size
          clear Xc Xf Xl Yc Yf Yl Zc Zf Zl Uc Uf Ul F1c F1f F1l Ic If Il F2c F2f F2l Cc Cf Cl F3c F3f F3l
          obtain ⟨Xc, Xf, Xl⟩ := id X
          obtain ⟨Yc, Yf, Yl⟩ := id Y
          obtain ⟨Zc, Zf, Zl⟩ := id Z
          obtain ⟨Uc, Uf, Ul⟩ := id U
          obtain ⟨F1c, F1f, F1l⟩ := id F1
          obtain ⟨Ic, If, Il⟩ := id I
          obtain ⟨F2c, F2f, F2l⟩ := id F2
          obtain ⟨Cc, Cf, Cl⟩ := id C
          obtain ⟨F3c, F3f, F3l⟩ := id F3
          try simp only [Act.put, List.setIfInBounds_toArray, List.set]
          repeat (first | (refine wpI_rd rfl rfl ?_; go_big_quiet_step (fail); refine wpQuiet_nil ?_) | (refine wpI_skip rfl rfl ?_; try simp only [Act.put, List.setIfInBounds_toArray, List.set]))
          try simp only [Act.put, List.setIfInBounds_toArray, List.set]
          refine wpI_nil ?_
          try simp only [Act.put, List.setIfInBounds_toArray, List.set]
          go_wp2_with fail
          go_meet
          exact ⟨rfl, X, Z, C, F3, BW14⟩
        | false =>
         cases bb with
         | true =>
          have e1 := E1.out z1
          obtain rfl : bu = true := e1
          subst z1
          have u1 : ((0 : Int) == 0) = true := rfl
          have u2 : (f2 == 0) = false := beqF z2
          clear E1 E2
          have BW12 : Below w11.heap.size w11 w11 := Below.refl _ _
          refine wp_region_ord [0, 1, 2, 3, 4, 5, 7, 8, 6, 9, 10, 11, 12, 13, 14, 15, 16, 17, 18, 19, 20, 21, 22, 23, 25, 26, 24, 27, 28, 29, 30, 31, 32, 33, 34, 35] (by kernel_rfl) (by kernel_rfl) ?_
          have B12 : Below w.heap.size w w11.drew := by go_grown
          have q12 : w11.heap.size + 0 ≤ w11.drew.heap.size := by simp only [World.size_drew]; omega
          replace H := Lib.hid (H.out.below (Below.refl _ _).drew (Nat.le_refl _))
          replace K := Lib.hid (K.out.below (Below.refl _ _).drew (Nat.le_refl _))
          replace M := Lib.hid (M.out.below (Below.refl _ _).drew (Nat.le_refl _))
          replace RU := Lib.hid (RU.out.below (Below.refl _ _).drew (Nat.le_refl _))
          replace RI := Lib.hid (RI.out.below (Below.refl _ _).drew (Nat.le_refl _))
          replace RC := Lib.hid (RC.out.below (Below.refl _ _).drew (Nat.le_refl _))
          replace X := X.drew
          replace Y := Y.drew
          replace Z := Z.drew
          replace U := U.drew
          replace F1 := F1.drew
          replace I := I.drew
          replace F2 := F2.drew
          replace C := C.drew
          replace F3 := F3.drew
          replace BW12 := (show Below w11.heap.size w11 w11.drew from by go_grown)
          clear Xc Xf Xl Yc Yf Yl Zc Zf Zl Uc Uf Ul F1c F1f F1l Ic If Il F2c F2f F2l Cc Cf Cl F3c F3f F3l
          generalize w11.drew = w12 at *
          have s12 : w.heap.size ≤ w12.heap.size := B12.size
          obtain ⟨Xc, Xf, Xl⟩ := id X
          obtain ⟨Yc, Yf, Yl⟩ := id Y
          obtain ⟨Zc, Zf, Zl⟩ := id Z
          obtain ⟨Uc, Uf, Ul⟩ := id U
          obtain ⟨F1c, F1f, F1l⟩ := id F1
          obtain ⟨Ic, If, Il⟩ := id I
          obtain ⟨F2c, F2f, F2l⟩ := id F2
          obtain ⟨Cc, Cf, Cl⟩ := id C
          obtain ⟨F3c, F3f, F3l⟩ := id F3
          repeat (first | (refine wpI_rd rfl rfl ?_; go_big_quiet_step (fail); refine wpQuiet_nil ?_) | (refine wpI_skip rfl rfl ?_; try simp only [Act.put, List.setIfInBounds_toArray, List.set]))
          try simp only
          refine wpI_call (f := 32) rfl rfl rfl (by simp [go_sem]; rfl) ?_
          refine (D1.out _ _ _ RU.out M.out).mono ?_
          rintro e w13 ⟨rfl, hb⟩
          have BW13 : Below w11.heap.size w11 w13 := bcall BW12 hb (by omega)
          refine ⟨_, rfl, hb, ?_⟩
          skip
          have B13 : Below w.heap.size w w13 := bcall (by go_grown) hb (by go_size)
          have q13 : w12.heap.size + 0 ≤ w13.heap.size := hb.size
          replace H := Lib.hid (H.out.below hb (Nat.le_refl _))
          replace K := Lib.hid (K.out.below hb (Nat.le_refl _))
          replace M := Lib.hid (M.out.below hb (Nat.le_refl _))
          replace RU := Lib.hid (RU.out.below hb (Nat.le_refl _))
          replace RI := Lib.hid (RI.out.below hb (Nat.le_refl _))
          replace RC := Lib.hid (RC.out.below hb (Nat.le_refl _))
          replace X := (X).below hb (by go_size)
          replace Y := (Y).below hb (by go_size)
          replace Z := (Z).below hb (by go_size)
          replace U := (U).below hb (by go_size)
          replace F1 := (F1).below hb (by go_size)
          replace I := (I).below hb (by go_size)
          replace F2 := (F2).below hb (by go_size)
          replace C := (C).below hb (by go_size)
          replace F3 := (F3).below hb (by go_size)
          clear hb
          have s13 : w.heap.size ≤ w13.heap.size := B13.size
          clear Xc Xf Xl Yc Yf Yl Zc Zf Zl Uc Uf Ul F1c F1f F1l Ic If Il F2c F2f F2l Cc Cf Cl F3c F3f F3l
          obtain ⟨Xc, Xf, Xl⟩ := id X
          obtain ⟨Yc, Yf, Yl⟩ := id Y
          obtain ⟨Zc, Zf, Zl⟩ := id Z
          obtain ⟨Uc, Uf, Ul⟩ := id U
          obtain ⟨F1c, F1f, F1l⟩ := id F1
          obtain ⟨Ic, If, Il⟩ := id I
          obtain ⟨F2c, F2f, F2l⟩ := id F2
          obtain ⟨Cc, Cf, Cl⟩ := id C
          obtain ⟨F3c, F3f, F3l⟩ := id F3
          try simp only [Act.put, List.setIfInBounds_toArray, List.set]
          repeat (first | (refine wpI_rd rfl rfl ?_; go_big_quiet_step (fail); refine wpQuiet_nil ?_) | (refine wpI_skip rfl rfl ?_; try simp only [Act.put, List.setIfInBounds_toArray, List.set]))
          try simp only [Act.put, List.setIfInBounds_toArray, List.set]
          refine wpI_call (f := 32) rfl rfl rfl (by simp [go_sem]; rfl) ?_
          refine (DA.out _ H.out M.out).mono ?_
          rintro e w14 ⟨rfl, hb⟩
          have BW14 : Below w11.heap.size w11 w14 := bcall BW13 hb (by omega)
          refine ⟨_, rfl, hb, ?_⟩
          skip
          have B14 : Below w.heap.size w w14 := bcall (by go_grown) hb (by go_size)
          have q14 : w13.heap.size + 0 ≤ w14.heap.size := hb.size
          replace H := Lib.hid (H.out.below hb (Nat.le_refl _))
          replace K := Lib.hid (K.out.below hb (Nat.le_refl _))
          replace M := Lib.hid (M.out.below hb (Nat.le_refl _))
          replace RU := Lib.hid (RU.out.below hb (Nat.le_refl _))
          replace RI := Lib.hid (RI.out.below hb (Nat.le_refl _))
          replace RC := Lib.hid (RC.out.below hb (Nat.le_refl _))
          replace X := (X).below hb (by go_size)
          replace Y := (Y).below hb (by go_size)
          replace Z := (Z).below hb (by go_size)
          replace U := (U).below hb (by go_size)
          replace F1 := (F1).below hb (by go_size)
          replace I := (I).below hb (by go_size)
          replace F2 := (F2).below hb (by go_size)
          replace C := (C).below hb (by go_size)
          replace F3 := (F3).below hb (by go_size)
          clear hb
          have s14 : w.heap.size ≤ w14.heap.size := B14.size
          clear Xc Xf Xl Yc Yf Yl Zc Zf Zl Uc Uf Ul F1c F1f F1l Ic If Il F2c F2f F2l Cc Cf Cl F3c F3f F3l
          obtain ⟨Xc, Xf, Xl⟩ := id X
          obtain ⟨Yc, Yf, Yl⟩ := id Y
          obtain ⟨Zc, Zf, Zl⟩ := id Z
          obtain ⟨Uc, Uf, Ul⟩ := id U
          obtain ⟨F1c, F1f, F1l⟩ := id F1
          obtain ⟨Ic, If, Il⟩ := id I
          obtain ⟨F2c, F2f, F2l⟩ := id F2
          obtain ⟨Cc, Cf, Cl⟩ := id C
          obtain ⟨F3c, F3f, F3l⟩ := id F3
          try simp only [Act.put, List.setIfInBounds_toArray, List.set]
          repeat (first | (refine wpI_rd rfl rfl ?_; go_big_quiet_step (fail); refine wpQuiet_nil ?_) | (refine wpI_skip rfl rfl ?_; try simp only [Act.put, List.setIfInBounds_toArray, List.set]))
          try simp only [Act.put, List.setIfInBounds_toArray, List.set]
          refine wpI_call (f := 32) rfl rfl rfl (by simp [go_sem]; rfl) ?_
          refine (DB.out _ K.out M.out).mono ?_
          rintro e w15 ⟨rfl, hb⟩
          have BW15 : Below w11.heap.size w11 w15 := bcall BW14 hb (by omega)
          refine ⟨_, rfl, hb, ?_⟩
          skip
          have B15 : Below w.heap.size w w15 := bcall (by go_grown) hb (by go_size)
          have q15 : w14.heap.size + 0 ≤ w15.heap.size := hb.size
          replace H := Lib.hid (H.out.below hb (Nat.le_refl _))
          replace K := Lib.hid (K.out.below hb (Nat.le_refl _))
          replace M := Lib.hid (M.out.below hb (Nat.le_refl _))
          replace RU := Lib.hid (RU.out.below hb (Nat.le_refl _))
          replace RI := Lib.hid (RI.out.below hb (Nat.le_refl _))
          replace RC := Lib.hid (RC.out.below hb (Nat.le_refl _))
          replace X := (X).below hb (by go_size)
          replace Y := (Y).below hb (by go_size)
          replace Z := (Z).below hb (by go_size)
          replace U := (U).below hb (by go_size)
          replace F1 := (F1).below hb (by go_size)
          replace I := (I).below hb (by go_size)
          replace F2 := (F2).below hb (by go_size)
          replace C := (C).below hb (by go_size)
          replace F3 := (F3).below hb (by go_size)
          clear hb
          have s15 : w.heap.size ≤ w15.heap.size := B15.size
          clear Xc Xf Xl Yc Yf Yl Zc Zf Zl Uc Uf Ul F1c F1f F1l Ic If Il F2c F2f F2l Cc Cf Cl F3c F3f F3l
          obtain ⟨Xc, Xf, Xl⟩ := id X
          obtain ⟨Yc, Yf, Yl⟩ := id Y
          obtain ⟨Zc, Zf, Zl⟩ := id Z
          obtain ⟨Uc, Uf, Ul⟩ := id U
          obtain ⟨F1c, F1f, F1l⟩ := id F1
          obtain ⟨Ic, If, Il⟩ := id I
          obtain ⟨F2c, F2f, F2l⟩ := id F2
          obtain ⟨Cc, Cf, Cl⟩ := id C
          obtain ⟨F3c, F3f, F3l⟩ := id F3
          try simp only [Act.put, List.setIfInBounds_toArray, List.set]
          repeat (first | (refine wpI_rd rfl rfl ?_; go_big_quiet_step (fail); refine wpQuiet_nil ?_) | (refine wpI_skip rfl rfl ?_; try simp only [Act.put, List.setIfInBounds_toArray, List.set]))
          try simp only [Act.put, List.setIfInBounds_toArray, List.set]
          refine wpI_nil ?_
          try simp only [Act.put, List.setIfInBounds_toArray, List.set]
          go_wp2_with fail
          go_meet
          exact ⟨rfl, X, Z, C, F3, BW15⟩
         | false =>
          have e1 := E1.out z1
          obtain rfl : bu = false := e1
          subst z1
          have u1 : ((0 : Int) == 0) = true := rfl
          have u2 : (f2 == 0) = false := beqF z2
          clear E1 E2
          have BW12 : Below w11.heap.size w11 w11 := Below.refl _ _
          refine wp_region_ord [0, 1, 2, 3, 4, 5, 7, 8, 6, 9, 10, 11, 12, 13, 14, 15, 16, 17, 18, 19, 20, 21, 22, 23, 25, 26, 24, 27, 28, 29, 30, 31, 32, 33, 34, 35] (by kernel_rfl) (by kernel_rfl) ?_
          have B12 : Below w.heap.size w w11.drew := by go_grown
          have q12 : w11.heap.size + 0 ≤ w11.drew.heap.size := by simp only [World.size_drew]; omega
          replace H := Lib.hid (H.out.below (Below.refl _ _).drew (Nat.le_refl _))
          replace K := Lib.hid (K.out.below (Below.refl _ _).drew (Nat.le_refl _))
          replace M := Lib.hid (M.out.below (Below.refl _ _).drew (Nat.le_refl _))
          replace RU := Lib.hid (RU.out.below (Below.refl _ _).drew (Nat.le_refl _))
          replace RI := Lib.hid (RI.out.below (Below.refl _ _).drew (Nat.le_refl _))
          replace RC := Lib.hid (RC.out.below (Below.refl _ _).drew (Nat.le_refl _))
          replace X := X.drew
          replace Y := Y.drew
          replace Z := Z.drew
          replace U := U.drew
          replace F1 := F1.drew
          replace I := I.drew
          replace F2 := F2.drew
          replace C := C.drew
          replace F3 := F3.drew
          replace BW12 := (show Below w11.heap.size w11 w11.drew from by go_grown)
          clear Xc Xf Xl Yc Yf Yl Zc Zf Zl Uc Uf Ul F1c F1f F1l Ic If Il F2c F2f F2l Cc Cf Cl F3c F3f F3l
          generalize w11.drew = w12 at *
          have s12 : w.heap.size ≤ w12.heap.size := B12.size
          obtain ⟨Xc, Xf, Xl⟩ := id X
          obtain ⟨Yc, Yf, Yl⟩ := id Y
          obtain ⟨Zc, Zf, Zl⟩ := id Z
          obtain ⟨Uc, Uf, Ul⟩ := id U
          obtain ⟨F1c, F1f, F1l⟩ := id F1
          obtain ⟨Ic, If, Il⟩ := id I
          obtain ⟨F2c, F2f, F2l⟩ := id F2
          obtain ⟨Cc, Cf, Cl⟩ := id C
          obtain ⟨F3c, F3f, F3l⟩ := id F3
          repeat (first | (refine wpI_rd rfl rfl ?_; go_big_quiet_step (fail); refine wpQuiet_nil ?_) | (refine wpI_skip rfl rfl ?_; try simp only [Act.put, List.setIfInBounds_toArray, List.set]))
          try simp only
          refine wpI_call (f := 32) rfl rfl rfl (by simp [go_sem]; rfl) ?_
          refine (D1.out _ _ _ RU.out M.out).mono ?_
          rintro e w13 ⟨rfl, hb⟩
          have BW13 : Below w11.heap.size w11 w13 := bcall BW12 hb (by omega)
          refine ⟨_, rfl, hb, ?_⟩
          skip
          have B13 : Below w.heap.size w w13 := bcall (by go_grown) hb (by go_size)
          have q13 : w12.heap.size + 0 ≤ w13.heap.size := hb.size
          replace H := Lib.hid (H.out.below hb (Nat.le_refl _))
          replace K := Lib.hid (K.out.below hb (Nat.le_refl _))
          replace M := Lib.hid (M.out.below hb (Nat.le_refl _))
          replace RU := Lib.hid (RU.out.below hb (Nat.le_refl _))
          replace RI := Lib.hid (RI.out.below hb (Nat.le_refl _))
          replace RC := Lib.hid (RC.out.below hb (Nat.le_refl _))
          replace X := (X).below hb (by go_size)
          replace Y := (Y).below hb (by go_size)
          replace Z := (Z).below hb (by go_size)
          replace U := (U).below hb (by go_size)
          replace F1 := (F1).below hb (by go_size)
          replace I := (I).below hb (by go_size)
          replace F2 := (F2).below hb (by go_size)
          replace C := (C).below hb (by go_size)
          replace F3 := (F3).below hb (by go_size)
          clear hb
          have s13 : w.heap.size ≤ w13.heap.size := B13.size
          clear Xc Xf Xl Yc Yf Yl Zc Zf Zl Uc Uf Ul F1c F1f F1l Ic If Il F2c F2f F2l Cc Cf Cl F3c F3f F3l
          obtain ⟨Xc, Xf, Xl⟩ := id X
          obtain ⟨Yc, Yf, Yl⟩ := id Y
          obtain ⟨Zc, Zf, Zl⟩ := id Z
          obtain ⟨Uc, Uf, Ul⟩ := id U
          obtain ⟨F1c, F1f, F1l⟩ := id F1
          obtain ⟨Ic, If, Il⟩ := id I
          obtain ⟨F2c, F2f, F2l⟩ := id F2
          obtain ⟨Cc, Cf, Cl⟩ := id C
          obtain ⟨F3c, F3f, F3l⟩ := id F3
          try simp only [Act.put, List.setIfInBounds_toArray, List.set]
          repeat (first | (refine wpI_rd rfl rfl ?_; go_big_quiet_step (fail); refine wpQuiet_nil ?_) | (refine wpI_skip rfl rfl ?_; try simp only [Act.put, List.setIfInBounds_toArray, List.set]))
          try simp only [Act.put, List.setIfInBounds_toArray, List.set]
          refine wpI_call (f := 32) rfl rfl rfl (by simp [go_sem]; rfl) ?_
          refine (DA.out _ H.out M.out).mono ?_
          rintro e w14 ⟨rfl, hb⟩
          have BW14 : Below w11.heap.size w11 w14 := bcall BW13 hb (by omega)
          refine ⟨_, rfl, hb, ?_⟩
          skip
          have B14 : Below w.heap.size w w14 := bcall (by go_grown) hb (by go_size)
          have q14 : w13.heap.size + 0 ≤ w14.heap.size := hb.size
          replace H := Lib.hid (H.out.below hb (Nat.le_refl _))
          replace K := Lib.hid (K.out.below hb (Nat.le_refl _))
          replace M := Lib.hid (M.out.below hb (Nat.le_refl _))
          replace RU := Lib.hid (RU.out.below hb (Nat.le_refl _))
          replace RI := Lib.hid (RI.out.below hb (Nat.le_refl _))
          replace RC := Lib.hid (RC.out.below hb (Nat.le_refl _))
          replace X := (X).below hb (by go_size)
          replace Y := (Y).below hb (by go_size)
          replace Z := (Z).below hb (by go_size)
          replace U := (U).below hb (by go_size)
          replace F1 := (F1).below hb (by go_size)
          replace I := (I).below hb (by go_size)
          replace F2 := (F2).below hb (by go_size)
          replace C := (C).below hb (by go_size)
          replace F3 := (F3).below hb (by go_size)
          clear hb
          have s14 : w.heap.size ≤ w14.heap.size := B14.size
          clear Xc Xf Xl Yc Yf Yl Zc Zf Zl Uc Uf Ul F1c F1f F1l Ic If Il F2c F2f F2l Cc Cf Cl F3c F3f F3l
          obtain ⟨Xc, Xf, Xl⟩ := id X
          obtain ⟨Yc, Yf, Yl⟩ := id Y
          obtain ⟨Zc, Zf, Zl⟩ := id Z
          obtain ⟨Uc, Uf, Ul⟩ := id U
          obtain ⟨F1c, F1f, F1l⟩ := id F1
          obtain ⟨Ic, If, Il⟩ := id I
          obtain ⟨F2c, F2f, F2l⟩ := id F2
          obtain ⟨Cc, Cf, Cl⟩ := id C
          obtain ⟨F3c, F3f, F3l⟩ := id F3
          try simp only [Act.put, List.setIfInBounds_toArray, List.set]
          repeat (first | (refine wpI_rd rfl rfl ?_; go_big_quiet_step (fail); refine wpQuiet_nil ?_) | (refine wpI_skip rfl rfl ?_; try simp only [Act.put, List.setIfInBounds_toArray, List.set]))
          try simp only [Act.put, List.setIfInBounds_toArray, List.set]
          refine wpI_call (f := 32) rfl rfl rfl (by simp [go_sem]; rfl) ?_
          refine (DB.out _ K.out M.out).mono ?_
          rintro e w15 ⟨rfl, hb⟩
          have BW15 : Below w11.heap.size w11 w15 := bcall BW14 hb (by omega)
          refine ⟨_, rfl, hb, ?_⟩
          skip
          have B15 : Below w.heap.size w w15 := bcall (by go_grown) hb (by go_size)
          have q15 : w14.heap.size + 0 ≤ w15.heap.size := hb.size
          replace H := Lib.hid (H.out.below hb (Nat.le_refl _))
          replace K := Lib.hid (K.out.below hb (Nat.le_refl _))
          replace M := Lib.hid (M.out.below hb (Nat.le_refl _))
          replace RU := Lib.hid (RU.out.below hb (Nat.le_refl _))
          replace RI := Lib.hid (RI.out.below hb (Nat.le_refl _))
          replace RC := Lib.hid (RC.out.below hb (Nat.le_refl _))
          replace X := (X).below hb (by go_size)
          replace Y := (Y).below hb (by go_size)
          replace Z := (Z).below hb (by go_size)
          replace U := (U).below hb (by go_size)
          replace F1 := (F1).below hb (by go_size)
          replace I := (I).below hb (by go_size)
          replace F2 := (F2).below hb (by go_size)
          replace C := (C).below hb (by go_size)
          replace F3 := (F3).below hb (by go_size)
          clear hb
          have s15 : w.heap.size ≤ w15.heap.size := B15.size
          clear Xc Xf Xl Yc Yf Yl Zc Zf Zl Uc Uf Ul F1c F1f F1l Ic If Il F2c F2f F2l Cc Cf Cl F3c F3f F3l
          obtain ⟨Xc, Xf, Xl⟩ := id X
          obtain ⟨Yc, Yf, Yl⟩ := id Y
          obtain ⟨Zc, Zf, Zl⟩ := id Z
          obtain ⟨Uc, Uf, Ul⟩ := id U
          obtain ⟨F1c, F1f, F1l⟩ := id F1
          obtain ⟨Ic, If, Il⟩ := id I
          obtain ⟨F2c, F2f, F2l⟩ := id F2
          obtain ⟨Cc, Cf, Cl⟩ := id C
          obtain ⟨F3c, F3f, F3l⟩ := id F3
          try simp only [Act.put, List.setIfInBounds_toArray, List.set]
          repeat (first | (refine wpI_rd rfl rfl ?_; go_big_quiet_step (fail); refine wpQuiet_nil ?_) | (refine wpI_skip rfl rfl ?_; try simp only [Act.put, List.setIfInBounds_toArray, List.set]))
          try simp only [Act.put, List.setIfInBounds_toArray, List.set]
          refine wpI_nil ?_
          try simp only [Act.put, List.setIfInBounds_toArray, List.set]
          go_wp2_with fail
          go_meet
          exact ⟨rfl, X, Z, C, F3, BW15⟩
    · skip
      by_cases z2 : f2 = 0
      · skip
        cases ba with
        | true =>
         cases bb with
         | true =>
          have u1 : (f1 == 0) = false := beqF z1
          have e2 := E2.out z2
          obtain rfl : bi = true := e2
          subst z2
          have u2 : ((0 : Int) == 0) = true := rfl
          clear E1 E2
          have BW12 : Below w11.heap.size w11 w11 := Below.refl _ _
          refine wp_region_ord [0, 1, 2, 3, 4, 5, 7, 8, 6, 9, 10, 11, 12, 13, 14, 15, 16, 17, 18, 19, 20, 21, 22, 23, 25, 26, 24, 27, 28, 29, 30, 31, 32, 33, 34, 35] (by kernel_rfl) (by kernel_rfl) ?_
          have B12 : Below w.heap.size w w11.drew := by go_grown
          have q12 : w11.heap.size + 0 ≤ w11.drew.heap.size := by simp only [World.size_drew]; omega
          replace H := Lib.hid (H.out.below (Below.refl _ _).drew (Nat.le_refl _))
          replace K := Lib.hid (K.out.below (Below.refl _ _).drew (Nat.le_refl _))
          replace M := Lib.hid (M.out.below (Below.refl _ _).drew (Nat.le_refl _))
          replace RU := Lib.hid (RU.out.below (Below.refl _ _).drew (Nat.le_refl _))
          replace RI := Lib.hid (RI.out.below (Below.refl _ _).drew (Nat.le_refl _))
          replace RC := Lib.hid (RC.out.below (Below.refl _ _).drew (Nat.le_refl _))
          replace X := X.drew
          replace Y := Y.drew
          replace Z := Z.drew
          replace U := U.drew
          replace F1 := F1.drew
          replace I := I.drew
          replace F2 := F2.drew
          replace C := C.drew
          replace F3 := F3.drew
          replace BW12 := (show Below w11.heap.size w11 w11.drew from by go_grown)
          clear Xc Xf Xl Yc Yf Yl Zc Zf Zl Uc Uf Ul F1c F1f F1l Ic If Il F2c F2f F2l Cc Cf Cl F3c F3f F3l
          generalize w11.drew = w12 at *
          have s12 : w.heap.size ≤ w12.heap.size := B12.size
          obtain ⟨Xc, Xf, Xl⟩ := id X
          obtain ⟨Yc, Yf, Yl⟩ := id Y
          obtain ⟨Zc, Zf, Zl⟩ := id Z
          obtain ⟨Uc, Uf, Ul⟩ := id U
          obtain ⟨F1c, F1f, F1l⟩ := id F1
          obtain ⟨Ic, If, Il⟩ := id I
          obtain ⟨F2c, F2f, F2l⟩ := id F2
          obtain ⟨Cc, Cf, Cl⟩ := id C
          obtain ⟨F3c, F3f, F3l⟩ := id F3
          repeat (first | (refine wpI_rd rfl rfl ?_; go_big_quiet_step (fail); refine wpQuiet_nil ?_) | (refine wpI_skip rfl rfl ?_; try simp only [Act.put, List.setIfInBounds_toArray, List.set]))
          try simp only [Act.put, List.setIfInBounds_toArray, List.set]
          refine wpI_call (f := 32) rfl rfl rfl (by simp [go_sem]; rfl) ?_
          refine (D2.out _ _ _ RI.out M.out).mono ?_
          rintro e w13 ⟨rfl, hb⟩
          have BW13 : Below w11.heap.size w11 w13 := bcall BW12 hb (by omega)
          refine ⟨_, rfl, hb, ?_⟩
          skip
          have B13 : Below w.heap.size w w13 := bcall (by go_grown) hb (by go_size)
          have q13 : w12.heap.size + 0 ≤ w13.heap.size := hb.size
          replace H := Lib.hid (H.out.below hb (Nat.le_refl _))
          replace K := Lib.hid (K.out.below hb (Nat.le_refl _))
          replace M := Lib.hid (M.out.below hb (Nat.le_refl _))
          replace RU := Lib.hid (RU.out.below hb (Nat.le_refl _))
          replace RI := Lib.hid (RI.out.below hb (Nat.le_refl _))
          replace RC := Lib.hid (RC.out.below hb (Nat.le_refl _))
          replace X := (X).below hb (by go_size)
          replace Y := (Y).below hb (by go_size)
          replace Z := (Z).below hb (by go_size)
          replace U := (U).below hb (by go_size)
          replace F1 := (F1).below hb (by go_size)
          replace I := (I).below hb (by go_size)
          replace F2 := (F2).below hb (by go_size)
          replace C := (C).below hb (by go_size)
          replace F3 := (F3).below hb (by go_size)
          clear hb
          have s13 : w.heap.size ≤ w13.heap.size := B13.size
          clear Xc Xf Xl Yc Yf Yl Zc Zf Zl Uc Uf Ul F1c F1f F1l Ic If Il F2c F2f F2l Cc Cf Cl F3c F3f F3l
          obtain ⟨Xc, Xf, Xl⟩ := id X
          obtain ⟨Yc, Yf, Yl⟩ := id Y
          obtain ⟨Zc, Zf, Zl⟩ := id Z
          obtain ⟨Uc, Uf, Ul⟩ := id U
          obtain ⟨F1c, F1f, F1l⟩ := id F1
          obtain ⟨Ic, If, Il⟩ := id I
          obtain ⟨F2c, F2f, F2l⟩ := id F2
          obtain ⟨Cc, Cf, Cl⟩ := id C
          obtain ⟨F3c, F3f, F3l⟩ := id F3
          try simp only [Act.put, List.setIfInBounds_toArray, List.set]
          repeat (first | (refine wpI_rd rfl rfl ?_; go_big_quiet_step (fail); refine wpQuiet_nil ?_) | (refine wpI_skip rfl rfl ?_; try simp only [Act.put, List.setIfInBounds_toArray, List.set]))
          try simp only [Act.put, List.setIfInBounds_toArray, List.set]
          refine wpI_call (f := 32) rfl rfl rfl (by simp [go_sem]; rfl) ?_
          refine (DA.out _ H.out M.out).mono ?_
          rintro e w14 ⟨rfl, hb⟩
          have BW14 : Below w11.heap.size w11 w14 := bcall BW13 hb (by omega)
          refine ⟨_, rfl, hb, ?_⟩
          skip
          have B14 : Below w.heap.size w w14 := bcall (by go_grown) hb (by go_size)
          have q14 : w13.heap.size + 0 ≤ w14.heap.size := hb.size
          replace H := Lib.hid (H.out.below hb (Nat.le_refl _))
          replace K := Lib.hid (K.out.below hb (Nat.le_refl _))
          replace M := Lib.hid (M.out.below hb (Nat.le_refl _))
          replace RU := Lib.hid (RU.out.below hb (Nat.le_refl _))
          replace RI := Lib.hid (RI.out.below hb (Nat.le_refl _))
          replace RC := Lib.hid (RC.out.below hb (Nat.le_refl _))
          replace X := (X).below hb (by go_size)
          replace Y := (Y).below hb (by go_size)
          replace Z := (Z).below hb (by go_size)
          replace U := (U).below hb (by go_size)
          replace F1 := (F1).below hb (by go_size)
          replace I := (I).below hb (by go_size)
          replace F2 := (F2).below hb (by go_size)
          replace C := (C).below hb (by go_size)
          replace F3 := (F3).below hb (by go_size)
          clear hb
          have s14 : w.heap.size ≤ w14.heap.size := B14.size
          clear Xc Xf Xl Yc Yf Yl Zc Zf Zl Uc Uf Ul F1c F1f F1l Ic If Il F2c F2f F2l Cc Cf Cl F3c F3f F3l
          obtain ⟨Xc, Xf, Xl⟩ := id X
          obtain ⟨Yc, Yf, Yl⟩ := id Y
          obtain ⟨Zc, Zf, Zl⟩ := id Z
          obtain ⟨Uc, Uf, Ul⟩ := id U
          obtain ⟨F1c, F1f, F1l⟩ := id F1
          obtain ⟨Ic, If, Il⟩ := id I
          obtain ⟨F2c, F2f, F2l⟩ := id F2
          obtain ⟨Cc, Cf, Cl⟩ := id C
          obtain ⟨F3c, F3f, F3l⟩ := id F3
          try simp only [Act.put, List.setIfInBounds_toArray, List.set]
          repeat (first | (refine wpI_rd rfl rfl ?_; go_big_quiet_step (fail); refine wpQuiet_nil ?_) | (refine wpI_skip rfl rfl ?_; try simp only [Act.put, List.setIfInBounds_toArray, List.set]))
          try simp only [Act.put, List.setIfInBounds_toArray, List.set]
          refine wpI_call (f := 32) rfl rfl rfl (by simp [go_sem]; rfl) ?_
          refine (DB.out _ K.out M.out).mono ?_
          rintro e w15 ⟨rfl, hb⟩
          have BW15 : Below w11.heap.size w11 w15 := bcall BW14 hb (by omega)
          refine ⟨_, rfl, hb, ?_⟩
          skip
          have B15 : Below w.heap.size w w15 := bcall (by go_grown) hb (by go_size)
          have q15 : w14.heap.size + 0 ≤ w15.heap.size := hb.size
          replace H := Lib.hid (H.out.below hb (Nat.le_refl _))
          replace K := Lib.hid (K.out.below hb (Nat.le_refl _))
          replace M := Lib.hid (M.out.below hb (Nat.le_refl _))
          replace RU := Lib.hid (RU.out.below hb (Nat.le_refl _))
          replace RI := Lib.hid (RI.out.below hb (Nat.le_refl _))
          replace RC := Lib.hid (RC.out.below hb (Nat.le_refl _))
          replace X := (X).below hb (by go_size)
          replace Y := (Y).below hb (by go_size)
          replace Z := (Z).below hb (by go_size)
          replace U := (U).below hb (by go_size)
          replace F1 := (F1).below hb (by go_size)
          replace I := (I).below hb (by go_size)
          replace F2 := (F2).below hb (by go_size)
          replace C := (C).below hb (by go_size)
          replace F3 := (F3).below hb (by go_size)
          clear hb
          have s15 : w.heap.size ≤ w15.heap.size := B15.size
          clear Xc Xf Xl Yc Yf Yl Zc Zf Zl Uc Uf Ul F1c F1f F1l Ic If Il F2c F2f F2l Cc Cf Cl F3c F3f F3l
          obtain ⟨Xc, Xf, Xl⟩ := id X
          obtain ⟨Yc, Yf, Yl⟩ := id Y
          obtain ⟨Zc, Zf, Zl⟩ := id Z
          obtain ⟨Uc, Uf, Ul⟩ := id U
          obtain ⟨F1c, F1f, F1l⟩ := id F1
          obtain ⟨Ic, If, Il⟩ := id I
          obtain ⟨F2c, F2f, F2l⟩ := id F2
          obtain ⟨Cc, Cf, Cl⟩ := id C
          obtain ⟨F3c, F3f, F3l⟩ := id F3
          try simp only [Act.put, List.setIfInBounds_toArray, List.set]
          repeat (first | (refine wpI_rd rfl rfl ?_; go_big_quiet_step (fail); refine wpQuiet_nil ?_) | (refine wpI_skip rfl rfl ?_; try simp only [Act.put, List.setIfInBounds_toArray, List.set]))
          try simp only [Act.put, List.setIfInBounds_toArray, List.set]
          refine wpI_nil ?_
          try simp only [Act.put, List.setIfInBounds_toArray, List.set]
          go_wp2_with fail
          go_meet
          exact ⟨rfl, X, Z, C, F3, BW15⟩
         | false =>
          have u1 : (f1 == 0) = false := beqF z1
          have e2 := E2.out z2
          obtain rfl : bi = false := e2
          subst z2
          have u2 : ((0 : Int) == 0) = true := rfl
          clear E1 E2
          have BW12 : Below w11.heap.size w11 w11 := Below.refl _ _
          refine wp_region_ord [0, 1, 2, 3, 4, 5, 7, 8, 6, 9, 10, 11, 12, 13, 14, 15, 16, 17, 18, 19, 20, 21, 22, 23, 25, 26, 24, 27, 28, 29, 30, 31, 32, 33, 34, 35] (by kernel_rfl) (by kernel_rfl) ?_
          have B12 : Below w.heap.size w w11.drew := by go_grown
          have q12 : w11.heap.size + 0 ≤ w11.drew.heap.size := by simp only [World.size_drew]; omega
          replace H := Lib.hid (H.out.below (Below.refl _ _).drew (Nat.le_refl _))
          replace K := Lib.hid (K.out.below (Below.refl _ _).drew (Nat.le_refl _))
          replace M := Lib.hid (M.out.below (Below.refl _ _).drew (Nat.le_refl _))
          replace RU := Lib.hid (RU.out.below (Below.refl _ _).drew (Nat.le_refl _))
          replace RI := Lib.hid (RI.out.below (Below.refl _ _).drew (Nat.le_refl _))
          replace RC := Lib.hid (RC.out.below (Below.refl _ _).drew (Nat.le_refl _))
          replace X := X.drew
          replace Y := Y.drew
          replace Z := Z.drew
          replace U := U.drew
          replace F1 := F1.drew
          replace I := I.drew
          replace F2 := F2.drew
          replace C := C.drew
          replace F3 := F3.drew
          replace BW12 := (show Below w11.heap.size w11 w11.drew from by go_grown)
          clear Xc Xf Xl Yc Yf Yl Zc Zf Zl Uc Uf Ul F1c F1f F1l Ic If Il F2c F2f F2l Cc Cf Cl F3c F3f F3l
          generalize w11.drew = w12 at *
          have s12 : w.heap.size ≤ w12.heap.size := B12.size
          obtain ⟨Xc, Xf, Xl⟩ := id X
          obtain ⟨Yc, Yf, Yl⟩ := id Y
          obtain ⟨Zc, Zf, Zl⟩ := id Z
          obtain ⟨Uc, Uf, Ul⟩ := id U
          obtain ⟨F1c, F1f, F1l⟩ := id F1
          obtain ⟨Ic, If, Il⟩ := id I
          obtain ⟨F2c, F2f, F2l⟩ := id F2
          obtain ⟨Cc, Cf, Cl⟩ := id C
          obtain ⟨F3c, F3f, F3l⟩ := id F3
          repeat (first | (refine wpI_rd rfl rfl ?_; go_big_quiet_step (fail); refine wpQuiet_nil ?_) | (refine wpI_skip rfl rfl ?_; try simp only [Act.put, List.setIfInBounds_toArray, List.set]))
          try simp only [Act.put, List.setIfInBounds_toArray, List.set]
          refine wpI_call (f := 32) rfl rfl rfl (by simp [go_sem]; rfl) ?_
          refine (D2.out _ _ _ RI.out M.out).mono ?_
          rintro e w13 ⟨rfl, hb⟩
          have BW13 : Below w11.heap.size w11 w13 := bcall BW12 hb (by omega)
          refine ⟨_, rfl, hb, ?_⟩
          skip
          have B13 : Below w.heap.size w w13 := bcall (by go_grown) hb (by go_size)
          have q13 : w12.heap.size + 0 ≤ w13.heap.size := hb.size
          replace H := Lib.hid (H.out.below hb (Nat.le_refl _))
          replace K := Lib.hid (K.out.below hb (Nat.le_refl _))
          replace M := Lib.hid (M.out.below hb (Nat.le_refl _))
          replace RU := Lib.hid (RU.out.below hb (Nat.le_refl _))
          replace RI := Lib.hid (RI.out.below hb (Nat.le_refl _))
          replace RC := Lib.hid (RC.out.below hb (Nat.le_refl _))
          replace X := (X).below hb (by go_size)
          replace Y := (Y).below hb (by go_size)
          replace Z := (Z).below hb (by go_size)
          replace U := (U).below hb (by go_size)
          replace F1 := (F1).below hb (by go_size)
          replace I := (I).below hb (by go_size)
          replace F2 := (F2).below hb (by go_size)
          replace C := (C).below hb (by go_size)
          replace F3 := (F3).below hb (by go_size)
          clear hb
          have s13 : w.heap.size ≤ w13.heap.size := B13.size
          clear Xc Xf Xl Yc Yf Yl Zc Zf Zl Uc Uf Ul F1c F1f F1l Ic If Il F2c F2f F2l Cc Cf Cl F3c F3f F3l
          obtain ⟨Xc, Xf, Xl⟩ := id X
          obtain ⟨Yc, Yf, Yl⟩ := id Y
          obtain ⟨Zc, Zf, Zl⟩ := id Z
          obtain ⟨Uc, Uf, Ul⟩ := id U
          obtain ⟨F1c, F1f, F1l⟩ := id F1
          obtain ⟨Ic, If, Il⟩ := id I
          obtain ⟨F2c, F2f, F2l⟩ := id F2
          obtain ⟨Cc, Cf, Cl⟩ := id C
          obtain ⟨F3c, F3f, F3l⟩ := id F3
          try simp only [Act.put, List.setIfInBounds_toArray, List.set]
          repeat (first | (refine wpI_rd rfl rfl ?_; go_big_quiet_step (fail); refine wpQuiet_nil ?_) | (refine wpI_skip rfl rfl ?_; try simp only [Act.put, List.setIfInBounds_toArray, List.set]))
          try simp only [Act.put, List.setIfInBounds_toArray, List.set]
          refine wpI_call (f := 32) rfl rfl rfl (by simp [go_sem]; rfl) ?_
          refine (DA.out _ H.out M.out).mono ?_
          rintro e w14 ⟨rfl, hb⟩
          have BW14 : Below w11.heap.size w11 w14 := bcall BW13 hb (by omega)
          refine ⟨_, rfl, hb, ?_⟩
          skip
          have B14 : Below w.heap.size w w14 := bcall (by go_grown) hb (by go_size)
          have q14 : w13.heap.size + 0 ≤ w14.heap.size := hb.size
          replace H := Lib.hid (H.out.below hb (Nat.le_refl _))
          replace K := Lib.hid (K.out.below hb (Nat.le_refl _))
          replace M := Lib.hid (M.out.below hb (Nat.le_refl _))
          replace RU := Lib.hid (RU.out.below hb (Nat.le_refl _))
          replace RI := Lib.hid (RI.out.below hb (Nat.le_refl _))
          replace RC := Lib.hid (RC.out.below hb (Nat.le_refl _))
          replace X := (X).below hb (by go_size)
          replace Y := (Y).below hb (by go_size)
          replace Z := (Z).below hb (by go_size)
          replace U := (U).below hb (by go_size)
          replace F1 := (F1).below hb (by go_size)
          replace I := (I).below hb (by go_size)
          replace F2 := (F2).below hb (by go_size)
          replace C := (C).below hb (by go_size)
          replace F3 := (F3).below hb (by go_size)
          clear hb
          have s14 : w.heap.size ≤ w14.heap.size := B14.size
          clear Xc Xf Xl Yc Yf Yl Zc Zf Zl Uc Uf Ul F1c F1f F1l Ic If Il F2c F2f F2l Cc Cf Cl F3c F3f F3l
          obtain ⟨Xc, Xf, Xl⟩ := id X
          obtain ⟨Yc, Yf, Yl⟩ := id Y
          obtain ⟨Zc, Zf, Zl⟩ := id Z
          obtain ⟨Uc, Uf, Ul⟩ := id U
          obtain ⟨F1c, F1f, F1l⟩ := id F1
          obtain ⟨Ic, If, Il⟩ := id I
          obtain ⟨F2c, F2f, F2l⟩ := id F2
          obtain ⟨Cc, Cf, Cl⟩ := id C
          obtain ⟨F3c, F3f, F3l⟩ := id F3
          try simp only [Act.put, List.setIfInBounds_toArray, List.set]
          repeat (first | (refine wpI_rd rfl rfl ?_; go_big_quiet_step (fail); refine wpQuiet_nil ?_) | (refine wpI_skip rfl rfl ?_; try simp only [Act.put, List.setIfInBounds_toArray, List.set]))
          try simp only [Act.put, List.setIfInBounds_toArray, List.set]
          refine wpI_call (f := 32) rfl rfl rfl (by simp [go_sem]; rfl) ?_
          refine (DB.out _ K.out M.out).mono ?_
          rintro e w15 ⟨rfl, hb⟩
          have BW15 : Below w11.heap.size w11 w15 := bcall BW14 hb (by omega)
          refine ⟨_, rfl, hb, ?_⟩
          skip
          have B15 : Below w.heap.size w w15 := bcall (by go_grown) hb (by go_size)
          have q15 : w14.heap.size + 0 ≤ w15.heap.size := hb.size
          replace H := Lib.hid (H.out.below hb (Nat.le_refl _))
          replace K := Lib.hid (K.out.below hb (Nat.le_refl _))
          replace M := Lib.hid (M.out.below hb (Nat.le_refl _))
          replace RU := Lib.hid (RU.out.below hb (Nat.le_refl _))
          replace RI := Lib.hid (RI.out.below hb (Nat.le_refl _))
          replace RC := Lib.hid (RC.out.below hb (Nat.le_refl _))
          replace X := (X).below hb (by go_size)
          replace Y := (Y).below hb (by go_size)
          replace Z := (Z).below hb (by go_size)
          replace U := (U).below hb (by go_size)
          replace F1 := (F1).below hb (by go_size)
          replace I := (I).below hb (by go_size)
          replace F2 := (F2).below hb (by go_size)
          replace C := (C).below hb (by go_size)
          replace F3 := (F3).below hb (by go_size)
          clear hb
          have s15 : w.heap.size ≤ w15.heap.size := B15.size
          clear Xc Xf Xl Yc Yf Yl Zc Zf Zl Uc Uf Ul F1c F1f F1l Ic If Il F2c F2f F2l Cc Cf Cl F3c F3f F3l
          obtain ⟨Xc, Xf, Xl⟩ := id X
          obtain ⟨Yc, Yf, Yl⟩ := id Y
          obtain ⟨Zc, Zf, Zl⟩ := id Z
          obtain ⟨Uc, Uf, Ul⟩ := id U
          obtain ⟨F1c, F1f, F1l⟩ := id F1
          obtain ⟨Ic, If, Il⟩ := id I
          obtain ⟨F2c, F2f, F2l⟩ := id F2
          obtain ⟨Cc, Cf, Cl⟩ := id C
          obtain ⟨F3c, F3f, F3l⟩ := id F3
          try simp only [Act.put, List.setIfInBounds_toArray, List.set]
          repeat (first | (refine wpI_rd rfl rfl ?_; go_big_quiet_step (fail); refine wpQuiet_nil ?_) | (refine wpI_skip rfl rfl ?_; try simp only [Act.put, List.setIfInBounds_toArray, List.set]))
          try simp only [Act.put, List.setIfInBounds_toArray, List.set]
          refine wpI_nil ?_
          try simp only [Act.put, List.setIfInBounds_toArray, List.set]
          go_wp2_with fail
          go_meet
          exact ⟨rfl, X, Z, C, F3, BW15⟩
        | false =>
         cases bb with
         | true =>
          have u1 : (f1 == 0) = false := beqF z1
          have e2 := E2.out z2
          obtain rfl : bi = false := e2
          subst z2
          have u2 : ((0 : Int) == 0) = true := rfl
          clear E1 E2
          have BW12 : Below w11.heap.size w11 w11 := Below.refl _ _
          refine wp_region_ord [0, 1, 2, 3, 4, 5, 7, 8, 6, 9, 10, 11, 12, 13, 14, 15, 16, 17, 18, 19, 20, 21, 22, 23, 25, 26, 24, 27, 28, 29, 30, 31, 32, 33, 34, 35] (by kernel_rfl) (by kernel_rfl) ?_
          have B12 : Below w.heap.size w w11.drew := by go_grown
          have q12 : w11.heap.size + 0 ≤ w11.drew.heap.size := by simp only [World.size_drew]; omega
          replace H := Lib.hid (H.out.below (Below.refl _ _).drew (Nat.le_refl _))
          replace K := Lib.hid (K.out.below (Below.refl _ _).drew (Nat.le_refl _))
          replace M := Lib.hid (M.out.below (Below.refl _ _).drew (Nat.le_refl _))
          replace RU := Lib.hid (RU.out.below (Below.refl _ _).drew (Nat.le_refl _))
          replace RI := Lib.hid (RI.out.below (Below.refl _ _).drew (Nat.le_refl _))
          replace RC := Lib.hid (RC.out.below (Below.refl _ _).drew (Nat.le_refl _))
          replace X := X.drew
          replace Y := Y.drew
          replace Z := Z.drew
          replace U := U.drew
          replace F1 := F1.drew
          replace I := I.drew
          replace F2 := F2.drew
          replace C := C.drew
          replace F3 := F3.drew
          replace BW12 := (show Below w11.heap.size w11 w11.drew from by go_grown)
          clear Xc Xf Xl Yc Yf Yl Zc Zf Zl Uc Uf Ul F1c F1f F1l Ic If Il F2c F2f F2l Cc Cf Cl F3c F3f F3l
          generalize w11.drew = w12 at *
          have s12 : w.heap.size ≤ w12.heap.size := B12.size
          obtain ⟨Xc, Xf, Xl⟩ := id X
          obtain ⟨Yc, Yf, Yl⟩ := id Y
          obtain ⟨Zc, Zf, Zl⟩ := id Z
          obtain ⟨Uc, Uf, Ul⟩ := id U
          obtain ⟨F1c, F1f, F1l⟩ := id F1
          obtain ⟨Ic, If, Il⟩ := id I
          obtain ⟨F2c, F2f, F2l⟩ := id F2
          obtain ⟨Cc, Cf, Cl⟩ := id C
          obtain ⟨F3c, F3f, F3l⟩ := id F3
          repeat (first | (refine wpI_rd rfl rfl ?_; go_big_quiet_step (fail); refine wpQuiet_nil ?_) | (refine wpI_skip rfl rfl ?_; try simp only [Act.put, List.setIfInBounds_toArray, List.set]))
          try simp only [Act.put, List.setIfInBounds_toArray, List.set]
          refine wpI_call (f := 32) rfl rfl rfl (by simp [go_sem]; rfl) ?_
          refine (D2.out _ _ _ RI.out M.out).mono ?_
          rintro e w13 ⟨rfl, hb⟩
          have BW13 : Below w11.heap.size w11 w13 := bcall BW12 hb (by omega)
          refine ⟨_, rfl, hb, ?_⟩
          skip
          have B13 : Below w.heap.size w w13 := bcall (by go_grown) hb (by go_size)
          have q13 : w12.heap.size + 0 ≤ w13.heap.size := hb.size
          replace H := Lib.hid (H.out.below hb (Nat.le_refl _))
          replace K := Lib.hid (K.out.below hb (Nat.le_refl _))
          replace M := Lib.hid (M.out.below hb (Nat.le_refl _))
          replace RU := Lib.hid (RU.out.below hb (Nat.le_refl _))
          replace RI := Lib.hid (RI.out.below hb (Nat.le_refl _))
          replace RC := Lib.hid (RC.out.below hb (Nat.le_refl _))
          replace X := (X).below hb (by go_size)
          replace Y := (Y).below hb (by go_size)
          replace Z := (Z).below hb (by go_size)
          replace U := (U).below hb (by go_size)
          replace F1 := (F1).below hb (by go_size)
          replace I := (I).below hb (by go_size)
          replace F2 := (F2).below hb (by go_size)
          replace C := (C).below hb (by go_size)
          replace F3 := (F3).below hb (by go_size)
          clear hb
          have s13 : w.heap.size ≤ w13.heap.size := B13.size
          clear Xc Xf Xl Yc Yf Yl Zc Zf Zl Uc Uf Ul F1c F1f F1l Ic If Il F2c F2f F2l Cc Cf Cl F3c F3f F3l
          obtain ⟨Xc, Xf, Xl⟩ := id X
          obtain ⟨Yc, Yf, Yl⟩ := id Y
          obtain ⟨Zc, Zf, Zl⟩ := id Z
          obtain ⟨Uc, Uf, Ul⟩ := id U
          obtain ⟨F1c, F1f, F1l⟩ := id F1
          obtain ⟨Ic, If, Il⟩ := id I
          obtain ⟨F2c, F2f, F2l⟩ := id F2
          obtain ⟨Cc, Cf, Cl⟩ := id C
          obtain ⟨F3c, F3f, F3l⟩ := id F3
          try simp only [Act.put, List.setIfInBounds_toArray, List.set]
          repeat (first | (refine wpI_rd rfl rfl ?_; go_big_quiet_step (fail); refine wpQuiet_nil ?_) | (refine wpI_skip rfl rfl ?_; try simp only [Act.put, List.setIfInBounds_toArray, List.set]))
          try simp only [Act.put, List.setIfInBounds_toArray, List.set]
          refine wpI_call (f := 32) rfl rfl rfl (by simp [go_sem]; rfl) ?_
          refine (DA.out _ H.out M.out).mono ?_
          rintro e w14 ⟨rfl, hb⟩
          have BW14 : Below w11.heap.size w11 w14 := bcall BW13 hb (by omega)
          refine ⟨_, rfl, hb, ?_⟩
          skip
          have B14 : Below w.heap.size w w14 := bcall (by go_grown) hb (by go_size)
          have q14 : w13.heap.size + 0 ≤ w14.heap.size := hb.size
          replace H := Lib.hid (H.out.below hb (Nat.le_refl _))
          replace K := Lib.hid (K.out.below hb (Nat.le_refl _))
          replace M := Lib.hid (M.out.below hb (Nat.le_refl _))
          replace RU := Lib.hid (RU.out.below hb (Nat.le_refl _))
          replace RI := Lib.hid (RI.out.below hb (Nat.le_refl _))
          replace RC := Lib.hid (RC.out.below hb (Nat.le_refl _))
          replace X := (X).below hb (by go_size)
          replace Y := (Y).below hb (by go_size)
          replace Z := (Z).below hb (by go_size)
          replace U := (U).below hb (by go_size)
          replace F1 := (F1).below hb (by go_size)
          replace I := (I).below hb (by go_size)
          replace F2 := (F2).below hb (by go_size)
          replace C := (C).below hb (by go_size)
          replace F3 := (F3).below hb (by go_size)
          clear hb
          have s14 : w.heap.size ≤ w14.heap.size := B14.size
          clear Xc Xf Xl Yc Yf Yl Zc Zf Zl Uc Uf Ul F1c F1f F1l Ic If Il F2c F2f F2l Cc Cf Cl F3c F3f F3l
          obtain ⟨Xc, Xf, Xl⟩ := id X
          obtain ⟨Yc, Yf, Yl⟩ := id Y
          obtain ⟨Zc, Zf, Zl⟩ := id Z
          obtain ⟨Uc, Uf, Ul⟩ := id U
          obtain ⟨F1c, F1f, F1l⟩ := id F1
          obtain ⟨Ic, If, Il⟩ := id I
          obtain ⟨F2c, F2f, F2l⟩ := id F2
          obtain ⟨Cc, Cf, Cl⟩ := id C
          obtain ⟨F3c, F3f, F3l⟩ := id F3
          try simp only [Act.put, List.setIfInBounds_toArray, List.set]
          repeat (first | (refine wpI_rd rfl rfl ?_; go_big_quiet_step (fail); refine wpQuiet_nil ?_) | (refine wpI_skip rfl rfl ?_; try simp only [Act.put, List.setIfInBounds_toArray, List.set]))
          try simp only [Act.put, List.setIfInBounds_toArray, List.set]
          refine wpI_nil ?_
          try simp only [Act.put, List.setIfInBounds_toArray, List.set]
          go_wp2_with fail
          go_meet
          exact ⟨rfl, X, Z, C, F3, BW14⟩
         | false =>
          have u1 : (f1 == 0) = false := beqF z1
          have e2 := E2.out z2
          obtain rfl : bi = false := e2
          subst z2
          have u2 : ((0 : Int) == 0) = true := rfl
          clear E1 E2
          have BW12 : Below w11.heap.size w11 w11 := Below.refl _ _
          refine wp_region_ord [0, 1, 2, 3, 4, 5, 7, 8, 6, 9, 10, 11, 12, 13, 14, 15, 16, 17, 18, 19, 20, 21, 22, 23, 25, 26, 24, 27, 28, 29, 30, 31, 32, 33, 34, 35] (by kernel_rfl) (by kernel_rfl) ?_
          have B12 : Below w.heap.size w w11.drew := by go_grown
          have q12 : w11.heap.size + 0 ≤ w11.drew.heap.size := by simp only [World.size_drew]; omega
          replace H := Lib.hid (H.out.below (Below.refl _ _).drew (Nat.le_refl _))
          replace K := Lib.hid (K.out.below (Below.refl _ _).drew (Nat.le_refl _))
          replace M := Lib.hid (M.out.below (Below.refl _ _).drew (Nat.le_refl _))
          replace RU := Lib.hid (RU.out.below (Below.refl _ _).drew (Nat.le_refl _))
          replace RI := Lib.hid (RI.out.below (Below.refl _ _).drew (Nat.le_refl _))
          replace RC := Lib.hid (RC.out.below (Below.refl _ _).drew (Nat.le_refl _))
          replace X := X.drew
          replace Y := Y.drew
          replace Z := Z.drew
          replace U := U.drew
          replace F1 := F1.drew
          replace I := I.drew
          replace F2 := F2.drew
          replace C := C.drew
          replace F3 := F3.drew
          replace BW12 := (show Below w11.heap.size w11 w11.drew from by go_grown)
          clear Xc Xf Xl Yc Yf Yl Zc Zf Zl Uc Uf Ul F1c F1f F1l Ic If Il F2c F2f F2l Cc Cf Cl F3c F3f F3l
          generalize w11.drew = w12 at *
          have s12 : w.heap.size ≤ w12.heap.size := B12.size
          obtain ⟨Xc, Xf, Xl⟩ := id X
          obtain ⟨Yc, Yf, Yl⟩ := id Y
          obtain ⟨Zc, Zf, Zl⟩ := id Z
          obtain ⟨Uc, Uf, Ul⟩ := id U
          obtain ⟨F1c, F1f, F1l⟩ := id F1
          obtain ⟨Ic, If, Il⟩ := id I
          obtain ⟨F2c, F2f, F2l⟩ := id F2
          obtain ⟨Cc, Cf, Cl⟩ := id C
          obtain ⟨F3c, F3f, F3l⟩ := id F3
          repeat (first | (refine wpI_rd rfl rfl ?_; go_big_quiet_step (fail); refine wpQuiet_nil ?_) | (refine wpI_skip rfl rfl ?_; try simp only [Act.put, List.setIfInBounds_toArray, List.set]))
          try simp only [Act.put, List.setIfInBounds_toArray, List.set]
          refine wpI_call (f := 32) rfl rfl rfl (by simp [go_sem]; rfl) ?_
          refine (D2.out _ _ _ RI.out M.out).mono ?_
          rintro e w13 ⟨rfl, hb⟩
          have BW13 : Below w11.heap.size w11 w13 := bcall BW12 hb (by omega)
          refine ⟨_, rfl, hb, ?_⟩
          skip
          have B13 : Below w.heap.size w w13 := bcall (by go_grown) hb (by go_size)
          have q13 : w12.heap.size + 0 ≤ w13.heap.size := hb.size
          replace H := Lib.hid (H.out.below hb (Nat.le_refl _))
          replace K := Lib.hid (K.out.below hb (Nat.le_refl _))
          replace M := Lib.hid (M.out.below hb (Nat.le_refl _))
          replace RU := Lib.hid (RU.out.below hb (Nat.le_refl _))
          replace RI := Lib.hid (RI.out.below hb (Nat.le_refl _))
          replace RC := Lib.hid (RC.out.below hb (Nat.le_refl _))
          replace X := (X).below hb (by go_size)
          replace Y := (Y).below hb (by go_size)
          replace Z := (Z).below hb (by go_size)
          replace U := (U).below hb (by go_size)
          replace F1 := (F1).below hb (by go_size)
          replace I := (I).below hb (by go_size)
          replace F2 := (F2).below hb (by go_size)
          replace C := (C).below hb (by go_size)
          replace F3 := (F3).below hb (by go_size)
          clear hb
          have s13 : w.heap.size ≤ w13.heap.size := B13.size
          clear Xc Xf Xl Yc Yf Yl Zc Zf Zl Uc Uf Ul F1c F1f F1l Ic If Il F2c F2f F2l Cc Cf Cl F3c F3f F3l
          obtain ⟨Xc, Xf, Xl⟩ := id X
          obtain ⟨Yc, Yf, Yl⟩ := id Y
          obtain ⟨Zc, Zf, Zl⟩ := id Z
          obtain ⟨Uc, Uf, Ul⟩ := id U
          obtain ⟨F1c, F1f, F1l⟩ := id F1
          obtain ⟨Ic, If, Il⟩ := id I
          obtain ⟨F2c, F2f, F2l⟩ := id F2
          obtain ⟨Cc, Cf, Cl⟩ := id C
          obtain ⟨F3c, F3f, F3l⟩ := id F3
          try simp only [Act.put, List.setIfInBounds_toArray, List.set]
          repeat (first | (refine wpI_rd rfl rfl ?_; go_big_quiet_step (fail); refine wpQuiet_nil ?_) | (refine wpI_skip rfl rfl ?_; try simp only [Act.put, List.setIfInBounds_toArray, List.set]))
          try simp only [Act.put, List.setIfInBounds_toArray, List.set]
          refine wpI_call (f := 32) rfl rfl rfl (by simp [go_sem]; rfl) ?_
          refine (DA.out _ H.out M.out).mono ?_
          rintro e w14 ⟨rfl, hb⟩
          have BW14 : Below w11.heap.size w11 w14 := bcall BW13 hb (by omega)
          refine ⟨_, rfl, hb, ?_⟩
          skip
          have B14 : Below w.heap.size w w14 := bcall (by go_grown) hb (by go_size)
          have q14 : w13.heap.size + 0 ≤ w14.heap.size := hb.size
          replace H := Lib.hid (H.out.below hb (Nat.le_refl _))
          replace K := Lib.hid (K.out.below hb (Nat.le_refl _))
          replace M := Lib.hid (M.out.below hb (Nat.le_refl _))
          replace RU := Lib.hid (RU.out.below hb (Nat.le_refl _))
          replace RI := Lib.hid (RI.out.below hb (Nat.le_refl _))
          replace RC := Lib.hid (RC.out.below hb (Nat.le_refl _))
          replace X := (X).below hb (by go_size)
          replace Y := (Y).below hb (by go_size)
          replace Z := (Z).below hb (by go_size)
          replace U := (U).below hb (by go_size)
          replace F1 := (F1).below hb (by go_size)
          replace I := (I).below hb (by go_size)
          replace F2 := (F2).below hb (by go_size)
          replace C := (C).below hb (by go_size)
          replace F3 := (F3).below hb (by go_size)
          clear hb
          have s14 : w.heap.size ≤ w14.heap.size := B14.size
          clear Xc Xf Xl Yc Yf Yl Zc Zf Zl Uc Uf Ul F1c F1f F1l Ic If Il F2c F2f F2l Cc Cf Cl F3c F3f F3l
          obtain ⟨Xc, Xf, Xl⟩ := id X
          obtain ⟨Yc, Yf, Yl⟩ := id Y
          obtain ⟨Zc, Zf, Zl⟩ := id Z
          obtain ⟨Uc, Uf, Ul⟩ := id U
          obtain ⟨F1c, F1f, F1l⟩ := id F1
          obtain ⟨Ic, If, Il⟩ := id I
          obtain ⟨F2c, F2f, F2l⟩ := id F2
          obtain ⟨Cc, Cf, Cl⟩ := id C
          obtain ⟨F3c, F3f, F3l⟩ := id F3
          try simp only [Act.put, List.setIfInBounds_toArray, List.set]
          repeat (first | (refine wpI_rd rfl rfl ?_; go_big_quiet_step (fail); refine wpQuiet_nil ?_) | (refine wpI_skip rfl rfl ?_; try simp only [Act.put, List.setIfInBounds_toArray, List.set]))
          try simp only [Act.put, List.setIfInBounds_toArray, List.set]
          refine wpI_nil ?_
          try simp only [Act.put, List.setIfInBounds_toArray, List.set]
          go_wp2_with fail
          go_meet
          exact ⟨rfl, X, Z, C, F3, BW14⟩
      · skip
        cases ba with
        | true =>
         cases bb with
         | true =>
          have u1 : (f1 == 0) = false := beqF z1
          have u2 : (f2 == 0) = false := beqF z2
          clear E1 E2
          have BW12 : Below w11.heap.size w11 w11 := Below.refl _ _
          refine wp_region_ord [0, 1, 2, 3, 4, 5, 7, 8, 6, 9, 10, 11, 12, 13, 14, 15, 16, 17, 18, 19, 20, 21, 22, 23, 25, 26, 24, 27, 28, 29, 30, 31, 32, 33, 34, 35] (by kernel_rfl) (by kernel_rfl) ?_
          have B12 : Below w.heap.size w w11.drew := by go_grown
          have q12 : w11.heap.size + 0 ≤ w11.drew.heap.size := by simp only [World.size_drew]; omega
          replace H := Lib.hid (H.out.below (Below.refl _ _).drew (Nat.le_refl _))
          replace K := Lib.hid (K.out.below (Below.refl _ _).drew (Nat.le_refl _))
          replace M := Lib.hid (M.out.below (Below.refl _ _).drew (Nat.le_refl _))
          replace RU := Lib.hid (RU.out.below (Below.refl _ _).drew (Nat.le_refl _))
          replace RI := Lib.hid (RI.out.below (Below.refl _ _).drew (Nat.le_refl _))
          replace RC := Lib.hid (RC.out.below (Below.refl _ _).drew (Nat.le_refl _))
          replace X := X.drew
          replace Y := Y.drew
          replace Z := Z.drew
          replace U := U.drew
          replace F1 := F1.drew
          replace I := I.drew
          replace F2 := F2.drew
          replace C := C.drew
          replace F3 := F3.drew
          replace BW12 := (show Below w11.heap.size w11 w11.drew from by go_grown)
          clear Xc Xf Xl Yc Yf Yl Zc Zf Zl Uc Uf Ul F1c F1f F1l Ic If Il F2c F2f F2l Cc Cf Cl F3c F3f F3l
          generalize w11.drew = w12 at *
          have s12 : w.heap.size ≤ w12.heap.size := B12.size
          obtain ⟨Xc, Xf, Xl⟩ := id X
          obtain ⟨Yc, Yf, Yl⟩ := id Y
          obtain ⟨Zc, Zf, Zl⟩ := id Z
          obtain ⟨Uc, Uf, Ul⟩ := id U
          obtain ⟨F1c, F1f, F1l⟩ := id F1
          obtain ⟨Ic, If, Il⟩ := id I
          obtain ⟨F2c, F2f, F2l⟩ := id F2
          obtain ⟨Cc, Cf, Cl⟩ := id C
          obtain ⟨F3c, F3f, F3l⟩ := id F3
          repeat (first | (refine wpI_rd rfl rfl ?_; go_big_quiet_step (fail); refine wpQuiet_nil ?_) | (refine wpI_skip rfl rfl ?_; try simp only [Act.put, List.setIfInBounds_toArray, List.set]))
          try simp only [Act.put, List.setIfInBounds_toArray, List.set]
          refine wpI_nil ?_
          try simp only [Act.put, List.setIfInBounds_toArray, List.set]
          go_wp2_with fail
          go_meet
          exact ⟨rfl, X, Z, C, F3, BW12⟩
         | false =>
          have u1 : (f1 == 0) = false := beqF z1
          have u2 : (f2 == 0) = false := beqF z2
          clear E1 E2
          have BW12 : Below w11.heap.size w11 w11 := Below.refl _ _
          refine wp_region_ord [0, 1, 2, 3, 4, 5, 7, 8, 6, 9, 10, 11, 12, 13, 14, 15, 16, 17, 18, 19, 20, 21, 22, 23, 25, 26, 24, 27, 28, 29, 30, 31, 32, 33, 34, 35] (by kernel_rfl) (by kernel_rfl) ?_
          have B12 : Below w.heap.size w w11.drew := by go_grown
          have q12 : w11.heap.size + 0 ≤ w11.drew.heap.size := by simp only [World.size_drew]; omega
          replace H := Lib.hid (H.out.below (Below.refl _ _).drew (Nat.le_refl _))
          replace K := Lib.hid (K.out.below (Below.refl _ _).drew (Nat.le_refl _))
          replace M := Lib.hid (M.out.below (Below.refl _ _).drew (Nat.le_refl _))
          replace RU := Lib.hid (RU.out.below (Below.refl _ _).drew (Nat.le_refl _))
          replace RI := Lib.hid (RI.out.below (Below.refl _ _).drew (Nat.le_refl _))
          replace RC := Lib.hid (RC.out.below (Below.refl _ _).drew (Nat.le_refl _))
          replace X := X.drew
          replace Y := Y.drew
          replace Z := Z.drew
          replace U := U.drew
          replace F1 := F1.drew
          replace I := I.drew
          replace F2 := F2.drew
          replace C := C.drew
          replace F3 := F3.drew
          replace BW12 := (show Below w11.heap.size w11 w11.drew from by go_grown)
          clear Xc Xf Xl Yc Yf Yl Zc Zf Zl Uc Uf Ul F1c F1f F1l Ic If Il F2c F2f F2l Cc Cf Cl F3c F3f F3l
          generalize w11.drew = w12 at *
          have s12 : w.heap.size ≤ w12.heap.size := B12.size
          obtain ⟨Xc, Xf, Xl⟩ := id X
          obtain ⟨Yc, Yf, Yl⟩ := id Y
          obtain ⟨Zc, Zf, Zl⟩ := id Z
          obtain ⟨Uc, Uf, Ul⟩ := id U
          obtain ⟨F1c, F1f, F1l⟩ := id F1
          obtain ⟨Ic, If, Il⟩ := id I
          obtain ⟨F2c, F2f, F2l⟩ := id F2
          obtain ⟨Cc, Cf, Cl⟩ := id C
          obtain ⟨F3c, F3f, F3l⟩ := id F3
          repeat (first | (refine wpI_rd rfl rfl ?_; go_big_quiet_step (fail); refine wpQuiet_nil ?_) | (refine wpI_skip rfl rfl ?_; try simp only [Act.put, List.setIfInBounds_toArray, List.set]))
          try simp only [Act.put, List.setIfInBounds_toArray, List.set]
          refine wpI_nil ?_
          try simp only [Act.put, List.setIfInBounds_toArray, List.set]
          go_wp2_with fail
          go_meet
          exact ⟨rfl, X, Z, C, F3, BW12⟩
        | false =>
         cases bb with
         | true =>
          have u1 : (f1 == 0) = false := beqF z1
          have u2 : (f2 == 0) = false := beqF z2
          clear E1 E2
          have BW12 : Below w11.heap.size w11 w11 := Below.refl _ _
          refine wp_region_ord [0, 1, 2, 3, 4, 5, 7, 8, 6, 9, 10, 11, 12, 13, 14, 15, 16, 17, 18, 19, 20, 21, 22, 23, 25, 26, 24, 27, 28, 29, 30, 31, 32, 33, 34, 35] (by kernel_rfl) (by kernel_rfl) ?_
          have B12 : Below w.heap.size w w11.drew := by go_grown
          have q12 : w11.heap.size + 0 ≤ w11.drew.heap.size := by simp only [World.size_drew]; omega
          replace H := Lib.hid (H.out.below (Below.refl _ _).drew (Nat.le_refl _))
          replace K := Lib.hid (K.out.below (Below.refl _ _).drew (Nat.le_refl _))
          replace M := Lib.hid (M.out.below (Below.refl _ _).drew (Nat.le_refl _))
          replace RU := Lib.hid (RU.out.below (Below.refl _ _).drew (Nat.le_refl _))
          replace RI := Lib.hid (RI.out.below (Below.refl _ _).drew (Nat.le_refl _))
          replace RC := Lib.hid (RC.out.below (Below.refl _ _).drew (Nat.le_refl _))
          replace X := X.drew
          replace Y := Y.drew
          replace Z := Z.drew
          replace U := U.drew
          replace F1 := F1.drew
          replace I := I.drew
          replace F2 := F2.drew
          replace C := C.drew
          replace F3 := F3.drew
          replace BW12 := (show Below w11.heap.size w11 w11.drew from by go_grown)
          clear Xc Xf Xl Yc Yf Yl Zc Zf Zl Uc Uf Ul F1c F1f F1l Ic If Il F2c F2f F2l Cc Cf Cl F3c F3f F3l
          generalize w11.drew = w12 at *
          have s12 : w.heap.size ≤ w12.heap.size := B12.size
          obtain ⟨Xc, Xf, Xl⟩ := id X
          obtain ⟨Yc, Yf, Yl⟩ := id Y
          obtain ⟨Zc, Zf, Zl⟩ := id Z
          obtain ⟨Uc, Uf, Ul⟩ := id U
          obtain ⟨F1c, F1f, F1l⟩ := id F1
          obtain ⟨Ic, If, Il⟩ := id I
          obtain ⟨F2c, F2f, F2l⟩ := id F2
          obtain ⟨Cc, Cf, Cl⟩ := id C
          obtain ⟨F3c, F3f, F3l⟩ := id F3
          repeat (first | (refine wpI_rd rfl rfl ?_; go_big_quiet_step (fail); refine wpQuiet_nil ?_) | (refine wpI_skip rfl rfl ?_; try simp only [Act.put, List.setIfInBounds_toArray, List.set]))
          try simp only [Act.put, List.setIfInBounds_toArray, List.set]
          refine wpI_nil ?_
          try simp only [Act.put, List.setIfInBounds_toArray, List.set]
          go_wp2_with fail
          go_meet
          exact ⟨rfl, X, Z, C, F3, BW12⟩
         | false =>
          have u1 : (f1 == 0) = false := beqF z1
          have u2 : (f2 == 0) = false := beqF z2
          clear E1 E2
          have BW12 : Below w11.heap.size w11 w11 := Below.refl _ _
          refine wp_region_ord [0, 1, 2, 3, 4, 5, 7, 8, 6, 9, 10, 11, 12, 13, 14, 15, 16, 17, 18, 19, 20, 21, 22, 23, 25, 26, 24, 27, 28, 29, 30, 31, 32, 33, 34, 35] (by kernel_rfl) (by kernel_rfl) ?_
          have B12 : Below w.heap.size w w11.drew := by go_grown
          have q12 : w11.heap.size + 0 ≤ w11.drew.heap.size := by simp only [World.size_drew]; omega
          replace H := Lib.hid (H.out.below (Below.refl _ _).drew (Nat.le_refl _))
          replace K := Lib.hid (K.out.below (Below.refl _ _).drew (Nat.le_refl _))
          replace M := Lib.hid (M.out.below (Below.refl _ _).drew (Nat.le_refl _))
          replace RU := Lib.hid (RU.out.below (Below.refl _ _).drew (Nat.le_refl _))
          replace RI := Lib.hid (RI.out.below (Below.refl _ _).drew (Nat.le_refl _))
          replace RC := Lib.hid (RC.out.below (Below.refl _ _).drew (Nat.le_refl _))
          replace X := X.drew
          replace Y := Y.drew
          replace Z := Z.drew
          replace U := U.drew
          replace F1 := F1.drew
          replace I := I.drew
          replace F2 := F2.drew
          replace C := C.drew
          replace F3 := F3.drew
          replace BW12 := (show Below w11.heap.size w11 w11.drew from by go_grown)
          clear Xc Xf Xl Yc Yf Yl Zc Zf Zl Uc Uf Ul F1c F1f F1l Ic If Il F2c F2f F2l Cc Cf Cl F3c F3f F3l
          generalize w11.drew = w12 at *
          have s12 : w.heap.size ≤ w12.heap.size := B12.size
          obtain ⟨Xc, Xf, Xl⟩ := id X
          obtain ⟨Yc, Yf, Yl⟩ := id Y
          obtain ⟨Zc, Zf, Zl⟩ := id Z
          obtain ⟨Uc, Uf, Ul⟩ := id U
          obtain ⟨F1c, F1f, F1l⟩ := id F1
          obtain ⟨Ic, If, Il⟩ := id I
          obtain ⟨F2c, F2f, F2l⟩ := id F2
          obtain ⟨Cc, Cf, Cl⟩ := id C
          obtain ⟨F3c, F3f, F3l⟩ := id F3
          repeat (first | (refine wpI_rd rfl rfl ?_; go_big_quiet_step (fail); refine wpQuiet_nil ?_) | (refine wpI_skip rfl rfl ?_; try simp only [Act.put, List.setIfInBounds_toArray, List.set]))
          try simp only [Act.put, List.setIfInBounds_toArray, List.set]
          refine wpI_nil ?_
          try simp only [Act.put, List.setIfInBounds_toArray, List.set]
          go_wp2_with fail
          go_meet
          exact ⟨rfl, X, Z, C, F3, BW12⟩
   case rest =>
    obtain ⟨rfl, X2, Z2, C2_, F32, BW⟩ := hcut
    replace X := X2
    replace Z := Z2
    replace C := C2_
    replace F3 := F32
    clear Xc Xf Xl Yc Yf Yl Zc Zf Zl Uc Uf Ul F1c F1f F1l Ic If Il F2c F2f F2l Cc Cf Cl F3c F3f F3l
    have B99 : Below w.heap.size w wc := bcall B11 BW B11.size
    replace H := Lib.hid (H.out.below BW (Nat.le_refl _))
    replace M := Lib.hid (M.out.below BW (Nat.le_refl _))
    replace RC := Lib.hid (RC.out.below BW (Nat.le_refl _))
    have s99 := B99.size
    clear X2 Z2 C2_ F32 Y U F1 I F2 RU RI K E1 E2 D1 D2 DB C1 C2 C3 CG
    obtain ⟨Xc, Xf, Xl⟩ := id X
    obtain ⟨Zc, Zf, Zl⟩ := id Z
    obtain ⟨Cc, Cf, Cl⟩ := id C
    obtain ⟨F3c, F3f, F3l⟩ := id F3
    by_cases z3 : f3 = 0
    · have e3 := E3.out z3
      subst z3
      have u3 : ((0 : Int) != 0) = false := rfl
      clear E3
      cases ba with
      | true =>
       obtain rfl : bc = false := e3
       go_wp2_with fail
       refine wp_region_ord [0, 1, 2, 3, 4, 5, 7, 8, 6, 9, 10, 11, 12, 13] (by kernel_rfl) (by kernel_rfl) ?_
       have B100 : Below w.heap.size w wc.drew := by go_grown
       have q100 : wc.heap.size + 0 ≤ wc.drew.heap.size := by simp only [World.size_drew]; omega
       replace H := Lib.hid (H.out.below (Below.refl _ _).drew (Nat.le_refl _))
       replace M := Lib.hid (M.out.below (Below.refl _ _).drew (Nat.le_refl _))
       replace RC := Lib.hid (RC.out.below (Below.refl _ _).drew (Nat.le_refl _))
       replace X := X.drew
       replace Z := Z.drew
       replace C := C.drew
       replace F3 := F3.drew
       clear Xc Xf Xl Zc Zf Zl Cc Cf Cl F3c F3f F3l
       generalize wc.drew = w100 at *
       have s100 : w.heap.size ≤ w100.heap.size := B100.size
       obtain ⟨Xc, Xf, Xl⟩ := id X
       obtain ⟨Zc, Zf, Zl⟩ := id Z
       obtain ⟨Cc, Cf, Cl⟩ := id C
       obtain ⟨F3c, F3f, F3l⟩ := id F3
       repeat (first | (refine wpI_rd rfl rfl ?_; go_big_quiet_step (fail); refine wpQuiet_nil ?_) | (refine wpI_skip rfl rfl ?_; try simp only [Act.put, List.setIfInBounds_toArray, List.set]))
       try simp only [Act.put, List.setIfInBounds_toArray, List.set]
       refine wpI_call (f := 32) rfl rfl rfl (by simp [go_sem]; rfl) ?_
       refine (D3.out _ _ _ RC.out M.out).mono ?_
       rintro e w101 ⟨rfl, hb⟩
       refine ⟨_, rfl, hb, ?_⟩
       skip
       have B101 : Below w.heap.size w w101 := bcall (by go_grown) hb (by go_size)
       have q101 : w100.heap.size + 0 ≤ w101.heap.size := hb.size
       replace H := Lib.hid (H.out.below hb (Nat.le_refl _))
       replace M := Lib.hid (M.out.below hb (Nat.le_refl _))
       replace RC := Lib.hid (RC.out.below hb (Nat.le_refl _))
       replace X := (X).below hb (by go_size)
       replace Z := (Z).below hb (by go_size)
       replace C := (C).below hb (by go_size)
       replace F3 := (F3).below hb (by go_size)
       clear hb
       have s101 : w.heap.size ≤ w101.heap.size := B101.size
       clear Xc Xf Xl Zc Zf Zl Cc Cf Cl F3c F3f F3l
       obtain ⟨Xc, Xf, Xl⟩ := id X
       obtain ⟨Zc, Zf, Zl⟩ := id Z
       obtain ⟨Cc, Cf, Cl⟩ := id C
       obtain ⟨F3c, F3f, F3l⟩ := id F3
       try simp only [Act.put, List.setIfInBounds_toArray, List.set]
       repeat (first | (refine wpI_rd rfl rfl ?_; go_big_quiet_step (fail); refine wpQuiet_nil ?_) | (refine wpI_skip rfl rfl ?_; try simp only [Act.put, List.setIfInBounds_toArray, List.set]))
       try simp only [Act.put, List.setIfInBounds_toArray, List.set]
       refine wpI_call (f := 32) rfl rfl rfl (by simp [go_sem]; rfl) ?_
       refine (DA.out _ H.out M.out).mono ?_
       rintro e w102 ⟨rfl, hb⟩
       refine ⟨_, rfl, hb, ?_⟩
       skip
       have B102 : Below w.heap.size w w102 := bcall (by go_grown) hb (by go_size)
       have q102 : w101.heap.size + 0 ≤ w102.heap.size := hb.size
       replace H := Lib.hid (H.out.below hb (Nat.le_refl _))
       replace M := Lib.hid (M.out.below hb (Nat.le_refl _))
       replace RC := Lib.hid (RC.out.below hb (Nat.le_refl _))
       replace X := (X).below hb (by go_size)
       replace Z := (Z).below hb (by go_size)
       replace C := (C).below hb (by go_size)
       replace F3 := (F3).below hb (by go_size)
       clear hb
       have s102 : w.heap.size ≤ w102.heap.size := B102.size
       clear Xc Xf Xl Zc Zf Zl Cc Cf Cl F3c F3f F3l
       obtain ⟨Xc, Xf, Xl⟩ := id X
       obtain ⟨Zc, Zf, Zl⟩ := id Z
       obtain ⟨Cc, Cf, Cl⟩ := id C
       obtain ⟨F3c, F3f, F3l⟩ := id F3
       try simp only [Act.put, List.setIfInBounds_toArray, List.set]
       repeat (first | (refine wpI_rd rfl rfl ?_; go_big_quiet_step (fail); refine wpQuiet_nil ?_) | (refine wpI_skip rfl rfl ?_; try simp only [Act.put, List.setIfInBounds_toArray, List.set]))
       try simp only [Act.put, List.setIfInBounds_toArray, List.set]
       refine wpI_nil ?_
       try simp only [Act.put, List.setIfInBounds_toArray, List.set]
       go_wp2_with fail
       go_ret
       exact ⟨by first | rfl | simp, by go_grown⟩
      | false =>
       obtain rfl : bc = true := e3
       go_wp2_with fail
       refine wp_region_ord [0, 1, 2, 3, 4, 5, 7, 8, 6, 9, 10, 11, 12, 13] (by kernel_rfl) (by kernel_rfl) ?_
       have B100 : Below w.heap.size w wc.drew := by go_grown
       have q100 : wc.heap.size + 0 ≤ wc.drew.heap.size := by simp only [World.size_drew]; omega
       replace H := Lib.hid (H.out.below (Below.refl _ _).drew (Nat.le_refl _))
       replace M := Lib.hid (M.out.below (Below.refl _ _).drew (Nat.le_refl _))
       replace RC := Lib.hid (RC.out.below (Below.refl _ _).drew (Nat.le_refl _))
       replace X := X.drew
       replace Z := Z.drew
       replace C := C.drew
       replace F3 := F3.drew
       clear Xc Xf Xl Zc Zf Zl Cc Cf Cl F3c F3f F3l
       generalize wc.drew = w100 at *
       have s100 : w.heap.size ≤ w100.heap.size := B100.size
       obtain ⟨Xc, Xf, Xl⟩ := id X
       obtain ⟨Zc, Zf, Zl⟩ := id Z
       obtain ⟨Cc, Cf, Cl⟩ := id C
       obtain ⟨F3c, F3f, F3l⟩ := id F3
       repeat (first | (refine wpI_rd rfl rfl ?_; go_big_quiet_step (fail); refine wpQuiet_nil ?_) | (refine wpI_skip rfl rfl ?_; try simp only [Act.put, List.setIfInBounds_toArray, List.set]))
       try simp only [Act.put, List.setIfInBounds_toArray, List.set]
       refine wpI_call (f := 32) rfl rfl rfl (by simp [go_sem]; rfl) ?_
       refine (D3.out _ _ _ RC.out M.out).mono ?_
       rintro e w101 ⟨rfl, hb⟩
       refine ⟨_, rfl, hb, ?_⟩
       skip
       have B101 : Below w.heap.size w w101 := bcall (by go_grown) hb (by go_size)
       have q101 : w100.heap.size + 0 ≤ w101.heap.size := hb.size
       replace H := Lib.hid (H.out.below hb (Nat.le_refl _))
       replace M := Lib.hid (M.out.below hb (Nat.le_refl _))
       replace RC := Lib.hid (RC.out.below hb (Nat.le_refl _))
       replace X := (X).below hb (by go_size)
       replace Z := (Z).below hb (by go_size)
       replace C := (C).below hb (by go_size)
       replace F3 := (F3).below hb (by go_size)
       clear hb
       have s101 : w.heap.size ≤ w101.heap.size := B101.size
       clear Xc Xf Xl Zc Zf Zl Cc Cf Cl F3c F3f F3l
       obtain ⟨Xc, Xf, Xl⟩ := id X
       obtain ⟨Zc, Zf, Zl⟩ := id Z
       obtain ⟨Cc, Cf, Cl⟩ := id C
       obtain ⟨F3c, F3f, F3l⟩ := id F3
       try simp only [Act.put, List.setIfInBounds_toArray, List.set]
       repeat (first | (refine wpI_rd rfl rfl ?_; go_big_quiet_step (fail); refine wpQuiet_nil ?_) | (refine wpI_skip rfl rfl ?_; try simp only [Act.put, List.setIfInBounds_toArray, List.set]))
       try simp only [Act.put, List.setIfInBounds_toArray, List.set]
       refine wpI_call (f := 32) rfl rfl rfl (by simp [go_sem]; rfl) ?_
       refine (DA.out _ H.out M.out).mono ?_
       rintro e w102 ⟨rfl, hb⟩
       refine ⟨_, rfl, hb, ?_⟩
       skip
       have B102 : Below w.heap.size w w102 := bcall (by go_grown) hb (by go_size)
       have q102 : w101.heap.size + 0 ≤ w102.heap.size := hb.size
       replace H := Lib.hid (H.out.below hb (Nat.le_refl _))
       replace M := Lib.hid (M.out.below hb (Nat.le_refl _))
       replace RC := Lib.hid (RC.out.below hb (Nat.le_refl _))
       replace X := (X).below hb (by go_size)
       replace Z := (Z).below hb (by go_size)
       replace C := (C).below hb (by go_size)
       replace F3 := (F3).below hb (by go_size)
       clear hb
       have s102 : w.heap.size ≤ w102.heap.size := B102.size
       clear Xc Xf Xl Zc Zf Zl Cc Cf Cl F3c F3f F3l
       obtain ⟨Xc, Xf, Xl⟩ := id X
       obtain ⟨Zc, Zf, Zl⟩ := id Z
       obtain ⟨Cc, Cf, Cl⟩ := id C
       obtain ⟨F3c, F3f, F3l⟩ := id F3
       try simp only [Act.put, List.setIfInBounds_toArray, List.set]
       repeat (first | (refine wpI_rd rfl rfl ?_; go_big_quiet_step (fail); refine wpQuiet_nil ?_) | (refine wpI_skip rfl rfl ?_; try simp only [Act.put, List.setIfInBounds_toArray, List.set]))
       try simp only [Act.put, List.setIfInBounds_toArray, List.set]
       refine wpI_nil ?_
       try simp only [Act.put, List.setIfInBounds_toArray, List.set]
       go_wp2_with fail
       go_ret
       exact ⟨by first | rfl | simp, by go_grown⟩
    · have u3 : (f3 != 0) = true := bneT z3
      go_wp2_with fail
      refine wp_region_ord [0, 1, 2, 3, 4, 5, 7, 8, 6, 9, 10, 11, 12, 13] (by kernel_rfl) (by kernel_rfl) ?_
      have B100 : Below w.heap.size w wc.drew := by go_grown
      have q100 : wc.heap.size + 0 ≤ wc.drew.heap.size := by simp only [World.size_drew]; omega
      replace H := Lib.hid (H.out.below (Below.refl _ _).drew (Nat.le_refl _))
      replace M := Lib.hid (M.out.below (Below.refl _ _).drew (Nat.le_refl _))
      replace RC := Lib.hid (RC.out.below (Below.refl _ _).drew (Nat.le_refl _))
      replace X := X.drew
      replace Z := Z.drew
      replace C := C.drew
      replace F3 := F3.drew
      clear Xc Xf Xl Zc Zf Zl Cc Cf Cl F3c F3f F3l
      generalize wc.drew = w100 at *
      have s100 : w.heap.size ≤ w100.heap.size := B100.size
      obtain ⟨Xc, Xf, Xl⟩ := id X
      obtain ⟨Zc, Zf, Zl⟩ := id Z
      obtain ⟨Cc, Cf, Cl⟩ := id C
      obtain ⟨F3c, F3f, F3l⟩ := id F3
      repeat (first | (refine wpI_rd rfl rfl ?_; go_big_quiet_step (fail); refine wpQuiet_nil ?_) | (refine wpI_skip rfl rfl ?_; try simp only [Act.put, List.setIfInBounds_toArray, List.set]))
      try simp only [Act.put, List.setIfInBounds_toArray, List.set]
      refine wpI_nil ?_
      try simp only [Act.put, List.setIfInBounds_toArray, List.set]
      go_wp2_with fail
      go_ret
      exact ⟨by first | rfl | simp, by go_grown⟩
theorem VerrangeOperationsAreSetOperations_any (r t : List Pl.Ivl) (v : Pl.Ver) (a b p : Option Addr) (c d q : Nat) (w : World) (h1 : RIn w r a c) (h2 : RIn w t b d) (h3 : VIn w v p q) (EN : Env w) : Calls Tryz.prog 7 #[.agg #[.slice a r.length c], .agg #[.slice b t.length d], verV v p q] w fun e w' => e = .returned (.bool true) ∧ Below w.heap.size w w' := by
 by_cases f1 : (Pl.vrF v).1 = 0
 · exact vso_ok r t v a b p c d q w h1 h2 h3 EN (Pl.vr_ok f1)
 · exact vso_bad r t v a b p c d q w h1 h2 h3 EN f1
end Go.Proofs.YtjfkmbehckdjlaaGreatDoor
