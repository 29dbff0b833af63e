/- Contract: a term of a range is read, by the program: operator number 3. -/
import Derived.Test.YtjfkmbehckdjlaaGreatDoorMDma
namespace Go.Proofs.YtjfkmbehckdjlaaGreatDoor
open Go.RowKit
set_option maxRecDepth 100000 in
set_option maxHeartbeats 16000000 in
theorem term_op3 (s : ByteArray) (w : World) (E : Env w) (hs : s.size ≤ 9223372036854775807) (h42 : Pl.bsl s ≠ [42]) (hno : ∀ m (h : m < 7), m < 3 → ¬ Pl.opsL[m] <+: Pl.bsl s) (t : List UInt8) (ht0 : [60] ++ t = Pl.bsl s) : Calls Tryz.prog 64 #[.string s] w (RTerm (Pl.termP (Pl.bsl s)) w) := by
  obtain ⟨V, hV⟩ : ∃ V, Pl.termP (Pl.bsl s) = V := ⟨_, rfl⟩
  rw [hV]
  have HV := Lib.hid (show Pl.tryOps (Pl.bsl s) (Pl.opsL.drop 0) = V by unfold Pl.termP at hV; rwa [if_neg h42] at hV)
  have s0 : (s.toList == [42]) = false := by rw [beq_eq_false_iff_ne, ne_eq, ba_toList]; exact h42
  have HE := Lib.hid E
  have HT := Lib.hid ht0
  have HNO := Lib.hid hno
  have i0 := idxOp0
  have i1 := idxOp1
  have i2 := idxOp2
  have i3 := idxOp3
  clear hV h42 E ht0 hno
  go_enter Tryz.func64, Tryz.ntmps64
  go_wp2_with fail
  go_loop [16] (fun i => ∃ m : Nat, m ≤ 3 ∧ i = .int .i64 (m : Int) ∧ Hid (Pl.tryOps (Pl.bsl s) (Pl.opsL.drop m) = V)) (fun i => 7 - (intOf i).toNat)
  case atStart => exact ⟨0, by decide, rfl, HV⟩
  case round =>
    obtain ⟨m, hj, rfl, hu⟩ := hrel
    clear HV
    match m, hj with
    | 0, _ =>
      have hp : ¬ [62, 61] <+: Pl.bsl s := HNO.out 0 (by decide) (by decide)
      have E := Lib.hid (Pl.try_miss hp hu.out)
      have CC := Lib.hid (fun (W : World) => cutPrefix_miss s (⟨#[62, 61]⟩ : ByteArray) W hp hs (by decide))
      clear hp hu HT HNO
      go_wp2_with fail
      refine (CC.out _).mono ?_
      rintro e w' ⟨rfl, rfl⟩
      go_wp2_with fail
      go_round
      case rel => exact ⟨1, by decide, by go_num, E⟩
      case measure => simp [intOf]
    | 1, _ =>
      have hp : ¬ [60, 61] <+: Pl.bsl s := HNO.out 1 (by decide) (by decide)
      have E := Lib.hid (Pl.try_miss hp hu.out)
      have CC := Lib.hid (fun (W : World) => cutPrefix_miss s (⟨#[60, 61]⟩ : ByteArray) W hp hs (by decide))
      clear hp hu HT HNO
      go_wp2_with fail
      refine (CC.out _).mono ?_
      rintro e w' ⟨rfl, rfl⟩
      go_wp2_with fail
      go_round
      case rel => exact ⟨2, by decide, by go_num, E⟩
      case measure => simp [intOf]
    | 2, _ =>
      have hp : ¬ [62] <+: Pl.bsl s := HNO.out 2 (by decide) (by decide)
      have E := Lib.hid (Pl.try_miss hp hu.out)
      have CC := Lib.hid (fun (W : World) => cutPrefix_miss s (⟨#[62]⟩ : ByteArray) W hp hs (by decide))
      clear hp hu HT HNO
      go_wp2_with fail
      refine (CC.out _).mono ?_
      rintro e w' ⟨rfl, rfl⟩
      go_wp2_with fail
      go_round
      case rel => exact ⟨3, by decide, by go_num, E⟩
      case measure => simp [intOf]
    | 3, _ =>
      have hu2 : Hid (Pl.tryOps (Pl.bsl s) ([60] :: Pl.opsL.drop 4) = V) := Lib.hid hu.out
      clear hu
      · have ht := HT.out
        have TH := Lib.hid (Pl.try_hit ht.symm hu2.out)
        have CC := Lib.hid (fun (W : World) => cutPrefix_hit s (⟨#[60]⟩ : ByteArray) (Pl.mkS t) W (by rw [Pl.bsl_at]; exact ht.symm) hs)
        have hts : (Pl.mkS t).size ≤ 9223372036854775807 := by
          have h1 := congrArg List.length ht
          rw [List.length_append] at h1
          have h2 : (Pl.bsl s).length = s.size := rfl
          have h3 : (Pl.mkS t).size = t.length := rfl
          omega
        have CQ := Lib.hid (fun (W : World) (E : Env W) => Parse_any (Pl.mkS t) W hts E)
        have PC := Pl.par_cases (Pl.mkS t)
        rw [Pl.bsl_at] at PC
        clear ht hu2 hts i0 i1 i2 i3
        have i := idxOp3
        rcases PC with ⟨p1, p2, p3⟩ | ⟨v, p1, okv, p2, p3⟩
        · have EV := Lib.hid (TH.out.1 p1)
          rw [p3] at CQ
          obtain ⟨F, hF⟩ : ∃ F, Pl.parF (Pl.mkS t) = F := ⟨_, rfl⟩
          rw [hF] at CQ p2
          delta RVerF at CQ
          obtain ⟨f1, f2⟩ := F
          simp only [fltV] at CQ
          have u1 := bneT p2
          have u2 := beqF p2
          clear p1 p2 p3 hF TH
          have B0 : Below w.heap.size w w := Below.refl _ _
          go_wp2_with fail
          refine (CC.out _).mono ?_
          rintro e w' ⟨rfl, rfl⟩
          go_wp2_with fail
          have HE1 := HE.out.below (B := w.heap.size) (w' := w.alloc (.cells #[.slice none 0 0] 24)) (by go_grown) (Nat.le_refl _)
          refine (CQ.out _ HE1).mono ?_
          rintro e w1 ⟨pa, pc, rfl, VP, hb⟩
          replace VP := Lib.hid VP
          have B1 : Below w.heap.size w w1 := bcall (by go_grown) hb (by go_size)
          have q1 : w.heap.size + 1 ≤ w1.heap.size := by have z := hb.size; (try simp only [World.size_alloc] at z); omega
          have R := ((Bk.new (r := w.heap.size) (cs := [.slice none 0 0]) _ 24 (by simp))).below hb (by go_size)
          clear hb
          have s1 : w.heap.size ≤ w1.heap.size := B1.size
          obtain ⟨R_c, R_f, R_l⟩ := id R
          go_wp2_with fail
          have RN := ((R.set (k := 0) (by simp) (.slice none 0 0)).alloc (.cells #[.int .i64 Pl.Ver.zero.maj, .int .i64 Pl.Ver.zero.min, .int .i64 Pl.Ver.zero.pat, .slice pa Pl.Ver.zero.pre.length pc] 27)).alloc (.cells #[.int .i64 f1, .int .i64 f2] 29)
          obtain ⟨RN_c, RN_f, RN_l⟩ := RN
          refine bodyPost_ret (v := .tuple #[.agg #[.slice none 0 0], .int .i64 1]) (by simp [results, Tryz.results64, go_sem, RN_c]) rfl (RTerm.bad EV.out (by go_grown))
        · have EV := Lib.hid (TH.out.2 v p1)
          rw [p2, p3] at CQ
          delta RVerF at CQ
          simp only [fltV] at CQ
          have OV := Lib.hid okv
          have c62 : ((⟨#[60]⟩ : ByteArray).toList == (⟨#[62]⟩ : ByteArray).toList) = false := (strB [60] [62]).trans (by decide)
          have c6061 : ((⟨#[60]⟩ : ByteArray).toList == (⟨#[60, 61]⟩ : ByteArray).toList) = false := (strB [60] [60, 61]).trans (by decide)
          have c61 : ((⟨#[60]⟩ : ByteArray).toList == (⟨#[61]⟩ : ByteArray).toList) = false := (strB [60] [61]).trans (by decide)
          have c94 : ((⟨#[60]⟩ : ByteArray).toList == (⟨#[94]⟩ : ByteArray).toList) = false := (strB [60] [94]).trans (by decide)
          have c126 : ((⟨#[60]⟩ : ByteArray).toList == (⟨#[126]⟩ : ByteArray).toList) = false := (strB [60] [126]).trans (by decide)
          have c6261 : ((⟨#[60]⟩ : ByteArray).toList == (⟨#[62, 61]⟩ : ByteArray).toList) = false := (strB [60] [62, 61]).trans (by decide)
          have c60 : ((⟨#[60]⟩ : ByteArray).toList == (⟨#[60]⟩ : ByteArray).toList) = true := (strB [60] [60]).trans (by decide)
          clear p1 p2 p3 TH okv
          have B0 : Below w.heap.size w w := Below.refl _ _
          go_wp2_with fail
          refine (CC.out _).mono ?_
          rintro e w' ⟨rfl, rfl⟩
          go_wp2_with fail
          have HE1 := HE.out.below (B := w.heap.size) (w' := w.alloc (.cells #[.slice none 0 0] 24)) (by go_grown) (Nat.le_refl _)
          refine (CQ.out _ HE1).mono ?_
          rintro e w1 ⟨pa, pc, rfl, VP, hb⟩
          replace VP := Lib.hid VP
          have B1 : Below w.heap.size w w1 := bcall (by go_grown) hb (by go_size)
          have q1 : w.heap.size + 1 ≤ w1.heap.size := by have z := hb.size; (try simp only [World.size_alloc] at z); omega
          have R := ((Bk.new (r := w.heap.size) (cs := [.slice none 0 0]) _ 24 (by simp))).below hb (by go_size)
          clear hb
          have s1 : w.heap.size ≤ w1.heap.size := B1.size
          obtain ⟨R_c, R_f, R_l⟩ := id R
          go_wp2_with fail
          refine wp_region_ord [1, 0, 2, 3, 4] (by kernel_rfl) (by kernel_rfl) ?_
          have B2 : Below w.heap.size w (((w1.alloc (.cells #[.int .i64 v.maj, .int .i64 v.min, .int .i64 v.pat, .slice pa v.pre.length pc] 27)).alloc (.cells #[.int .i64 0, .int .i64 0] 29)).alloc (.cells #[.int .i64 v.maj, .int .i64 v.min, .int .i64 v.pat, .slice pa v.pre.length pc] 27)).drew := by go_grown
          have q2 : w1.heap.size + 3 ≤ (((w1.alloc (.cells #[.int .i64 v.maj, .int .i64 v.min, .int .i64 v.pat, .slice pa v.pre.length pc] 27)).alloc (.cells #[.int .i64 0, .int .i64 0] 29)).alloc (.cells #[.int .i64 v.maj, .int .i64 v.min, .int .i64 v.pat, .slice pa v.pre.length pc] 27)).drew.heap.size := by simp only [World.size_alloc, World.size_drew]; omega
          replace VP := Lib.hid ((((VP.out.below (Below.refl _ _ |>.alloc (Nat.le_refl _) (.cells #[.int .i64 v.maj, .int .i64 v.min, .int .i64 v.pat, .slice pa v.pre.length pc] 27)) (Nat.le_refl _)).below (Below.refl _ _ |>.alloc (Nat.le_refl _) (.cells #[.int .i64 0, .int .i64 0] 29)) (Nat.le_refl _)).below (Below.refl _ _ |>.alloc (Nat.le_refl _) (.cells #[.int .i64 v.maj, .int .i64 v.min, .int .i64 v.pat, .slice pa v.pre.length pc] 27)) (Nat.le_refl _)).below (Below.refl _ _).drew (Nat.le_refl _))
          replace R := (((R.alloc (.cells #[.int .i64 v.maj, .int .i64 v.min, .int .i64 v.pat, .slice pa v.pre.length pc] 27)).alloc (.cells #[.int .i64 0, .int .i64 0] 29)).alloc (.cells #[.int .i64 v.maj, .int .i64 v.min, .int .i64 v.pat, .slice pa v.pre.length pc] 27)).drew
          have V := (((Bk.new (r := w1.heap.size) (cs := [.int .i64 v.maj, .int .i64 v.min, .int .i64 v.pat, .slice pa v.pre.length pc]) w1 27 (by simp)).alloc (.cells #[.int .i64 0, .int .i64 0] 29)).alloc (.cells #[.int .i64 v.maj, .int .i64 v.min, .int .i64 v.pat, .slice pa v.pre.length pc] 27)).drew
          have F := ((Bk.new (r := w1.heap.size + 1) (cs := [.int .i64 0, .int .i64 0]) (w1.alloc (.cells #[.int .i64 v.maj, .int .i64 v.min, .int .i64 v.pat, .slice pa v.pre.length pc] 27)) 29 (by simp)).alloc (.cells #[.int .i64 v.maj, .int .i64 v.min, .int .i64 v.pat, .slice pa v.pre.length pc] 27)).drew
          have B := (Bk.new (r := w1.heap.size + 1 + 1) (cs := [.int .i64 v.maj, .int .i64 v.min, .int .i64 v.pat, .slice pa v.pre.length pc]) ((w1.alloc (.cells #[.int .i64 v.maj, .int .i64 v.min, .int .i64 v.pat, .slice pa v.pre.length pc] 27)).alloc (.cells #[.int .i64 0, .int .i64 0] 29)) 27 (by simp)).drew
          clear R_c R_f R_l
          generalize (((w1.alloc (.cells #[.int .i64 v.maj, .int .i64 v.min, .int .i64 v.pat, .slice pa v.pre.length pc] 27)).alloc (.cells #[.int .i64 0, .int .i64 0] 29)).alloc (.cells #[.int .i64 v.maj, .int .i64 v.min, .int .i64 v.pat, .slice pa v.pre.length pc] 27)).drew = w2 at *
          have s2 : w.heap.size ≤ w2.heap.size := B2.size
          obtain ⟨R_c, R_f, R_l⟩ := id R
          obtain ⟨V_c, V_f, V_l⟩ := id V
          obtain ⟨F_c, F_f, F_l⟩ := id F
          obtain ⟨B_c, B_f, B_l⟩ := id B
          repeat (refine wpI_rd rfl rfl ?_; go_big_quiet_step (fail); refine wpQuiet_nil ?_)
          try simp only [Act.put, List.setIfInBounds_toArray, List.set_cons_zero, List.set_cons_succ]
          refine wpI_call (f := 63) rfl rfl rfl (by simp [go_sem]; rfl) ?_
          refine (lowest_any _).mono ?_
          rintro e w3 ⟨la, lc, rfl, VL, hb⟩
          replace VL := Lib.hid VL
          refine ⟨_, rfl, hb, ?_⟩
          skip
          have B3 : Below w.heap.size w w3 := bcall (by go_grown) hb (by go_size)
          have q3 : w2.heap.size + 0 ≤ w3.heap.size := by have z := hb.size; (try simp only [World.size_alloc, World.size_setCell, World.size_drew] at z); omega
          replace VP := Lib.hid (VP.out.below hb (Nat.le_refl _))
          replace R := (R).below hb (by go_size)
          replace V := (V).below hb (by go_size)
          replace F := (F).below hb (by go_size)
          replace B := (B).below hb (by go_size)
          clear hb
          have s3 : w.heap.size ≤ w3.heap.size := B3.size
          clear R_c R_f R_l V_c V_f V_l F_c F_f F_l B_c B_f B_l
          obtain ⟨R_c, R_f, R_l⟩ := id R
          obtain ⟨V_c, V_f, V_l⟩ := id V
          obtain ⟨F_c, F_f, F_l⟩ := id F
          obtain ⟨B_c, B_f, B_l⟩ := id B
          try simp only [Act.put, List.setIfInBounds_toArray, List.set_cons_zero, List.set_cons_succ]
          repeat (refine wpI_rd rfl rfl ?_; go_big_quiet_step (fail); refine wpQuiet_nil ?_)
          try simp only [Act.put, List.setIfInBounds_toArray, List.set_cons_zero, List.set_cons_succ]
          refine wpI_call (f := 96) (args := #[verV Pl.lowV la lc, verV v pa pc]) rfl rfl rfl (by simp [go_sem]) ?_
          refine (span_any Pl.lowV v la pa lc pc _ VL.out VP.out Pl.lowV_ok OV.out).mono ?_
          rintro e w4 ⟨o5, k5, rfl, A5, hb⟩
          refine ⟨_, rfl, hb, ?_⟩
          skip
          have B4 : Below w.heap.size w w4 := bcall (by go_grown) hb (by go_size)
          have q4 : w3.heap.size + 0 ≤ w4.heap.size := by have z := hb.size; (try simp only [World.size_alloc, World.size_setCell, World.size_drew] at z); omega
          replace VP := Lib.hid (VP.out.below hb (Nat.le_refl _))
          replace VL := Lib.hid (VL.out.below hb (Nat.le_refl _))
          replace R := (R).below hb (by go_size)
          replace V := (V).below hb (by go_size)
          replace F := (F).below hb (by go_size)
          replace B := (B).below hb (by go_size)
          clear hb
          have s4 : w.heap.size ≤ w4.heap.size := B4.size
          clear R_c R_f R_l V_c V_f V_l F_c F_f F_l B_c B_f B_l
          obtain ⟨R_c, R_f, R_l⟩ := id R
          obtain ⟨V_c, V_f, V_l⟩ := id V
          obtain ⟨F_c, F_f, F_l⟩ := id F
          obtain ⟨B_c, B_f, B_l⟩ := id B
          try simp only [Act.put, List.setIfInBounds_toArray, List.set_cons_zero, List.set_cons_succ]
          refine wpI_st rfl rfl rfl (w' := w4.setCell ⟨w.heap.size, 0, none⟩ (.slice o5 (Pl.oneR Pl.lowV v).length k5)) (by simp [go_sem, R_c, R_f]) ?_
          try simp only [Act.put]
          repeat (refine wpI_rd rfl rfl ?_; go_big_quiet_step (fail); refine wpQuiet_nil ?_)
          try simp only [Act.put, List.setIfInBounds_toArray, List.set_cons_zero, List.set_cons_succ]
          refine wpI_nil ?_
          try simp only [Act.put, List.setIfInBounds_toArray, List.set_cons_zero, List.set_cons_succ]
          go_wp2_with fail
          have RN := R.set (k := 0) (by simp) (.slice o5 (Pl.oneR Pl.lowV v).length k5)
          obtain ⟨RN_c, RN_f, RN_l⟩ := RN
          refine bodyPost_ret (v := .tuple #[.agg #[.slice o5 (Pl.oneR Pl.lowV v).length k5], .int .i64 0]) (by simp [results, Tryz.results64, go_sem, RN_c]) rfl (RTerm.ok EV.out (A5.setBk R (by simp) (j := 0) rfl (fun _ h => by cases h) _) (by go_grown))
end Go.Proofs.YtjfkmbehckdjlaaGreatDoor
