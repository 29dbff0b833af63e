/- Texts joined: Dme Qn. -/
import Derived.Test.YtgngehfgcogceaaGreatDoorZMDo
import Derived.Test.YtgngehfgcogceaaGreatDoorZMQd
section
/- Contract: a term of a range is read, by the program: operator number 4. -/
namespace Go.Proofs.YtgngehfgcogceaaGreatDoor
open Go.RowKit
set_option maxRecDepth 100000 in
set_option maxHeartbeats 16000000 in
theorem term_op4 (s : ByteArray) (w : World) (E : Env w) (hs : s.size ≤ 9223372036854775807) (h42 : Pl.bsl s ≠ [42]) (hno : ∀ m (h : m < 7), m < 4 → ¬ Pl.opsL[m] <+: Pl.bsl s) (t : List UInt8) (ht0 : [61] ++ t = Pl.bsl s) : Calls Tryz.prog 31 #[.string s] w (RTerm (Pl.termP (Pl.bsl s)) w) := by
  obtain ⟨V, hV⟩ : ∃ V, Pl.termP (Pl.bsl s) = V := ⟨_, rfl⟩
  rw [hV]
  have HV := Lib.hid (show Pl.tryOps (Pl.bsl s) (Pl.opsL.drop 0) = V by unfold Pl.termP at hV; rwa [if_neg h42] at hV)
  have s0 : (s.toList == [42]) = false := by rw [beq_eq_false_iff_ne, ne_eq, ba_toList]; exact h42
  have HE := Lib.hid E
  have HT := Lib.hid ht0
  have HNO := Lib.hid hno
  have i0 := idxOp0
  have i1 := idxOp1
  have i2 := idxOp2
  have i3 := idxOp3
  have i4 := idxOp4
  clear hV h42 E ht0 hno
  go_enter Tryz.func31, Tryz.ntmps31
  go_wp2_with fail
  go_loop [16] (fun i => ∃ m : Nat, m ≤ 4 ∧ i = .int .i64 (m : Int) ∧ Hid (Pl.tryOps (Pl.bsl s) (Pl.opsL.drop m) = V)) (fun i => 7 - (intOf i).toNat)
  case atStart => exact ⟨0, by decide, rfl, HV⟩
  case round =>
    obtain ⟨m, hj, rfl, hu⟩ := hrel
    clear HV
    match m, hj with
    | 0, _ =>
      have hp : ¬ [62, 61] <+: Pl.bsl s := HNO.out 0 (by decide) (by decide)
      have E := Lib.hid (Pl.try_miss hp hu.out)
      have CC := Lib.hid (fun (W : World) => cutPrefix_miss s (⟨#[62, 61]⟩ : ByteArray) W hp hs (by decide))
      clear hp hu HT HNO
      go_wp2_with fail
      refine (CC.out _).mono ?_
      rintro e w' ⟨rfl, rfl⟩
      go_wp2_with fail
      go_round
      case rel => exact ⟨1, by decide, by go_num, E⟩
      case measure => simp [intOf]
    | 1, _ =>
      have hp : ¬ [60, 61] <+: Pl.bsl s := HNO.out 1 (by decide) (by decide)
      have E := Lib.hid (Pl.try_miss hp hu.out)
      have CC := Lib.hid (fun (W : World) => cutPrefix_miss s (⟨#[60, 61]⟩ : ByteArray) W hp hs (by decide))
      clear hp hu HT HNO
      go_wp2_with fail
      refine (CC.out _).mono ?_
      rintro e w' ⟨rfl, rfl⟩
      go_wp2_with fail
      go_round
      case rel => exact ⟨2, by decide, by go_num, E⟩
      case measure => simp [intOf]
    | 2, _ =>
      have hp : ¬ [62] <+: Pl.bsl s := HNO.out 2 (by decide) (by decide)
      have E := Lib.hid (Pl.try_miss hp hu.out)
      have CC := Lib.hid (fun (W : World) => cutPrefix_miss s (⟨#[62]⟩ : ByteArray) W hp hs (by decide))
      clear hp hu HT HNO
      go_wp2_with fail
      refine (CC.out _).mono ?_
      rintro e w' ⟨rfl, rfl⟩
      go_wp2_with fail
      go_round
      case rel => exact ⟨3, by decide, by go_num, E⟩
      case measure => simp [intOf]
    | 3, _ =>
      have hp : ¬ [60] <+: Pl.bsl s := HNO.out 3 (by decide) (by decide)
      have E := Lib.hid (Pl.try_miss hp hu.out)
      have CC := Lib.hid (fun (W : World) => cutPrefix_miss s (⟨#[60]⟩ : ByteArray) W hp hs (by decide))
      clear hp hu HT HNO
      go_wp2_with fail
      refine (CC.out _).mono ?_
      rintro e w' ⟨rfl, rfl⟩
      go_wp2_with fail
      go_round
      case rel => exact ⟨4, by decide, by go_num, E⟩
      case measure => simp [intOf]
    | 4, _ =>
      have hu2 : Hid (Pl.tryOps (Pl.bsl s) ([61] :: Pl.opsL.drop 5) = V) := Lib.hid hu.out
      clear hu
      · have ht := HT.out
        have TH := Lib.hid (Pl.try_hit ht.symm hu2.out)
        have CC := Lib.hid (fun (W : World) => cutPrefix_hit s (⟨#[61]⟩ : ByteArray) (Pl.mkS t) W (by rw [Pl.bsl_at]; exact ht.symm) hs)
        have hts : (Pl.mkS t).size ≤ 9223372036854775807 := by
          have h1 := congrArg List.length ht
          rw [List.length_append] at h1
          have h2 : (Pl.bsl s).length = s.size := rfl
          have h3 : (Pl.mkS t).size = t.length := rfl
          omega
        have CQ := Lib.hid (fun (W : World) (E : Env W) => Parse_any (Pl.mkS t) W hts E)
        have PC := Pl.par_cases (Pl.mkS t)
        rw [Pl.bsl_at] at PC
        clear ht hu2 hts i0 i1 i2 i3 i4
        have i := idxOp4
        rcases PC with ⟨p1, p2, p3⟩ | ⟨v, p1, okv, p2, p3⟩
        · have EV := Lib.hid (TH.out.1 p1)
          rw [p3] at CQ
          obtain ⟨F, hF⟩ : ∃ F, Pl.parF (Pl.mkS t) = F := ⟨_, rfl⟩
          rw [hF] at CQ p2
          delta RVerF at CQ
          obtain ⟨f1, f2⟩ := F
          simp only [fltV] at CQ
          have u1 := bneT p2
          have u2 := beqF p2
          clear p1 p2 p3 hF TH
          have B0 : Below w.heap.size w w := Below.refl _ _
          go_wp2_with fail
          refine (CC.out _).mono ?_
          rintro e w' ⟨rfl, rfl⟩
          go_wp2_with fail
          have HE1 := HE.out.below (B := w.heap.size) (w' := w.alloc (.cells #[.slice none 0 0] 44)) (by go_grown) (Nat.le_refl _)
          refine (CQ.out _ HE1).mono ?_
          rintro e w1 ⟨pa, pc, rfl, VP, hb⟩
          replace VP := Lib.hid VP
          have B1 : Below w.heap.size w w1 := bcall (by go_grown) hb (by go_size)
          have q1 : w.heap.size + 1 ≤ w1.heap.size := by have z := hb.size; (try simp only [World.size_alloc] at z); omega
          have R := ((Bk.new (r := w.heap.size) (cs := [.slice none 0 0]) _ 44 (by simp))).below hb (by go_size)
          clear hb
          have s1 : w.heap.size ≤ w1.heap.size := B1.size
          obtain ⟨R_c, R_f, R_l⟩ := id R
          go_wp2_with fail
          have RN := ((R.set (k := 0) (by simp) (.slice none 0 0)).alloc (.cells #[.int .i64 Pl.Ver.zero.maj, .int .i64 Pl.Ver.zero.min, .int .i64 Pl.Ver.zero.pat, .slice pa Pl.Ver.zero.pre.length pc] 48)).alloc (.cells #[.int .i64 f1, .int .i64 f2] 30)
          obtain ⟨RN_c, RN_f, RN_l⟩ := RN
          refine bodyPost_ret (v := .tuple #[.agg #[.slice none 0 0], .int .i64 1]) (by simp [results, Tryz.results31, go_sem, RN_c]) rfl (RTerm.bad EV.out (by go_grown))
        · have EV := Lib.hid (TH.out.2 v p1)
          rw [p2, p3] at CQ
          delta RVerF at CQ
          simp only [fltV] at CQ
          have OV := Lib.hid okv
          have c62 : ((⟨#[61]⟩ : ByteArray).toList == (⟨#[62]⟩ : ByteArray).toList) = false := (strB [61] [62]).trans (by decide)
          have c6061 : ((⟨#[61]⟩ : ByteArray).toList == (⟨#[60, 61]⟩ : ByteArray).toList) = false := (strB [61] [60, 61]).trans (by decide)
          have c61 : ((⟨#[61]⟩ : ByteArray).toList == (⟨#[61]⟩ : ByteArray).toList) = true := (strB [61] [61]).trans (by decide)
          have c94 : ((⟨#[61]⟩ : ByteArray).toList == (⟨#[94]⟩ : ByteArray).toList) = false := (strB [61] [94]).trans (by decide)
          have c126 : ((⟨#[61]⟩ : ByteArray).toList == (⟨#[126]⟩ : ByteArray).toList) = false := (strB [61] [126]).trans (by decide)
          have c6261 : ((⟨#[61]⟩ : ByteArray).toList == (⟨#[62, 61]⟩ : ByteArray).toList) = false := (strB [61] [62, 61]).trans (by decide)
          have c60 : ((⟨#[61]⟩ : ByteArray).toList == (⟨#[60]⟩ : ByteArray).toList) = false := (strB [61] [60]).trans (by decide)
          clear p1 p2 p3 TH okv
          have EB : Hid (Pl.opR [61] v = if (Pl.vrF (Pl.verNext v)).1 ≠ 0 then ([], 10) else (Pl.oneR v (Pl.verNext v), 0)) := Lib.hid rfl
          rcases Pl.vrF_cases (Pl.verNext v) with ⟨n1, okn⟩ | n1
          · have EV2 := Lib.hid (EV.out.trans (EB.out.trans (if_neg (by rw [n1]; decide))))
            clear EV EB
            have NX := Pl.next_yes (Pl.vrF_ok OV.out) n1
            have CN := Lib.hid (fun (W : World) (pa : Option Addr) (pc : Nat) (g : VIn W v pa pc) => Next_any v pa pc W g)
            rw [NX.1, NX.2] at CN
            delta RVerF at CN
            simp only [fltV] at CN
            clear NX
            have OB := Lib.hid okn
            obtain ⟨B0v, hB0⟩ : ∃ b, Pl.verNext v = b := ⟨_, rfl⟩
            rw [hB0] at CN OB EV2
            clear hB0 n1 okn
            have B0 : Below w.heap.size w w := Below.refl _ _
            go_wp2_with fail
            refine (CC.out _).mono ?_
            rintro e w' ⟨rfl, rfl⟩
            go_wp2_with fail
            have HE1 := HE.out.below (B := w.heap.size) (w' := w.alloc (.cells #[.slice none 0 0] 44)) (by go_grown) (Nat.le_refl _)
            refine (CQ.out _ HE1).mono ?_
            rintro e w1 ⟨pa, pc, rfl, VP, hb⟩
            replace VP := Lib.hid VP
            have B1 : Below w.heap.size w w1 := bcall (by go_grown) hb (by go_size)
            have q1 : w.heap.size + 1 ≤ w1.heap.size := by have z := hb.size; (try simp only [World.size_alloc] at z); omega
            have R := ((Bk.new (r := w.heap.size) (cs := [.slice none 0 0]) _ 44 (by simp))).below hb (by go_size)
            clear hb
            have s1 : w.heap.size ≤ w1.heap.size := B1.size
            obtain ⟨R_c, R_f, R_l⟩ := id R
            go_wp2_with fail
            refine (CN.out _ pa pc (VP.out.below (by go_grown) (Nat.le_refl _))).mono ?_
            rintro e w2 ⟨qa, qc, rfl, VB, hb⟩
            replace VB := Lib.hid VB
            have B2 : Below w.heap.size w w2 := bcall (by go_grown) hb (by go_size)
            have q2 : w1.heap.size + 3 ≤ w2.heap.size := by have z := hb.size; (try simp only [World.size_alloc] at z); omega
            replace VP := Lib.hid ((((VP.out.below (Below.refl _ _ |>.alloc (Nat.le_refl _) _) (Nat.le_refl _)).below (Below.refl _ _ |>.alloc (Nat.le_refl _) _) (Nat.le_refl _)).below (Below.refl _ _ |>.alloc (Nat.le_refl _) _) (Nat.le_refl _)).below hb (Nat.le_refl _))
            replace R := ((((R.alloc _).alloc _).alloc _)).below hb (by go_size)
            have V := ((((Bk.new (r := w1.heap.size) (cs := [.int .i64 v.maj, .int .i64 v.min, .int .i64 v.pat, .slice pa v.pre.length pc]) _ 48 (by simp)).alloc _).alloc _)).below hb (by go_size)
            have F := (((Bk.new (r := w1.heap.size + 1) (cs := [.int .i64 0, .int .i64 0]) _ 30 (by simp)).alloc _)).below hb (by go_size)
            have B := ((Bk.new (r := w1.heap.size + 1 + 1) (cs := [.int .i64 v.maj, .int .i64 v.min, .int .i64 v.pat, .slice pa v.pre.length pc]) _ 48 (by simp))).below hb (by go_size)
            clear hb
            have s2 : w.heap.size ≤ w2.heap.size := B2.size
            clear R_c R_f R_l
            obtain ⟨R_c, R_f, R_l⟩ := id R
            obtain ⟨V_c, V_f, V_l⟩ := id V
            obtain ⟨F_c, F_f, F_l⟩ := id F
            obtain ⟨B_c, B_f, B_l⟩ := id B
            go_wp2_with fail
            clear R_c R_f R_l V_c V_f V_l F_c F_f F_l B_c B_f B_l
            replace VP := Lib.hid (VP.out.setNS (B.c 0) (fun _ h => by cases h) (.int .i64 B0v.maj))
            replace VB := Lib.hid (VB.out.setNS (B.c 0) (fun _ h => by cases h) (.int .i64 B0v.maj))
            replace R := R.far (a := ⟨w1.heap.size + 1 + 1, 0, none⟩) (by dsimp only; omega) (.int .i64 B0v.maj)
            replace V := V.far (a := ⟨w1.heap.size + 1 + 1, 0, none⟩) (by dsimp only; omega) (.int .i64 B0v.maj)
            replace F := F.far (a := ⟨w1.heap.size + 1 + 1, 0, none⟩) (by dsimp only; omega) (.int .i64 B0v.maj)
            replace B : Bk (w2.setCell ⟨w1.heap.size + 1 + 1, 0, none⟩ (.int .i64 B0v.maj)) (w1.heap.size + 1 + 1) [.int .i64 B0v.maj, .int .i64 v.min, .int .i64 v.pat, .slice pa v.pre.length pc] := B.set (k := 0) (by simp) (.int .i64 B0v.maj)
            replace VP := Lib.hid (VP.out.setNS (B.c 1) (fun _ h => by cases h) (.int .i64 B0v.min))
            replace VB := Lib.hid (VB.out.setNS (B.c 1) (fun _ h => by cases h) (.int .i64 B0v.min))
            replace R := R.far (a := ⟨w1.heap.size + 1 + 1, 1, none⟩) (by dsimp only; omega) (.int .i64 B0v.min)
            replace V := V.far (a := ⟨w1.heap.size + 1 + 1, 1, none⟩) (by dsimp only; omega) (.int .i64 B0v.min)
            replace F := F.far (a := ⟨w1.heap.size + 1 + 1, 1, none⟩) (by dsimp only; omega) (.int .i64 B0v.min)
            replace B : Bk ((w2.setCell ⟨w1.heap.size + 1 + 1, 0, none⟩ (.int .i64 B0v.maj)).setCell ⟨w1.heap.size + 1 + 1, 1, none⟩ (.int .i64 B0v.min)) (w1.heap.size + 1 + 1) [.int .i64 B0v.maj, .int .i64 B0v.min, .int .i64 v.pat, .slice pa v.pre.length pc] := B.set (k := 1) (by simp) (.int .i64 B0v.min)
            replace VP := Lib.hid (VP.out.setNS (B.c 2) (fun _ h => by cases h) (.int .i64 B0v.pat))
            replace VB := Lib.hid (VB.out.setNS (B.c 2) (fun _ h => by cases h) (.int .i64 B0v.pat))
            replace R := R.far (a := ⟨w1.heap.size + 1 + 1, 2, none⟩) (by dsimp only; omega) (.int .i64 B0v.pat)
            replace V := V.far (a := ⟨w1.heap.size + 1 + 1, 2, none⟩) (by dsimp only; omega) (.int .i64 B0v.pat)
            replace F := F.far (a := ⟨w1.heap.size + 1 + 1, 2, none⟩) (by dsimp only; omega) (.int .i64 B0v.pat)
            replace B : Bk (((w2.setCell ⟨w1.heap.size + 1 + 1, 0, none⟩ (.int .i64 B0v.maj)).setCell ⟨w1.heap.size + 1 + 1, 1, none⟩ (.int .i64 B0v.min)).setCell ⟨w1.heap.size + 1 + 1, 2, none⟩ (.int .i64 B0v.pat)) (w1.heap.size + 1 + 1) [.int .i64 B0v.maj, .int .i64 B0v.min, .int .i64 B0v.pat, .slice pa v.pre.length pc] := B.set (k := 2) (by simp) (.int .i64 B0v.pat)
            replace VP := Lib.hid (VP.out.setNS (B.c 3) (fun _ h => by cases h) (.slice qa B0v.pre.length qc))
            replace VB := Lib.hid (VB.out.setNS (B.c 3) (fun _ h => by cases h) (.slice qa B0v.pre.length qc))
            replace R := R.far (a := ⟨w1.heap.size + 1 + 1, 3, none⟩) (by dsimp only; omega) (.slice qa B0v.pre.length qc)
            replace V := V.far (a := ⟨w1.heap.size + 1 + 1, 3, none⟩) (by dsimp only; omega) (.slice qa B0v.pre.length qc)
            replace F := F.far (a := ⟨w1.heap.size + 1 + 1, 3, none⟩) (by dsimp only; omega) (.slice qa B0v.pre.length qc)
            replace B : Bk ((((w2.setCell ⟨w1.heap.size + 1 + 1, 0, none⟩ (.int .i64 B0v.maj)).setCell ⟨w1.heap.size + 1 + 1, 1, none⟩ (.int .i64 B0v.min)).setCell ⟨w1.heap.size + 1 + 1, 2, none⟩ (.int .i64 B0v.pat)).setCell ⟨w1.heap.size + 1 + 1, 3, none⟩ (.slice qa B0v.pre.length qc)) (w1.heap.size + 1 + 1) [.int .i64 B0v.maj, .int .i64 B0v.min, .int .i64 B0v.pat, .slice qa B0v.pre.length qc] := B.set (k := 3) (by simp) (.slice qa B0v.pre.length qc)
            replace VP := Lib.hid (VP.out.setNS (F.c 0) (fun _ h => by cases h) (.int .i64 0))
            replace VB := Lib.hid (VB.out.setNS (F.c 0) (fun _ h => by cases h) (.int .i64 0))
            replace R := R.far (a := ⟨w1.heap.size + 1, 0, none⟩) (by dsimp only; omega) (.int .i64 0)
            replace V := V.far (a := ⟨w1.heap.size + 1, 0, none⟩) (by dsimp only; omega) (.int .i64 0)
            replace B := B.far (a := ⟨w1.heap.size + 1, 0, none⟩) (by dsimp only; omega) (.int .i64 0)
            replace F : Bk (((((w2.setCell ⟨w1.heap.size + 1 + 1, 0, none⟩ (.int .i64 B0v.maj)).setCell ⟨w1.heap.size + 1 + 1, 1, none⟩ (.int .i64 B0v.min)).setCell ⟨w1.heap.size + 1 + 1, 2, none⟩ (.int .i64 B0v.pat)).setCell ⟨w1.heap.size + 1 + 1, 3, none⟩ (.slice qa B0v.pre.length qc)).setCell ⟨w1.heap.size + 1, 0, none⟩ (.int .i64 0)) (w1.heap.size + 1) [.int .i64 0, .int .i64 0] := F.set (k := 0) (by simp) (.int .i64 0)
            replace VP := Lib.hid (VP.out.setNS (F.c 1) (fun _ h => by cases h) (.int .i64 0))
            replace VB := Lib.hid (VB.out.setNS (F.c 1) (fun _ h => by cases h) (.int .i64 0))
            replace R := R.far (a := ⟨w1.heap.size + 1, 1, none⟩) (by dsimp only; omega) (.int .i64 0)
            replace V := V.far (a := ⟨w1.heap.size + 1, 1, none⟩) (by dsimp only; omega) (.int .i64 0)
            replace B := B.far (a := ⟨w1.heap.size + 1, 1, none⟩) (by dsimp only; omega) (.int .i64 0)
            replace F : Bk ((((((w2.setCell ⟨w1.heap.size + 1 + 1, 0, none⟩ (.int .i64 B0v.maj)).setCell ⟨w1.heap.size + 1 + 1, 1, none⟩ (.int .i64 B0v.min)).setCell ⟨w1.heap.size + 1 + 1, 2, none⟩ (.int .i64 B0v.pat)).setCell ⟨w1.heap.size + 1 + 1, 3, none⟩ (.slice qa B0v.pre.length qc)).setCell ⟨w1.heap.size + 1, 0, none⟩ (.int .i64 0)).setCell ⟨w1.heap.size + 1, 1, none⟩ (.int .i64 0)) (w1.heap.size + 1) [.int .i64 0, .int .i64 0] := F.set (k := 1) (by simp) (.int .i64 0)
            refine (span_any v B0v pa qa pc qc _ VP.out VB.out OV.out OB.out).mono ?_
            rintro e w3 ⟨o5, k5, rfl, A5, hb⟩
            have B3 : Below w.heap.size w w3 := bcall (by go_grown) hb (by go_size)
            have q3 : w2.heap.size + 0 ≤ w3.heap.size := by have z := hb.size; (try simp only [World.size_setCell] at z); omega
            replace VP := Lib.hid (VP.out.below hb (Nat.le_refl _))
            replace VB := Lib.hid (VB.out.below hb (Nat.le_refl _))
            replace R := (R).below hb (by go_size)
            replace V := (V).below hb (by go_size)
            replace F := (F).below hb (by go_size)
            replace B := (B).below hb (by go_size)
            clear hb
            have s3 : w.heap.size ≤ w3.heap.size := B3.size
            obtain ⟨R_c, R_f, R_l⟩ := id R
            obtain ⟨V_c, V_f, V_l⟩ := id V
            obtain ⟨F_c, F_f, F_l⟩ := id F
            obtain ⟨B_c, B_f, B_l⟩ := id B
            go_wp2_with fail
            have RN := R.set (k := 0) (by simp) (.slice o5 (Pl.oneR v B0v).length k5)
            obtain ⟨RN_c, RN_f, RN_l⟩ := RN
            refine bodyPost_ret (v := .tuple #[.agg #[.slice o5 (Pl.oneR v B0v).length k5], .int .i64 0]) (by simp [results, Tryz.results31, go_sem, RN_c]) rfl (RTerm.ok EV2.out (A5.setBk R (by simp) (j := 0) rfl (fun _ h => by cases h) _) (by go_grown))
          · have EV2 := Lib.hid (EV.out.trans (EB.out.trans (if_pos n1)))
            clear EV EB
            have NX := Pl.next_no (Pl.vrF_ok OV.out) n1
            have CN := Lib.hid (fun (W : World) (pa : Option Addr) (pc : Nat) (g : VIn W v pa pc) => Next_any v pa pc W g)
            obtain ⟨F, hF⟩ : ∃ F, Pl.nextF v = F := ⟨_, rfl⟩
            obtain ⟨B0v, hB0⟩ : ∃ b, Pl.nextV v = b := ⟨_, rfl⟩
            rw [hF, hB0] at CN
            have nf : F.1 ≠ 0 := by rw [← hF, NX.2]; decide
            obtain ⟨f1, f2⟩ := F
            delta RVerF at CN
            simp only [fltV] at CN
            have u1 := bneT nf
            have u2 := beqF nf
            clear NX hF hB0 nf n1
            have B0 : Below w.heap.size w w := Below.refl _ _
            go_wp2_with fail
            refine (CC.out _).mono ?_
            rintro e w' ⟨rfl, rfl⟩
            go_wp2_with fail
            have HE1 := HE.out.below (B := w.heap.size) (w' := w.alloc (.cells #[.slice none 0 0] 44)) (by go_grown) (Nat.le_refl _)
            refine (CQ.out _ HE1).mono ?_
            rintro e w1 ⟨pa, pc, rfl, VP, hb⟩
            replace VP := Lib.hid VP
            have B1 : Below w.heap.size w w1 := bcall (by go_grown) hb (by go_size)
            have q1 : w.heap.size + 1 ≤ w1.heap.size := by have z := hb.size; (try simp only [World.size_alloc] at z); omega
            have R := ((Bk.new (r := w.heap.size) (cs := [.slice none 0 0]) _ 44 (by simp))).below hb (by go_size)
            clear hb
            have s1 : w.heap.size ≤ w1.heap.size := B1.size
            obtain ⟨R_c, R_f, R_l⟩ := id R
            go_wp2_with fail
            refine (CN.out _ pa pc (VP.out.below (by go_grown) (Nat.le_refl _))).mono ?_
            rintro e w2 ⟨qa, qc, rfl, VB, hb⟩
            replace VB := Lib.hid VB
            have B2 : Below w.heap.size w w2 := bcall (by go_grown) hb (by go_size)
            have q2 : w1.heap.size + 3 ≤ w2.heap.size := by have z := hb.size; (try simp only [World.size_alloc] at z); omega
            replace VP := Lib.hid ((((VP.out.below (Below.refl _ _ |>.alloc (Nat.le_refl _) _) (Nat.le_refl _)).below (Below.refl _ _ |>.alloc (Nat.le_refl _) _) (Nat.le_refl _)).below (Below.refl _ _ |>.alloc (Nat.le_refl _) _) (Nat.le_refl _)).below hb (Nat.le_refl _))
            replace R := ((((R.alloc _).alloc _).alloc _)).below hb (by go_size)
            have V := ((((Bk.new (r := w1.heap.size) (cs := [.int .i64 v.maj, .int .i64 v.min, .int .i64 v.pat, .slice pa v.pre.length pc]) _ 48 (by simp)).alloc _).alloc _)).below hb (by go_size)
            have F := (((Bk.new (r := w1.heap.size + 1) (cs := [.int .i64 0, .int .i64 0]) _ 30 (by simp)).alloc _)).below hb (by go_size)
            have B := ((Bk.new (r := w1.heap.size + 1 + 1) (cs := [.int .i64 v.maj, .int .i64 v.min, .int .i64 v.pat, .slice pa v.pre.length pc]) _ 48 (by simp))).below hb (by go_size)
            clear hb
            have s2 : w.heap.size ≤ w2.heap.size := B2.size
            clear R_c R_f R_l
            obtain ⟨R_c, R_f, R_l⟩ := id R
            obtain ⟨V_c, V_f, V_l⟩ := id V
            obtain ⟨F_c, F_f, F_l⟩ := id F
            obtain ⟨B_c, B_f, B_l⟩ := id B
            dsimp only
            iterate 50 (first | go_values | go_skip | go_guarded | go_step | go_upon)
            (try simp only [Exit.inBlock, Exit.then])
            clear R_c R_f R_l V_c V_f V_l F_c F_f F_l B_c B_f B_l
            replace VP := Lib.hid (VP.out.setNS (B.c 0) (fun _ h => by cases h) (.int .i64 B0v.maj))
            replace VB := Lib.hid (VB.out.setNS (B.c 0) (fun _ h => by cases h) (.int .i64 B0v.maj))
            replace R := R.far (a := ⟨w1.heap.size + 1 + 1, 0, none⟩) (by dsimp only; omega) (.int .i64 B0v.maj)
            replace V := V.far (a := ⟨w1.heap.size + 1 + 1, 0, none⟩) (by dsimp only; omega) (.int .i64 B0v.maj)
            replace F := F.far (a := ⟨w1.heap.size + 1 + 1, 0, none⟩) (by dsimp only; omega) (.int .i64 B0v.maj)
            replace B : Bk (w2.setCell ⟨w1.heap.size + 1 + 1, 0, none⟩ (.int .i64 B0v.maj)) (w1.heap.size + 1 + 1) [.int .i64 B0v.maj, .int .i64 v.min, .int .i64 v.pat, .slice pa v.pre.length pc] := B.set (k := 0) (by simp) (.int .i64 B0v.maj)
            replace VP := Lib.hid (VP.out.setNS (B.c 1) (fun _ h => by cases h) (.int .i64 B0v.min))
            replace VB := Lib.hid (VB.out.setNS (B.c 1) (fun _ h => by cases h) (.int .i64 B0v.min))
            replace R := R.far (a := ⟨w1.heap.size + 1 + 1, 1, none⟩) (by dsimp only; omega) (.int .i64 B0v.min)
            replace V := V.far (a := ⟨w1.heap.size + 1 + 1, 1, none⟩) (by dsimp only; omega) (.int .i64 B0v.min)
            replace F := F.far (a := ⟨w1.heap.size + 1 + 1, 1, none⟩) (by dsimp only; omega) (.int .i64 B0v.min)
            replace B : Bk ((w2.setCell ⟨w1.heap.size + 1 + 1, 0, none⟩ (.int .i64 B0v.maj)).setCell ⟨w1.heap.size + 1 + 1, 1, none⟩ (.int .i64 B0v.min)) (w1.heap.size + 1 + 1) [.int .i64 B0v.maj, .int .i64 B0v.min, .int .i64 v.pat, .slice pa v.pre.length pc] := B.set (k := 1) (by simp) (.int .i64 B0v.min)
            replace VP := Lib.hid (VP.out.setNS (B.c 2) (fun _ h => by cases h) (.int .i64 B0v.pat))
            replace VB := Lib.hid (VB.out.setNS (B.c 2) (fun _ h => by cases h) (.int .i64 B0v.pat))
            replace R := R.far (a := ⟨w1.heap.size + 1 + 1, 2, none⟩) (by dsimp only; omega) (.int .i64 B0v.pat)
            replace V := V.far (a := ⟨w1.heap.size + 1 + 1, 2, none⟩) (by dsimp only; omega) (.int .i64 B0v.pat)
            replace F := F.far (a := ⟨w1.heap.size + 1 + 1, 2, none⟩) (by dsimp only; omega) (.int .i64 B0v.pat)
            replace B : Bk (((w2.setCell ⟨w1.heap.size + 1 + 1, 0, none⟩ (.int .i64 B0v.maj)).setCell ⟨w1.heap.size + 1 + 1, 1, none⟩ (.int .i64 B0v.min)).setCell ⟨w1.heap.size + 1 + 1, 2, none⟩ (.int .i64 B0v.pat)) (w1.heap.size + 1 + 1) [.int .i64 B0v.maj, .int .i64 B0v.min, .int .i64 B0v.pat, .slice pa v.pre.length pc] := B.set (k := 2) (by simp) (.int .i64 B0v.pat)
            replace VP := Lib.hid (VP.out.setNS (B.c 3) (fun _ h => by cases h) (.slice qa B0v.pre.length qc))
            replace VB := Lib.hid (VB.out.setNS (B.c 3) (fun _ h => by cases h) (.slice qa B0v.pre.length qc))
            replace R := R.far (a := ⟨w1.heap.size + 1 + 1, 3, none⟩) (by dsimp only; omega) (.slice qa B0v.pre.length qc)
            replace V := V.far (a := ⟨w1.heap.size + 1 + 1, 3, none⟩) (by dsimp only; omega) (.slice qa B0v.pre.length qc)
            replace F := F.far (a := ⟨w1.heap.size + 1 + 1, 3, none⟩) (by dsimp only; omega) (.slice qa B0v.pre.length qc)
            replace B : Bk ((((w2.setCell ⟨w1.heap.size + 1 + 1, 0, none⟩ (.int .i64 B0v.maj)).setCell ⟨w1.heap.size + 1 + 1, 1, none⟩ (.int .i64 B0v.min)).setCell ⟨w1.heap.size + 1 + 1, 2, none⟩ (.int .i64 B0v.pat)).setCell ⟨w1.heap.size + 1 + 1, 3, none⟩ (.slice qa B0v.pre.length qc)) (w1.heap.size + 1 + 1) [.int .i64 B0v.maj, .int .i64 B0v.min, .int .i64 B0v.pat, .slice qa B0v.pre.length qc] := B.set (k := 3) (by simp) (.slice qa B0v.pre.length qc)
            replace VP := Lib.hid (VP.out.setNS (F.c 0) (fun _ h => by cases h) (.int .i64 f1))
            replace VB := Lib.hid (VB.out.setNS (F.c 0) (fun _ h => by cases h) (.int .i64 f1))
            replace R := R.far (a := ⟨w1.heap.size + 1, 0, none⟩) (by dsimp only; omega) (.int .i64 f1)
            replace V := V.far (a := ⟨w1.heap.size + 1, 0, none⟩) (by dsimp only; omega) (.int .i64 f1)
            replace B := B.far (a := ⟨w1.heap.size + 1, 0, none⟩) (by dsimp only; omega) (.int .i64 f1)
            replace F : Bk (((((w2.setCell ⟨w1.heap.size + 1 + 1, 0, none⟩ (.int .i64 B0v.maj)).setCell ⟨w1.heap.size + 1 + 1, 1, none⟩ (.int .i64 B0v.min)).setCell ⟨w1.heap.size + 1 + 1, 2, none⟩ (.int .i64 B0v.pat)).setCell ⟨w1.heap.size + 1 + 1, 3, none⟩ (.slice qa B0v.pre.length qc)).setCell ⟨w1.heap.size + 1, 0, none⟩ (.int .i64 f1)) (w1.heap.size + 1) [.int .i64 f1, .int .i64 0] := F.set (k := 0) (by simp) (.int .i64 f1)
            replace VP := Lib.hid (VP.out.setNS (F.c 1) (fun _ h => by cases h) (.int .i64 f2))
            replace VB := Lib.hid (VB.out.setNS (F.c 1) (fun _ h => by cases h) (.int .i64 f2))
            replace R := R.far (a := ⟨w1.heap.size + 1, 1, none⟩) (by dsimp only; omega) (.int .i64 f2)
            replace V := V.far (a := ⟨w1.heap.size + 1, 1, none⟩) (by dsimp only; omega) (.int .i64 f2)
            replace B := B.far (a := ⟨w1.heap.size + 1, 1, none⟩) (by dsimp only; omega) (.int .i64 f2)
            replace F : Bk ((((((w2.setCell ⟨w1.heap.size + 1 + 1, 0, none⟩ (.int .i64 B0v.maj)).setCell ⟨w1.heap.size + 1 + 1, 1, none⟩ (.int .i64 B0v.min)).setCell ⟨w1.heap.size + 1 + 1, 2, none⟩ (.int .i64 B0v.pat)).setCell ⟨w1.heap.size + 1 + 1, 3, none⟩ (.slice qa B0v.pre.length qc)).setCell ⟨w1.heap.size + 1, 0, none⟩ (.int .i64 f1)).setCell ⟨w1.heap.size + 1, 1, none⟩ (.int .i64 f2)) (w1.heap.size + 1) [.int .i64 f1, .int .i64 f2] := F.set (k := 1) (by simp) (.int .i64 f2)
            have RN := R.set (k := 0) (by simp) (.slice none 0 0)
            obtain ⟨RN_c, RN_f, RN_l⟩ := RN
            refine bodyPost_ret (v := .tuple #[.agg #[.slice none 0 0], .int .i64 10]) (by simp [results, Tryz.results31, go_sem, RN_c]) rfl (RTerm.bad EV2.out (by go_grown))
end Go.Proofs.YtgngehfgcogceaaGreatDoor

end
section
/- The range of the operator = and a version's text, in plain words. No program in sight. -/
namespace Go.Proofs.YtgngehfgcogceaaGreatDoor
namespace Pl

theorem exact_term {v : Ver} (h : v.Ok) : termR (61 :: verT v) = opR [61] v := by
  rw [show (61 :: verT v) = [61] ++ verT v from rfl, term_hit (by decide) (by decide) (ref_iff.2 ⟨h, rfl⟩) (by simp)]
theorem exact_op (v : Ver) : opR [61] v = if (vrF (verNext v)).1 ≠ 0 then ([], 10) else (oneR v (verNext v), 0) := rfl
theorem next_gt {v : Ver} (_h : v.Ok) (hn : (verNext v).Ok) : verCmp v (verNext v) < 0 := (next_succ v (verNext v) fun s hs => hn.i s hs).2 (by rw [vc_self]; exact Int.le_refl _)
/-- What the text is read as. -/
theorem exact_rng {v : Ver} (h : v.Ok) : rngP (61 :: verT v) = if (vrF (verNext v)).1 ≠ 0 then ([], 10, 0) else ([⟨v, verNext v, false⟩], 0, 0) := by
  have n1 := verT_no h (c := 32) (by decide) (by decide)
  have n2 := verT_no h (c := 124) (by decide) (by decide)
  have m1 : (32 : UInt8) ∉ (61 :: verT v) := by simp [n1]
  have m2 : (124 : UInt8) ∉ (61 :: verT v) := by simp [n2]
  have hs : Lib.split (61 :: verT v) barS = [61 :: verT v] := bars_no (bar_no m2)
  have ha : altR (61 :: verT v) = if (vrF (verNext v)).1 ≠ 0 then ([], 10) else ([⟨v, verNext v, false⟩], 0) := by
    unfold altR
    rw [split_no m1]
    by_cases c : (vrF (verNext v)).1 ≠ 0
    · rw [if_pos c, altF, exact_term h, exact_op, if_pos c]
      rfl
    · rw [if_neg c]
      have e : termR (61 :: verT v) = (oneR v (verNext v), 0) := by rw [exact_term h, exact_op, if_neg c]
      have hn : (verNext v).Ok := by
        rcases vrF_cases (verNext v) with ⟨-, ok⟩ | h2
        · exact ok
        · exact absurd h2 c
      rw [altF_one e, altF, com_all (oneR_can h hn), oneR, if_pos (next_gt h hn)]
  unfold rngP
  rw [hs]
  by_cases c : (vrF (verNext v)).1 ≠ 0
  · rw [if_pos c] at ha ⊢
    have e : altsF [] 0 [61 :: verT v] = ([], 10, 0) := by rw [altsF, ha]; rfl
    rw [e]; rfl
  · rw [if_neg c] at ha ⊢
    have hn : (verNext v).Ok := by
      rcases vrF_cases (verNext v) with ⟨-, ok⟩ | h2
      · exact ok
      · exact absurd h2 c
    have hu : unionR [] [⟨v, verNext v, false⟩] = [⟨v, verNext v, false⟩] := by
      have hc : Can [⟨v, verNext v, false⟩] := Can.one ⟨h, hn, fun h => Bool.noConfusion h, fun _ => next_gt h hn⟩
      obtain ⟨h1, h2⟩ := unionR_can (a := []) (b := [⟨v, verNext v, false⟩]) Can.nil hc.ok
      exact can_ext h1 hc fun x hx => by rw [h2, hasB_nil, Bool.false_or]
    have e : altsF [] 0 [61 :: verT v] = ([⟨v, verNext v, false⟩], 0, 0) := by
      rw [altsF, ha, if_neg (by simp), altsF, hu]
    rw [e]; rfl
end Pl
end Go.Proofs.YtgngehfgcogceaaGreatDoor

end
