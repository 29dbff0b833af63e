/- Contract: a term of a range is read, by the program: operator number 5. -/
import Derived.Test.YtolfgcoalihmgaaGreatDoorMDma
namespace Go.Proofs.YtolfgcoalihmgaaGreatDoor
open Go.RowKit
set_option maxRecDepth 100000 in
set_option maxHeartbeats 16000000 in
theorem term_op5 (s : ByteArray) (w : World) (E : Env w) (hs : s.size ≤ 9223372036854775807) (h42 : Pl.bsl s ≠ [42]) (hno : ∀ m (h : m < 7), m < 5 → ¬ Pl.opsL[m] <+: Pl.bsl s) (t : List UInt8) (ht0 : [94] ++ t = Pl.bsl s) : Calls Tryz.prog 62 #[.string s] w (RTerm (Pl.termP (Pl.bsl s)) w) := by
 obtain ⟨V, hV⟩ : ∃ V, Pl.termP (Pl.bsl s) = V := ⟨_, rfl⟩
 rw [hV]
 have HV := Hd (show Pl.tryOps (Pl.bsl s) (Pl.opsL.drop 0) = V by unfold Pl.termP at hV; rwa [if_neg h42] at hV)
 have s0 : (s.toList == [42]) = false := by rw [beq_eq_false_iff_ne, ne_eq, ba_toList]; exact h42
 have HE := Hd E
 have HT := Hd ht0
 have HNO := Hd hno
 have i0 := idxOp0
 have i1 := idxOp1
 have i2 := idxOp2
 have i3 := idxOp3
 have i4 := idxOp4
 have i5 := idxOp5
 clear hV h42 E ht0 hno
 go_enter Tryz.func62, Tryz.ntmps62
 go_wp2_with fail
 go_loop [16] (fun i => ∃ m : Nat, m ≤ 5 ∧ i = .int .i64 (m : Int) ∧ Hid (Pl.tryOps (Pl.bsl s) (Pl.opsL.drop m) = V)) (fun i => 7 - (intOf i).toNat)
 case atStart => exact ⟨0, by decide, rfl, HV⟩
 case round =>
  obtain ⟨m, hj, rfl, hu⟩ := hrel
  clear HV
  match m, hj with
  | 0, _ =>
    have hp : ¬ [62, 61] <+: Pl.bsl s := HNO.out 0 (by decide) (by decide)
    have E := Hd (Pl.try_miss hp hu.out)
    have CC := Hd (fun (W : World) => cutPrefix_miss s (⟨#[62, 61]⟩ : ByteArray) W hp hs (by decide))
    clear hp hu HT HNO
    go_wp2_with fail
    refine (CC.out _).mono ?_
    rintro e w' ⟨rfl, rfl⟩
    go_wp2_with fail
    go_round
    case rel => exact ⟨1, by decide, by go_num, E⟩
    case measure => simp [intOf]
  | 1, _ =>
    have hp : ¬ [60, 61] <+: Pl.bsl s := HNO.out 1 (by decide) (by decide)
    have E := Hd (Pl.try_miss hp hu.out)
    have CC := Hd (fun (W : World) => cutPrefix_miss s (⟨#[60, 61]⟩ : ByteArray) W hp hs (by decide))
    clear hp hu HT HNO
    go_wp2_with fail
    refine (CC.out _).mono ?_
    rintro e w' ⟨rfl, rfl⟩
    go_wp2_with fail
    go_round
    case rel => exact ⟨2, by decide, by go_num, E⟩
    case measure => simp [intOf]
  | 2, _ =>
    have hp : ¬ [62] <+: Pl.bsl s := HNO.out 2 (by decide) (by decide)
    have E := Hd (Pl.try_miss hp hu.out)
    have CC := Hd (fun (W : World) => cutPrefix_miss s (⟨#[62]⟩ : ByteArray) W hp hs (by decide))
    clear hp hu HT HNO
    go_wp2_with fail
    refine (CC.out _).mono ?_
    rintro e w' ⟨rfl, rfl⟩
    go_wp2_with fail
    go_round
    case rel => exact ⟨3, by decide, by go_num, E⟩
    case measure => simp [intOf]
  | 3, _ =>
    have hp : ¬ [60] <+: Pl.bsl s := HNO.out 3 (by decide) (by decide)
    have E := Hd (Pl.try_miss hp hu.out)
    have CC := Hd (fun (W : World) => cutPrefix_miss s (⟨#[60]⟩ : ByteArray) W hp hs (by decide))
    clear hp hu HT HNO
    go_wp2_with fail
    refine (CC.out _).mono ?_
    rintro e w' ⟨rfl, rfl⟩
    go_wp2_with fail
    go_round
    case rel => exact ⟨4, by decide, by go_num, E⟩
    case measure => simp [intOf]
  | 4, _ =>
    have hp : ¬ [61] <+: Pl.bsl s := HNO.out 4 (by decide) (by decide)
    have E := Hd (Pl.try_miss hp hu.out)
    have CC := Hd (fun (W : World) => cutPrefix_miss s (⟨#[61]⟩ : ByteArray) W hp hs (by decide))
    clear hp hu HT HNO
    go_wp2_with fail
    refine (CC.out _).mono ?_
    rintro e w' ⟨rfl, rfl⟩
    go_wp2_with fail
    go_round
    case rel => exact ⟨5, by decide, by go_num, E⟩
    case measure => simp [intOf]
  | 5, _ =>
    have hu2 : Hid (Pl.tryOps (Pl.bsl s) ([94] :: Pl.opsL.drop 6) = V) := Hd hu.out
    clear hu
    · have ht := HT.out
      have TH := Hd (Pl.try_hit ht.symm hu2.out)
      have CC := Hd (fun (W : World) => cutPrefix_hit s (⟨#[94]⟩ : ByteArray) (Pl.mkS t) W (by rw [Pl.bsl_at]; exact ht.symm) hs)
      have hts : (Pl.mkS t).size ≤ 9223372036854775807 := by
       have h1 := congrArg List.length ht
       rw [List.length_append] at h1
       have h2 : (Pl.bsl s).length = s.size := rfl
       have h3 : (Pl.mkS t).size = t.length := rfl
       omega
      have CQ := Hd (fun (W : World) (E : Env W) => Parse_any (Pl.mkS t) W hts E)
      have PC := Pl.par_cases (Pl.mkS t)
      rw [Pl.bsl_at] at PC
      clear ht hu2 hts i0 i1 i2 i3 i4 i5
      have i := idxOp5
      rcases PC with ⟨p1, p2, p3⟩ | ⟨v, p1, okv, p2, p3⟩
      · have EV := Hd (TH.out.1 p1)
        rw [p3] at CQ
        obtain ⟨F, hF⟩ : ∃ F, Pl.parF (Pl.mkS t) = F := ⟨_, rfl⟩
        rw [hF] at CQ p2
        delta RVerF at CQ
        obtain ⟨f1, f2⟩ := F
        simp only [fltV] at CQ
        have u1 := bneT p2
        have u2 := beqF p2
        clear p1 p2 p3 hF TH
        have B0 := brl w
        go_wp2_with fail
        refine (CC.out _).mono ?_
        rintro e w' ⟨rfl, rfl⟩
        go_wp2_with fail
        have HE1 := HE.out.below (B := w.heap.size) (w' := w.alloc (.cells #[.slice none 0 0] 33)) (by go_grown) nle
        refine (CQ.out _ HE1).mono ?_
        rintro e w1 ⟨pa, pc, rfl, VP, hb⟩
        replace VP := Hd VP
        have B1 := bcm w hb
        have q1 : w.heap.size + 1 ≤ w1.heap.size := qle hb
        have R := ((bkn w.heap.size [.slice none 0 0] 33)).bw hb
        clear hb
        have s1 := B1.size
        have ⟨Rc, Rf, Rl⟩ := R
        go_wp2_with fail
        have RN := ((R.st 0 (.slice none 0 0)).alloc (.cells #[.int .i64 Pl.Ver.zero.maj, .int .i64 Pl.Ver.zero.min, .int .i64 Pl.Ver.zero.pat, .slice pa Pl.Ver.zero.pre.length pc] 24)).alloc (.cells #[.int .i64 f1, .int .i64 f2] 27)
        obtain ⟨RNc, RNf, RNl⟩ := RN
        refine bodyPost_ret (v := .tuple #[.agg #[.slice none 0 0], .int .i64 1]) (by simp [results, Tryz.results62, go_sem, RNc]) rfl (RTerm.bad EV.out (by go_grown))
      · have EV := Hd (TH.out.2 v p1)
        rw [p2, p3] at CQ
        delta RVerF at CQ
        simp only [fltV] at CQ
        have OV := Hd okv
        have c62 : ((⟨#[94]⟩ : ByteArray).toList == (⟨#[62]⟩ : ByteArray).toList) = false := (strB [94] [62]).trans (by decide)
        have c6061 : ((⟨#[94]⟩ : ByteArray).toList == (⟨#[60, 61]⟩ : ByteArray).toList) = false := (strB [94] [60, 61]).trans (by decide)
        have c61 : ((⟨#[94]⟩ : ByteArray).toList == (⟨#[61]⟩ : ByteArray).toList) = false := (strB [94] [61]).trans (by decide)
        have c94 : ((⟨#[94]⟩ : ByteArray).toList == (⟨#[94]⟩ : ByteArray).toList) = true := (strB [94] [94]).trans (by decide)
        have c126 : ((⟨#[94]⟩ : ByteArray).toList == (⟨#[126]⟩ : ByteArray).toList) = false := (strB [94] [126]).trans (by decide)
        have c6261 : ((⟨#[94]⟩ : ByteArray).toList == (⟨#[62, 61]⟩ : ByteArray).toList) = false := (strB [94] [62, 61]).trans (by decide)
        have c60 : ((⟨#[94]⟩ : ByteArray).toList == (⟨#[60]⟩ : ByteArray).toList) = false := (strB [94] [60]).trans (by decide)
        clear p1 p2 p3 TH okv
        have EB : Hid (Pl.opR [94] v = if (Pl.vrF (Pl.capV v)).1 ≠ 0 then ([], 10) else (Pl.oneR v (Pl.capV v), 0)) := Hd rfl
        rcases Pl.vrF_cases (Pl.capV v) with ⟨n1, okn⟩ | n1
        · have EV2 := Hd (EV.out.trans (EB.out.trans (if_neg (by rw [n1]; decide))))
          clear EV EB
          have CA := Hd (fun (W : World) (pa : Option Addr) (pc : Nat) => above_cap v pa pc W OV.out)
          have CW := Hd (fun (W : World) (qa : Option Addr) (qc : Nat) (g : VIn W (Pl.capV v) qa qc) => Validate_any (Pl.capV v) qa qc W g)
          rw [n1] at CW
          have OB := Hd okn
          obtain ⟨B0v, hB0⟩ : ∃ b, Pl.capV v = b := ⟨_, rfl⟩
          rw [hB0] at CA CW OB EV2
          simp only [fltV] at CW
          clear hB0 n1 okn
          have B0 := brl w
          go_wp2_with fail
          refine (CC.out _).mono ?_
          rintro e w' ⟨rfl, rfl⟩
          go_wp2_with fail
          have HE1 := HE.out.below (B := w.heap.size) (w' := w.alloc (.cells #[.slice none 0 0] 33)) (by go_grown) nle
          refine (CQ.out _ HE1).mono ?_
          rintro e w1 ⟨pa, pc, rfl, VP, hb⟩
          replace VP := Hd VP
          have B1 := bcm w hb
          have q1 : w.heap.size + 1 ≤ w1.heap.size := qle hb
          have R := ((bkn w.heap.size [.slice none 0 0] 33)).bw hb
          clear hb
          have s1 := B1.size
          have ⟨Rc, Rf, Rl⟩ := R
          go_wp2_with fail
          refine (CA.out _ pa pc).mono ?_
          rintro e w2 ⟨qa, qc, rfl, VB, hb⟩
          replace VB := Hd VB
          have B2 := bcm w hb
          have q2 : w1.heap.size + 3 ≤ w2.heap.size := qle hb
          replace VP := Hd ((((VP.out.al _).al _).al _).bl hb)
          replace R := ((((R.alloc _).alloc _).alloc _)).bw hb
          have V := ((((bkn w1.heap.size [.int .i64 v.maj, .int .i64 v.min, .int .i64 v.pat, .slice pa v.pre.length pc] 24).alloc _).alloc _)).bw hb
          have F := (((bkn (w1.heap.size + 1) [.int .i64 0, .int .i64 0] 27).alloc _)).bw hb
          have B := ((bkn (w1.heap.size + 1 + 1) [.int .i64 v.maj, .int .i64 v.min, .int .i64 v.pat, .slice pa v.pre.length pc] 24)).bw hb
          clear hb
          have s2 := B2.size
          clear Rc Rf Rl
          have ⟨Rc, Rf, Rl⟩ := R
          have ⟨Vc, Vf, Vl⟩ := V
          have ⟨Fc, Ff, Fl⟩ := F
          have ⟨Bc, Bf, Bl⟩ := B
          go_wp2_with fail
          clear Rc Rf Rl Vc Vf Vl Fc Ff Fl Bc Bf Bl
          replace VP := Hd (VP.out.setNS (B.c 0) (by nofun) (.int .i64 B0v.maj))
          replace VB := Hd (VB.out.setNS (B.c 0) (by nofun) (.int .i64 B0v.maj))
          replace R := R.fr (w1.heap.size + 1 + 1) 0 (by omega) (.int .i64 B0v.maj)
          replace V := V.fr (w1.heap.size + 1 + 1) 0 (by omega) (.int .i64 B0v.maj)
          replace F := F.fr (w1.heap.size + 1 + 1) 0 (by omega) (.int .i64 B0v.maj)
          replace B := B.st 0 (.int .i64 B0v.maj)
          simp only [pts] at B
          replace VP := Hd (VP.out.setNS (B.c 1) (by nofun) (.int .i64 B0v.min))
          replace VB := Hd (VB.out.setNS (B.c 1) (by nofun) (.int .i64 B0v.min))
          replace R := R.fr (w1.heap.size + 1 + 1) 1 (by omega) (.int .i64 B0v.min)
          replace V := V.fr (w1.heap.size + 1 + 1) 1 (by omega) (.int .i64 B0v.min)
          replace F := F.fr (w1.heap.size + 1 + 1) 1 (by omega) (.int .i64 B0v.min)
          replace B := B.st 1 (.int .i64 B0v.min)
          simp only [pts] at B
          replace VP := Hd (VP.out.setNS (B.c 2) (by nofun) (.int .i64 B0v.pat))
          replace VB := Hd (VB.out.setNS (B.c 2) (by nofun) (.int .i64 B0v.pat))
          replace R := R.fr (w1.heap.size + 1 + 1) 2 (by omega) (.int .i64 B0v.pat)
          replace V := V.fr (w1.heap.size + 1 + 1) 2 (by omega) (.int .i64 B0v.pat)
          replace F := F.fr (w1.heap.size + 1 + 1) 2 (by omega) (.int .i64 B0v.pat)
          replace B := B.st 2 (.int .i64 B0v.pat)
          simp only [pts] at B
          replace VP := Hd (VP.out.setNS (B.c 3) (by nofun) (.slice qa B0v.pre.length qc))
          replace VB := Hd (VB.out.setNS (B.c 3) (by nofun) (.slice qa B0v.pre.length qc))
          replace R := R.fr (w1.heap.size + 1 + 1) 3 (by omega) (.slice qa B0v.pre.length qc)
          replace V := V.fr (w1.heap.size + 1 + 1) 3 (by omega) (.slice qa B0v.pre.length qc)
          replace F := F.fr (w1.heap.size + 1 + 1) 3 (by omega) (.slice qa B0v.pre.length qc)
          replace B := B.st 3 (.slice qa B0v.pre.length qc)
          simp only [pts] at B
          refine (CW.out _ qa qc VB.out).mono ?_
          rintro e w3 ⟨rfl, hb⟩
          have B3 := bcm w hb
          have q3 : w2.heap.size ≤ w3.heap.size := qle hb
          replace VP := Hd (VP.out.bl hb)
          replace VB := Hd (VB.out.bl hb)
          replace R := R.bw hb
          replace V := V.bw hb
          replace F := F.bw hb
          replace B := B.bw hb
          clear hb
          have s3 := B3.size
          have ⟨Rc, Rf, Rl⟩ := R
          have ⟨Vc, Vf, Vl⟩ := V
          have ⟨Fc, Ff, Fl⟩ := F
          have ⟨Bc, Bf, Bl⟩ := B
          go_wp2_with fail
          clear Rc Rf Rl Vc Vf Vl Fc Ff Fl Bc Bf Bl
          replace VP := Hd (VP.out.setNS (F.c 0) (by nofun) (.int .i64 0))
          replace VB := Hd (VB.out.setNS (F.c 0) (by nofun) (.int .i64 0))
          replace R := R.fr (w1.heap.size + 1) 0 (by omega) (.int .i64 0)
          replace V := V.fr (w1.heap.size + 1) 0 (by omega) (.int .i64 0)
          replace B := B.fr (w1.heap.size + 1) 0 (by omega) (.int .i64 0)
          replace F := F.st 0 (.int .i64 0)
          simp only [pts] at F
          replace VP := Hd (VP.out.setNS (F.c 1) (by nofun) (.int .i64 0))
          replace VB := Hd (VB.out.setNS (F.c 1) (by nofun) (.int .i64 0))
          replace R := R.fr (w1.heap.size + 1) 1 (by omega) (.int .i64 0)
          replace V := V.fr (w1.heap.size + 1) 1 (by omega) (.int .i64 0)
          replace B := B.fr (w1.heap.size + 1) 1 (by omega) (.int .i64 0)
          replace F := F.st 1 (.int .i64 0)
          simp only [pts] at F
          refine (span_any v B0v pa qa pc qc _ VP.out VB.out OV.out OB.out).mono ?_
          rintro e w4 ⟨o5, k5, rfl, A5, hb⟩
          have B4 := bcm w hb
          have q4 : w3.heap.size ≤ w4.heap.size := qle hb
          replace VP := Hd (VP.out.bl hb)
          replace VB := Hd (VB.out.bl hb)
          replace R := R.bw hb
          replace V := V.bw hb
          replace F := F.bw hb
          replace B := B.bw hb
          clear hb
          have s4 := B4.size
          have ⟨Rc, Rf, Rl⟩ := R
          have ⟨Vc, Vf, Vl⟩ := V
          have ⟨Fc, Ff, Fl⟩ := F
          have ⟨Bc, Bf, Bl⟩ := B
          go_wp2_with fail
          have RN := R.st 0 (.slice o5 (Pl.oneR v B0v).length k5)
          obtain ⟨RNc, RNf, RNl⟩ := RN
          refine bodyPost_ret (v := .tuple #[.agg #[.slice o5 (Pl.oneR v B0v).length k5], .int .i64 0]) (by simp [results, Tryz.results62, go_sem, RNc]) rfl (RTerm.ok EV2.out (A5.setBk R (by simp) (j := 0) rfl (by nofun) _) (by go_grown))
        · have EV2 := Hd (EV.out.trans (EB.out.trans (if_pos n1)))
          clear EV EB
          have CA := Hd (fun (W : World) (pa : Option Addr) (pc : Nat) => above_cap v pa pc W OV.out)
          have CW := Hd (fun (W : World) (qa : Option Addr) (qc : Nat) (g : VIn W (Pl.capV v) qa qc) => Validate_any (Pl.capV v) qa qc W g)
          obtain ⟨F, hF⟩ : ∃ F, Pl.vrF (Pl.capV v) = F := ⟨_, rfl⟩
          rw [hF] at CW n1
          obtain ⟨B0v, hB0⟩ : ∃ b, Pl.capV v = b := ⟨_, rfl⟩
          rw [hB0] at CA CW
          obtain ⟨f1, f2⟩ := F
          simp only [fltV] at CW
          have u1 := bneT n1
          have u2 := beqF n1
          clear hB0 hF n1
          have B0 := brl w
          go_wp2_with fail
          refine (CC.out _).mono ?_
          rintro e w' ⟨rfl, rfl⟩
          go_wp2_with fail
          have HE1 := HE.out.below (B := w.heap.size) (w' := w.alloc (.cells #[.slice none 0 0] 33)) (by go_grown) nle
          refine (CQ.out _ HE1).mono ?_
          rintro e w1 ⟨pa, pc, rfl, VP, hb⟩
          replace VP := Hd VP
          have B1 := bcm w hb
          have q1 : w.heap.size + 1 ≤ w1.heap.size := qle hb
          have R := ((bkn w.heap.size [.slice none 0 0] 33)).bw hb
          clear hb
          have s1 := B1.size
          have ⟨Rc, Rf, Rl⟩ := R
          go_wp2_with fail
          refine (CA.out _ pa pc).mono ?_
          rintro e w2 ⟨qa, qc, rfl, VB, hb⟩
          replace VB := Hd VB
          have B2 := bcm w hb
          have q2 : w1.heap.size + 3 ≤ w2.heap.size := qle hb
          replace VP := Hd ((((VP.out.al _).al _).al _).bl hb)
          replace R := ((((R.alloc _).alloc _).alloc _)).bw hb
          have V := ((((bkn w1.heap.size [.int .i64 v.maj, .int .i64 v.min, .int .i64 v.pat, .slice pa v.pre.length pc] 24).alloc _).alloc _)).bw hb
          have F := (((bkn (w1.heap.size + 1) [.int .i64 0, .int .i64 0] 27).alloc _)).bw hb
          have B := ((bkn (w1.heap.size + 1 + 1) [.int .i64 v.maj, .int .i64 v.min, .int .i64 v.pat, .slice pa v.pre.length pc] 24)).bw hb
          clear hb
          have s2 := B2.size
          clear Rc Rf Rl
          have ⟨Rc, Rf, Rl⟩ := R
          have ⟨Vc, Vf, Vl⟩ := V
          have ⟨Fc, Ff, Fl⟩ := F
          have ⟨Bc, Bf, Bl⟩ := B
          go_wp2_with fail
          clear Rc Rf Rl Vc Vf Vl Fc Ff Fl Bc Bf Bl
          replace VP := Hd (VP.out.setNS (B.c 0) (by nofun) (.int .i64 B0v.maj))
          replace VB := Hd (VB.out.setNS (B.c 0) (by nofun) (.int .i64 B0v.maj))
          replace R := R.fr (w1.heap.size + 1 + 1) 0 (by omega) (.int .i64 B0v.maj)
          replace V := V.fr (w1.heap.size + 1 + 1) 0 (by omega) (.int .i64 B0v.maj)
          replace F := F.fr (w1.heap.size + 1 + 1) 0 (by omega) (.int .i64 B0v.maj)
          replace B := B.st 0 (.int .i64 B0v.maj)
          simp only [pts] at B
          replace VP := Hd (VP.out.setNS (B.c 1) (by nofun) (.int .i64 B0v.min))
          replace VB := Hd (VB.out.setNS (B.c 1) (by nofun) (.int .i64 B0v.min))
          replace R := R.fr (w1.heap.size + 1 + 1) 1 (by omega) (.int .i64 B0v.min)
          replace V := V.fr (w1.heap.size + 1 + 1) 1 (by omega) (.int .i64 B0v.min)
          replace F := F.fr (w1.heap.size + 1 + 1) 1 (by omega) (.int .i64 B0v.min)
          replace B := B.st 1 (.int .i64 B0v.min)
          simp only [pts] at B
          replace VP := Hd (VP.out.setNS (B.c 2) (by nofun) (.int .i64 B0v.pat))
          replace VB := Hd (VB.out.setNS (B.c 2) (by nofun) (.int .i64 B0v.pat))
          replace R := R.fr (w1.heap.size + 1 + 1) 2 (by omega) (.int .i64 B0v.pat)
          replace V := V.fr (w1.heap.size + 1 + 1) 2 (by omega) (.int .i64 B0v.pat)
          replace F := F.fr (w1.heap.size + 1 + 1) 2 (by omega) (.int .i64 B0v.pat)
          replace B := B.st 2 (.int .i64 B0v.pat)
          simp only [pts] at B
          replace VP := Hd (VP.out.setNS (B.c 3) (by nofun) (.slice qa B0v.pre.length qc))
          replace VB := Hd (VB.out.setNS (B.c 3) (by nofun) (.slice qa B0v.pre.length qc))
          replace R := R.fr (w1.heap.size + 1 + 1) 3 (by omega) (.slice qa B0v.pre.length qc)
          replace V := V.fr (w1.heap.size + 1 + 1) 3 (by omega) (.slice qa B0v.pre.length qc)
          replace F := F.fr (w1.heap.size + 1 + 1) 3 (by omega) (.slice qa B0v.pre.length qc)
          replace B := B.st 3 (.slice qa B0v.pre.length qc)
          simp only [pts] at B
          refine (CW.out _ qa qc VB.out).mono ?_
          rintro e w3 ⟨rfl, hb⟩
          have B3 := bcm w hb
          have q3 : w2.heap.size ≤ w3.heap.size := qle hb
          replace VP := Hd (VP.out.bl hb)
          replace VB := Hd (VB.out.bl hb)
          replace R := R.bw hb
          replace V := V.bw hb
          replace F := F.bw hb
          replace B := B.bw hb
          clear hb
          have s3 := B3.size
          have ⟨Rc, Rf, Rl⟩ := R
          have ⟨Vc, Vf, Vl⟩ := V
          have ⟨Fc, Ff, Fl⟩ := F
          have ⟨Bc, Bf, Bl⟩ := B
          go_wp2_with fail
          clear Rc Rf Rl Vc Vf Vl Fc Ff Fl Bc Bf Bl
          replace VP := Hd (VP.out.setNS (F.c 0) (by nofun) (.int .i64 f1))
          replace VB := Hd (VB.out.setNS (F.c 0) (by nofun) (.int .i64 f1))
          replace R := R.fr (w1.heap.size + 1) 0 (by omega) (.int .i64 f1)
          replace V := V.fr (w1.heap.size + 1) 0 (by omega) (.int .i64 f1)
          replace B := B.fr (w1.heap.size + 1) 0 (by omega) (.int .i64 f1)
          replace F := F.st 0 (.int .i64 f1)
          simp only [pts] at F
          replace VP := Hd (VP.out.setNS (F.c 1) (by nofun) (.int .i64 f2))
          replace VB := Hd (VB.out.setNS (F.c 1) (by nofun) (.int .i64 f2))
          replace R := R.fr (w1.heap.size + 1) 1 (by omega) (.int .i64 f2)
          replace V := V.fr (w1.heap.size + 1) 1 (by omega) (.int .i64 f2)
          replace B := B.fr (w1.heap.size + 1) 1 (by omega) (.int .i64 f2)
          replace F := F.st 1 (.int .i64 f2)
          simp only [pts] at F
          have RN := R.st 0 (.slice none 0 0)
          obtain ⟨RNc, RNf, RNl⟩ := RN
          refine bodyPost_ret (v := .tuple #[.agg #[.slice none 0 0], .int .i64 10]) (by simp [results, Tryz.results62, go_sem, RNc]) rfl (RTerm.bad EV2.out (by go_grown))
end Go.Proofs.YtolfgcoalihmgaaGreatDoor
