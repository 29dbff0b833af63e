/- Contract of the reference: a term of a range. -/
import Derived.Test.YtolfgcoalihmgaaGreatDoorEo
import Derived.Deep.DeepCutAuto
namespace Go.Proofs.YtolfgcoalihmgaaGreatDoor
open Go.RowKit
set_option maxRecDepth 100000 in
set_option maxHeartbeats 4000000 in
theorem TermOf_star (s : ByteArray) (w : World) (h : Pl.bsl s = [42]) : Calls Tryz.prog 124 #[.string s] w (RTerm (Pl.termR (Pl.bsl s)) w) := by
 have EV : Hid (Pl.termR (Pl.bsl s) = (Pl.upR Pl.lowV, 0)) := Hd (by unfold Pl.termR; rw [if_pos h])
 have hs : s = ⟨#[42]⟩ := Pl.bsl_inj h
 subst hs
 have s1 : ((⟨#[42]⟩ : ByteArray).toList == (⟨#[42]⟩ : ByteArray).toList) = true := (strB [42] [42]).trans (by decide)
 clear h
 go_enter Tryz.func124, Tryz.ntmps124
 have B0 := brl w
 go_wp2_with fail
 refine (Smallest_any _).mono ?_
 rintro e w1 ⟨la, lc, rfl, VL, hb⟩
 replace VL := Hd VL
 have B1 := bcm w hb
 have q1 : w.heap.size + 1 ≤ w1.heap.size := qle hb
 have R := ((bkn w.heap.size [.slice none 0 0] 33)).bw hb
 clear hb
 have s1 := B1.size
 have ⟨Rc, Rf, Rl⟩ := R
 go_wp2_with fail
 refine (upwards_any Pl.lowV la lc _ VL.out).mono ?_
 rintro e w2 ⟨o5, k5, rfl, A5, hb⟩
 have B2 := bcm w hb
 have q2 : w1.heap.size ≤ w2.heap.size := qle hb
 replace VL := Hd (VL.out.bl hb)
 replace R := R.bw hb
 clear hb
 have s2 := B2.size
 clear Rc Rf Rl
 have ⟨Rc, Rf, Rl⟩ := R
 go_wp2_with fail
 have RN := R.st 0 (.slice o5 (Pl.upR Pl.lowV).length k5)
 obtain ⟨RNc, RNf, RNl⟩ := RN
 refine bodyPost_ret (v := .tuple #[.agg #[.slice o5 (Pl.upR Pl.lowV).length k5], .int .i64 0]) (by simp [results, Tryz.results124, go_sem, RNc]) rfl (RTerm.ok EV.out (A5.setBk R (by simp) (j := 0) rfl (by nofun) _) (by go_grown))
set_option maxRecDepth 100000 in
set_option maxHeartbeats 16000000 in
theorem TermOf_ops (s : ByteArray) (w : World) (hs : s.size ≤ 4096) (h42 : Pl.bsl s ≠ [42]) : Calls Tryz.prog 124 #[.string s] w (RTerm (Pl.termR (Pl.bsl s)) w) := by
 obtain ⟨RV, hRV⟩ : ∃ V, Pl.termR (Pl.bsl s) = V := ⟨_, rfl⟩
 rw [hRV]
 have s0 := str_ne h42
 obtain ⟨s1, s2, s3, s4⟩ := s0
 have hlen : (Pl.bsl s).length = s.size := Pl.bsl_len s
 have H42 := Hd h42
 have HRV := Hd hRV
 clear h42 hRV
 go_enter Tryz.func124, Tryz.ntmps124
 have B0 := brl w
 go_upto_block 0 with fail
 have B1 : Below w.heap.size w (w.alloc (.cells #[.slice none 0 0] 33)) := by go_grown
 have q1 : w.heap.size + 1 ≤ (w.alloc (.cells #[.slice none 0 0] 33)).heap.size := by simp only [World.size_alloc]; omega
 have R := (Bk.new (r := w.heap.size) (cs := [.slice none 0 0]) w 33 (by simp))
 generalize (w.alloc (.cells #[.slice none 0 0] 33)) = w1 at *
 have s1 := B1.size
 have ⟨Rc, Rf, Rl⟩ := R
 clear Rc Rf Rl
 go_cut [4] (fun p wx => ∃ k : Nat, k ≤ s.size ∧ p = .int .i64 k ∧ Hid ((Pl.bsl s).takeWhile Pl.opB = (Pl.bsl s).take k ∧ (Pl.bsl s).dropWhile Pl.opB = (Pl.bsl s).drop k) ∧ Bk wx w.heap.size [.slice none 0 0] ∧ Below w.heap.size w wx ∧ w.heap.size + 1 ≤ wx.heap.size)
 case first =>
  clear s1 s2 s3 s4
  go_wp2_with fail
  go_loop [4] (fun i => ∃ k : Nat, k ≤ s.size ∧ i = .int .i64 k ∧ Hid (UpTo Pl.opB (Pl.bsl s) k)) (fun i => s.size - (intOf i).toNat)
  case atStart => exact ⟨0, Nat.zero_le _, rfl, UpTo.zero _ _⟩
  case round =>
   obtain ⟨k, hk, rfl, hu⟩ := hrel
   have k0 : (0 : Int) ≤ (k : Int) := by omega
   have k1 : (k : Int) ≤ (s.size : Int) := by omega
   by_cases hlt : k < s.size
   · have t0 : decide ((k : Int) < (s.size : Int)) = true := decT (by omega)
     have sc := Hd (fun h : Pl.opB s[k] = true => hu.out.succ (by rw [hlen]; exact hlt) h)
     have en := Hd (fun h : Pl.opB s[k] = false => Pl.while_at hu.out (by rw [hlen]; exact hk) (fun _ => h))
     by_cases h0 : (s[k].toNat : Int) = 62
     · have v0 := beqT h0
       have st := Hd (sc.out (Pl.op_yes (by omega)))
       clear en sc h0
       go_wp2_with fail
       go_round
       case rel => exact ⟨k + 1, hlt, by go_num, st⟩
       case measure => simp [intOf]; omega
     · have v0 := beqF h0
       by_cases h1 : (s[k].toNat : Int) = 60
       · have v1 := beqT h1
         have st := Hd (sc.out (Pl.op_yes (by omega)))
         clear en sc h1
         go_wp2_with fail
         go_round
         case rel => exact ⟨k + 1, hlt, by go_num, st⟩
         case measure => simp [intOf]; omega
       · have v1 := beqF h1
         by_cases h2 : (s[k].toNat : Int) = 61
         · have v2 := beqT h2
           have st := Hd (sc.out (Pl.op_yes (by omega)))
           clear en sc h2
           go_wp2_with fail
           go_round
           case rel => exact ⟨k + 1, hlt, by go_num, st⟩
           case measure => simp [intOf]; omega
         · have v2 := beqF h2
           by_cases h3 : (s[k].toNat : Int) = 94
           · have v3 := beqT h3
             have st := Hd (sc.out (Pl.op_yes (by omega)))
             clear en sc h3
             go_wp2_with fail
             go_round
             case rel => exact ⟨k + 1, hlt, by go_num, st⟩
             case measure => simp [intOf]; omega
           · have v3 := beqF h3
             by_cases h4 : (s[k].toNat : Int) = 126
             · have v4 := beqT h4
               have st := Hd (sc.out (Pl.op_yes (by omega)))
               clear en sc h4
               go_wp2_with fail
               go_round
               case rel => exact ⟨k + 1, hlt, by go_num, st⟩
               case measure => simp [intOf]; omega
             · have v4 := beqF h4
               have E := Hd (en.out (Pl.op_not v0 v1 v2 v3 v4))
               clear en sc h0 h1 h2 h3 h4
               go_wp2_with fail
               go_meet
               exact ⟨k, hk, rfl, E, R, B1, by omega⟩
   · have t0 : decide ((k : Int) < (s.size : Int)) = false := decF (by omega)
     have en := Hd (Pl.while_at hu.out (by rw [hlen]; exact hk) (fun h => absurd h (by rw [hlen]; exact hlt)))
     go_wp2_with fail
     go_meet
     exact ⟨k, hk, rfl, en, R, B1, by omega⟩
 case rest =>
  obtain ⟨k, hk, rfl, hW, R, B1, q1⟩ := hcut
  have HS : Hid (Pl.bsl (s.extract 0 k) = (Pl.bsl s).takeWhile Pl.opB) := Hd (by rw [hW.out.1, ← Pl.mkS_take, Pl.bsl_mkS])
  have HT : Hid (Pl.bsl (s.extract k s.size) = (Pl.bsl s).dropWhile Pl.opB) := Hd (by rw [hW.out.2, ← Pl.mkS_drop, Pl.bsl_mkS])
  have hT : (s.extract k s.size).size ≤ 4096 := by
   have e := congrArg List.length HT.out
   rw [Pl.bsl_len, hW.out.2, List.length_drop, hlen] at e
   omega
  have k0 : (0 : Int) ≤ (k : Int) := by omega
  have k1 : (k : Int) ≤ (s.size : Int) := by omega
  clear hW
  have ⟨Rc, Rf, Rl⟩ := R
  go_wp2_with fail
  generalize s.extract 0 k = S at *
  generalize s.extract k s.size = T at *
  have CV := Hd (fun (W : World) => VersionOf_any T W hT)
  rw [HT.out] at CV
  have N1 := Hd (fun h => HRV.out.symm.trans (Pl.termR_no H42.out h))
  have N2 := Hd (fun h => HRV.out.symm.trans (Pl.termR_yes H42.out h))
  have N3 := Hd (fun h => (Pl.ref_ok (t := (Pl.bsl s).dropWhile Pl.opB) h).2)
  rw [← HS.out] at N2
  generalize (Pl.bsl s).dropWhile Pl.opB = t at *
  generalize Pl.refV t = v at *
  generalize Pl.refOk t = okb at *
  clear HT hT HRV H42 HS hlen s1 s2 s3 s4
  refine (CV.out _).mono ?_
  rintro e w2 ⟨va, vc, rfl, VV, hb⟩
  replace VV := Hd VV
  have B2 := bcm w hb
  have q2 : wc.heap.size ≤ w2.heap.size := qle hb
  replace R := R.bw hb
  clear hb
  have s2 := B2.size
  clear Rc Rf Rl
  have ⟨Rc, Rf, Rl⟩ := R
  clear CV
  cases okb with
  | false =>
    have EV := Hd (N1.out rfl)
    clear N1 N2 N3
    go_wp2_with fail
    have RN := ((R.st 0 (.slice none 0 0)).alloc (.cells #[.int .i64 v.maj, .int .i64 v.min, .int .i64 v.pat, .slice va v.pre.length vc] 24))
    obtain ⟨RNc, RNf, RNl⟩ := RN
    refine bodyPost_ret (v := .tuple #[.agg #[.slice none 0 0], .int .i64 1]) (by simp [results, Tryz.results124, go_sem, RNc]) rfl (RTerm.bad EV.out (by go_grown))
  | true =>
    have OV := Hd (N3.out rfl)
    have N4 := Hd (N2.out rfl)
    clear N1 N2 N3
    by_cases hno : ¬ Pl.bsl S ∈ Pl.opsL
    · have EV := Hd (N4.out.trans (if_neg hno))
      clear N4
      obtain ⟨a6261, b6261, c6261, d6261⟩ := str_ne (S := S) (l := [62, 61]) (fun e => hno (by rw [e]; decide))
      obtain ⟨a6061, b6061, c6061, d6061⟩ := str_ne (S := S) (l := [60, 61]) (fun e => hno (by rw [e]; decide))
      obtain ⟨a62, b62, c62, d62⟩ := str_ne (S := S) (l := [62]) (fun e => hno (by rw [e]; decide))
      obtain ⟨a60, b60, c60, d60⟩ := str_ne (S := S) (l := [60]) (fun e => hno (by rw [e]; decide))
      obtain ⟨a61, b61, c61, d61⟩ := str_ne (S := S) (l := [61]) (fun e => hno (by rw [e]; decide))
      obtain ⟨a94, b94, c94, d94⟩ := str_ne (S := S) (l := [94]) (fun e => hno (by rw [e]; decide))
      obtain ⟨a126, b126, c126, d126⟩ := str_ne (S := S) (l := [126]) (fun e => hno (by rw [e]; decide))
      clear hno
      go_wp2_with fail
      have RN := ((R.st 0 (.slice none 0 0)).alloc (.cells #[.int .i64 v.maj, .int .i64 v.min, .int .i64 v.pat, .slice va v.pre.length vc] 24))
      obtain ⟨RNc, RNf, RNl⟩ := RN
      refine bodyPost_ret (v := .tuple #[.agg #[.slice none 0 0], .int .i64 1]) (by simp [results, Tryz.results124, go_sem, RNc]) rfl (RTerm.bad EV.out (by go_grown))
    · have hin := Classical.not_not.1 hno
      have N5 := Hd (N4.out.trans (if_pos hin))
      clear N4 hno
      simp only [Pl.opsL, List.mem_cons, List.not_mem_nil, or_false] at hin
      rcases hin with hop | hop | hop | hop | hop | hop | hop
      · have hS : S = ⟨#[62, 61]⟩ := Pl.bsl_inj hop
        subst hS
        have N6 : Hid (RV = Pl.opR [62, 61] v) := Hd N5.out
        clear N5 hop
        have a6261 : ((⟨#[62, 61]⟩ : ByteArray).toList == (⟨#[62, 61]⟩ : ByteArray).toList) = true := (strB [62, 61] [62, 61]).trans (by decide)
        have b6261 : ((⟨#[62, 61]⟩ : ByteArray).toList != (⟨#[62, 61]⟩ : ByteArray).toList) = false := (strN [62, 61] [62, 61]).trans (by decide)
        have a6061 : ((⟨#[62, 61]⟩ : ByteArray).toList == (⟨#[60, 61]⟩ : ByteArray).toList) = false := (strB [62, 61] [60, 61]).trans (by decide)
        have b6061 : ((⟨#[62, 61]⟩ : ByteArray).toList != (⟨#[60, 61]⟩ : ByteArray).toList) = true := (strN [62, 61] [60, 61]).trans (by decide)
        have a62 : ((⟨#[62, 61]⟩ : ByteArray).toList == (⟨#[62]⟩ : ByteArray).toList) = false := (strB [62, 61] [62]).trans (by decide)
        have b62 : ((⟨#[62, 61]⟩ : ByteArray).toList != (⟨#[62]⟩ : ByteArray).toList) = true := (strN [62, 61] [62]).trans (by decide)
        have a60 : ((⟨#[62, 61]⟩ : ByteArray).toList == (⟨#[60]⟩ : ByteArray).toList) = false := (strB [62, 61] [60]).trans (by decide)
        have b60 : ((⟨#[62, 61]⟩ : ByteArray).toList != (⟨#[60]⟩ : ByteArray).toList) = true := (strN [62, 61] [60]).trans (by decide)
        have a61 : ((⟨#[62, 61]⟩ : ByteArray).toList == (⟨#[61]⟩ : ByteArray).toList) = false := (strB [62, 61] [61]).trans (by decide)
        have b61 : ((⟨#[62, 61]⟩ : ByteArray).toList != (⟨#[61]⟩ : ByteArray).toList) = true := (strN [62, 61] [61]).trans (by decide)
        have a94 : ((⟨#[62, 61]⟩ : ByteArray).toList == (⟨#[94]⟩ : ByteArray).toList) = false := (strB [62, 61] [94]).trans (by decide)
        have b94 : ((⟨#[62, 61]⟩ : ByteArray).toList != (⟨#[94]⟩ : ByteArray).toList) = true := (strN [62, 61] [94]).trans (by decide)
        have a126 : ((⟨#[62, 61]⟩ : ByteArray).toList == (⟨#[126]⟩ : ByteArray).toList) = false := (strB [62, 61] [126]).trans (by decide)
        have b126 : ((⟨#[62, 61]⟩ : ByteArray).toList != (⟨#[126]⟩ : ByteArray).toList) = true := (strN [62, 61] [126]).trans (by decide)
        have EV : Hid (RV = (Pl.upR v, 0)) := Hd (N6.out.trans (by unfold Pl.opR; rw [if_pos rfl]))
        clear N6
        go_wp2_with fail
        refine (upwards_any v va vc _ (VV.out.bl (by go_grown))).mono ?_
        rintro e w3 ⟨o5, k5, rfl, A5, hb⟩
        have B3 := bcm w hb
        have q3 : w2.heap.size + 1 ≤ w3.heap.size := qle hb
        replace VV := Hd ((VV.out.al _).bl hb)
        replace R := ((R.alloc _)).bw hb
        have V := ((bkn w2.heap.size [.int .i64 v.maj, .int .i64 v.min, .int .i64 v.pat, .slice va v.pre.length vc] 24)).bw hb
        clear hb
        have s3 := B3.size
        clear Rc Rf Rl
        have ⟨Rc, Rf, Rl⟩ := R
        have ⟨Vc, Vf, Vl⟩ := V
        go_wp2_with fail
        have RN := R.st 0 (.slice o5 (Pl.upR v).length k5)
        obtain ⟨RNc, RNf, RNl⟩ := RN
        refine bodyPost_ret (v := .tuple #[.agg #[.slice o5 (Pl.upR v).length k5], .int .i64 0]) (by simp [results, Tryz.results124, go_sem, RNc]) rfl (RTerm.ok EV.out (A5.setBk R (by simp) (j := 0) rfl (by nofun) _) (by go_grown))
      · have hS : S = ⟨#[60, 61]⟩ := Pl.bsl_inj hop
        subst hS
        have N6 : Hid (RV = Pl.opR [60, 61] v) := Hd N5.out
        clear N5 hop
        have a6261 : ((⟨#[60, 61]⟩ : ByteArray).toList == (⟨#[62, 61]⟩ : ByteArray).toList) = false := (strB [60, 61] [62, 61]).trans (by decide)
        have b6261 : ((⟨#[60, 61]⟩ : ByteArray).toList != (⟨#[62, 61]⟩ : ByteArray).toList) = true := (strN [60, 61] [62, 61]).trans (by decide)
        have a6061 : ((⟨#[60, 61]⟩ : ByteArray).toList == (⟨#[60, 61]⟩ : ByteArray).toList) = true := (strB [60, 61] [60, 61]).trans (by decide)
        have b6061 : ((⟨#[60, 61]⟩ : ByteArray).toList != (⟨#[60, 61]⟩ : ByteArray).toList) = false := (strN [60, 61] [60, 61]).trans (by decide)
        have a62 : ((⟨#[60, 61]⟩ : ByteArray).toList == (⟨#[62]⟩ : ByteArray).toList) = false := (strB [60, 61] [62]).trans (by decide)
        have b62 : ((⟨#[60, 61]⟩ : ByteArray).toList != (⟨#[62]⟩ : ByteArray).toList) = true := (strN [60, 61] [62]).trans (by decide)
        have a60 : ((⟨#[60, 61]⟩ : ByteArray).toList == (⟨#[60]⟩ : ByteArray).toList) = false := (strB [60, 61] [60]).trans (by decide)
        have b60 : ((⟨#[60, 61]⟩ : ByteArray).toList != (⟨#[60]⟩ : ByteArray).toList) = true := (strN [60, 61] [60]).trans (by decide)
        have a61 : ((⟨#[60, 61]⟩ : ByteArray).toList == (⟨#[61]⟩ : ByteArray).toList) = false := (strB [60, 61] [61]).trans (by decide)
        have b61 : ((⟨#[60, 61]⟩ : ByteArray).toList != (⟨#[61]⟩ : ByteArray).toList) = true := (strN [60, 61] [61]).trans (by decide)
        have a94 : ((⟨#[60, 61]⟩ : ByteArray).toList == (⟨#[94]⟩ : ByteArray).toList) = false := (strB [60, 61] [94]).trans (by decide)
        have b94 : ((⟨#[60, 61]⟩ : ByteArray).toList != (⟨#[94]⟩ : ByteArray).toList) = true := (strN [60, 61] [94]).trans (by decide)
        have a126 : ((⟨#[60, 61]⟩ : ByteArray).toList == (⟨#[126]⟩ : ByteArray).toList) = false := (strB [60, 61] [126]).trans (by decide)
        have b126 : ((⟨#[60, 61]⟩ : ByteArray).toList != (⟨#[126]⟩ : ByteArray).toList) = true := (strN [60, 61] [126]).trans (by decide)
        have EB : Hid (RV = if (Pl.vrF (Pl.bndV [60, 61] v)).1 ≠ 0 then ([], 10) else (Pl.oneR Pl.lowV (Pl.bndV [60, 61] v), 0)) := Hd (N6.out.trans (by unfold Pl.opR; rw [if_neg (by decide), if_neg (by decide)]; simp))
        clear N6
        rw [Pl.bnd_next (op := [60, 61]) v (by decide) (by decide)] at EB
        go_wp2_with fail
        refine (VersionNext_any v va vc _ (VV.out.bl (by go_grown)) OV.out).mono ?_
        rintro e w3 ⟨na, nc, rfl, VN, hb⟩
        replace VN := Hd VN
        have B3 := bcm w hb
        have q3 : w2.heap.size + 1 ≤ w3.heap.size := qle hb
        replace VV := Hd ((VV.out.al _).bl hb)
        replace R := ((R.alloc _)).bw hb
        have V := ((bkn w2.heap.size [.int .i64 v.maj, .int .i64 v.min, .int .i64 v.pat, .slice va v.pre.length vc] 24)).bw hb
        clear hb
        have s3 := B3.size
        clear Rc Rf Rl
        have ⟨Rc, Rf, Rl⟩ := R
        have ⟨Vc, Vf, Vl⟩ := V
        generalize Pl.verNext v = n at *
        go_wp2_with fail
        have CF := Hd (fun (W : World) (g1 : VIn W n na nc) => VersionFault_any n na nc W g1)
        obtain ⟨F, hF⟩ : ∃ F, Pl.vrF n = F := ⟨_, rfl⟩
        rw [hF] at CF EB
        have HF := Hd hF
        clear hF
        obtain ⟨f1, f2⟩ := F
        simp only [fltV] at CF
        refine (CF.out _ ((VN.out.al _))).mono ?_
        rintro e w4 ⟨rfl, hb⟩
        have B4 := bcm w hb
        have q4 : w3.heap.size + 1 ≤ w4.heap.size := qle hb
        replace VV := Hd ((VV.out.al _).bl hb)
        replace VN := Hd ((VN.out.al _).bl hb)
        replace R := ((R.alloc _)).bw hb
        replace V := ((V.alloc _)).bw hb
        have Z := ((bkn w3.heap.size [.int .i64 n.maj, .int .i64 n.min, .int .i64 n.pat, .slice na n.pre.length nc] 24)).bw hb
        clear hb
        have s4 := B4.size
        clear Rc Rf Rl Vc Vf Vl
        have ⟨Rc, Rf, Rl⟩ := R
        have ⟨Vc, Vf, Vl⟩ := V
        have ⟨Zc, Zf, Zl⟩ := Z
        clear CF
        by_cases hf : f1 = 0
        · have u9 : (f1 != 0) = false := bneF hf
          have OB : Hid (n.Ok) := Hd (Pl.vr_ok (by rw [HF.out]; exact hf))
          have EV : Hid (RV = ((Pl.oneR Pl.lowV n), 0)) := Hd (EB.out.trans (if_neg (fun e => e hf)))
          clear EB HF hf
          go_wp2_with fail
          refine wp_region_ord [1, 0, 2, 3, 4] (by kernel_rfl) (by kernel_rfl) ?_
          have B5 : Below w.heap.size w w4.drew := by go_grown
          have q5 : w4.heap.size ≤ w4.drew.heap.size := by simp only [World.size_drew]; omega
          replace VV := Hd (VV.out.bl (Below.refl _ _).drew)
          replace VN := Hd (VN.out.bl (Below.refl _ _).drew)
          replace R := R.drew
          replace V := V.drew
          replace Z := Z.drew
          clear Rc Rf Rl Vc Vf Vl Zc Zf Zl
          generalize w4.drew = w5 at *
          have s5 := B5.size
          have ⟨Rc, Rf, Rl⟩ := R
          have ⟨Vc, Vf, Vl⟩ := V
          have ⟨Zc, Zf, Zl⟩ := Z
          repeat (refine wpI_rd rfl rfl ?_; go_big_quiet_step (fail); refine wpQuiet_nil ?_)
          try simp only [pts]
          refine wpI_call (f := 78) rfl rfl rfl (by simp [go_sem]; rfl) ?_
          refine (Smallest_any _).mono ?_
          rintro e w6 ⟨la, lc, rfl, VL, hb⟩
          replace VL := Hd VL
          refine ⟨_, rfl, hb, ?_⟩
          skip
          have B6 := bcm w hb
          have q6 : w5.heap.size ≤ w6.heap.size := qle hb
          replace VV := Hd (VV.out.bl hb)
          replace VN := Hd (VN.out.bl hb)
          replace R := R.bw hb
          replace V := V.bw hb
          replace Z := Z.bw hb
          clear hb
          have s6 := B6.size
          clear Rc Rf Rl Vc Vf Vl Zc Zf Zl
          have ⟨Rc, Rf, Rl⟩ := R
          have ⟨Vc, Vf, Vl⟩ := V
          have ⟨Zc, Zf, Zl⟩ := Z
          try simp only [pts]
          repeat (refine wpI_rd rfl rfl ?_; go_big_quiet_step (fail); refine wpQuiet_nil ?_)
          try simp only [pts]
          refine wpI_call (f := 151) rfl rfl rfl (by simp [go_sem]; rfl) ?_
          refine (one_any Pl.lowV n la na lc nc _ VL.out VN.out Pl.lowV_ok OB.out).mono ?_
          rintro e w7 ⟨o5, k5, rfl, A5, hb⟩
          refine ⟨_, rfl, hb, ?_⟩
          skip
          have B7 := bcm w hb
          have q7 : w6.heap.size ≤ w7.heap.size := qle hb
          replace VV := Hd (VV.out.bl hb)
          replace VN := Hd (VN.out.bl hb)
          replace VL := Hd (VL.out.bl hb)
          replace R := R.bw hb
          replace V := V.bw hb
          replace Z := Z.bw hb
          clear hb
          have s7 := B7.size
          clear Rc Rf Rl Vc Vf Vl Zc Zf Zl
          have ⟨Rc, Rf, Rl⟩ := R
          have ⟨Vc, Vf, Vl⟩ := V
          have ⟨Zc, Zf, Zl⟩ := Z
          try simp only [pts]
          repeat (refine wpI_rd rfl rfl ?_; go_big_quiet_step (fail); refine wpQuiet_nil ?_)
          try simp only [pts]
          refine wpI_st rfl rfl rfl (w' := w7.setCell ⟨w.heap.size, 0, none⟩ (.slice o5 (Pl.oneR Pl.lowV n).length k5)) (by simp [go_sem, Rc, Rf]) ?_
          try simp only [pts]
          repeat (refine wpI_rd rfl rfl ?_; go_big_quiet_step (fail); refine wpQuiet_nil ?_)
          refine wpI_nil ?_
          try simp only [pts]
          go_wp2_with fail
          have RN := R.st 0 (.slice o5 (Pl.oneR Pl.lowV n).length k5)
          obtain ⟨RNc, RNf, RNl⟩ := RN
          refine bodyPost_ret (v := .tuple #[.agg #[.slice o5 (Pl.oneR Pl.lowV n).length k5], .int .i64 0]) (by simp [results, Tryz.results124, go_sem, RNc]) rfl (RTerm.ok EV.out (A5.setBk R (by simp) (j := 0) rfl (by nofun) _) (by go_grown))
        · have u9 : (f1 != 0) = true := bneT hf
          have EV : Hid (RV = ([], 10)) := Hd (EB.out.trans (if_pos hf))
          clear EB HF hf
          go_wp2_with fail
          have RN := (R.st 0 (.slice none 0 0))
          obtain ⟨RNc, RNf, RNl⟩ := RN
          refine bodyPost_ret (v := .tuple #[.agg #[.slice none 0 0], .int .i64 10]) (by simp [results, Tryz.results124, go_sem, RNc]) rfl (RTerm.bad EV.out (by go_grown))
      · have hS : S = ⟨#[62]⟩ := Pl.bsl_inj hop
        subst hS
        have N6 : Hid (RV = Pl.opR [62] v) := Hd N5.out
        clear N5 hop
        have a6261 : ((⟨#[62]⟩ : ByteArray).toList == (⟨#[62, 61]⟩ : ByteArray).toList) = false := (strB [62] [62, 61]).trans (by decide)
        have b6261 : ((⟨#[62]⟩ : ByteArray).toList != (⟨#[62, 61]⟩ : ByteArray).toList) = true := (strN [62] [62, 61]).trans (by decide)
        have a6061 : ((⟨#[62]⟩ : ByteArray).toList == (⟨#[60, 61]⟩ : ByteArray).toList) = false := (strB [62] [60, 61]).trans (by decide)
        have b6061 : ((⟨#[62]⟩ : ByteArray).toList != (⟨#[60, 61]⟩ : ByteArray).toList) = true := (strN [62] [60, 61]).trans (by decide)
        have a62 : ((⟨#[62]⟩ : ByteArray).toList == (⟨#[62]⟩ : ByteArray).toList) = true := (strB [62] [62]).trans (by decide)
        have b62 : ((⟨#[62]⟩ : ByteArray).toList != (⟨#[62]⟩ : ByteArray).toList) = false := (strN [62] [62]).trans (by decide)
        have a60 : ((⟨#[62]⟩ : ByteArray).toList == (⟨#[60]⟩ : ByteArray).toList) = false := (strB [62] [60]).trans (by decide)
        have b60 : ((⟨#[62]⟩ : ByteArray).toList != (⟨#[60]⟩ : ByteArray).toList) = true := (strN [62] [60]).trans (by decide)
        have a61 : ((⟨#[62]⟩ : ByteArray).toList == (⟨#[61]⟩ : ByteArray).toList) = false := (strB [62] [61]).trans (by decide)
        have b61 : ((⟨#[62]⟩ : ByteArray).toList != (⟨#[61]⟩ : ByteArray).toList) = true := (strN [62] [61]).trans (by decide)
        have a94 : ((⟨#[62]⟩ : ByteArray).toList == (⟨#[94]⟩ : ByteArray).toList) = false := (strB [62] [94]).trans (by decide)
        have b94 : ((⟨#[62]⟩ : ByteArray).toList != (⟨#[94]⟩ : ByteArray).toList) = true := (strN [62] [94]).trans (by decide)
        have a126 : ((⟨#[62]⟩ : ByteArray).toList == (⟨#[126]⟩ : ByteArray).toList) = false := (strB [62] [126]).trans (by decide)
        have b126 : ((⟨#[62]⟩ : ByteArray).toList != (⟨#[126]⟩ : ByteArray).toList) = true := (strN [62] [126]).trans (by decide)
        have EB : Hid (RV = if (Pl.vrF (Pl.bndV [62] v)).1 ≠ 0 then ([], 10) else (Pl.upR (Pl.bndV [62] v), 0)) := Hd (N6.out.trans (by unfold Pl.opR; rw [if_neg (by decide), if_neg (by decide)]; simp))
        clear N6
        rw [Pl.bnd_next (op := [62]) v (by decide) (by decide)] at EB
        go_wp2_with fail
        refine (VersionNext_any v va vc _ (VV.out.bl (by go_grown)) OV.out).mono ?_
        rintro e w3 ⟨na, nc, rfl, VN, hb⟩
        replace VN := Hd VN
        have B3 := bcm w hb
        have q3 : w2.heap.size + 1 ≤ w3.heap.size := qle hb
        replace VV := Hd ((VV.out.al _).bl hb)
        replace R := ((R.alloc _)).bw hb
        have V := ((bkn w2.heap.size [.int .i64 v.maj, .int .i64 v.min, .int .i64 v.pat, .slice va v.pre.length vc] 24)).bw hb
        clear hb
        have s3 := B3.size
        clear Rc Rf Rl
        have ⟨Rc, Rf, Rl⟩ := R
        have ⟨Vc, Vf, Vl⟩ := V
        generalize Pl.verNext v = n at *
        go_wp2_with fail
        have CF := Hd (fun (W : World) (g1 : VIn W n na nc) => VersionFault_any n na nc W g1)
        obtain ⟨F, hF⟩ : ∃ F, Pl.vrF n = F := ⟨_, rfl⟩
        rw [hF] at CF EB
        have HF := Hd hF
        clear hF
        obtain ⟨f1, f2⟩ := F
        simp only [fltV] at CF
        refine (CF.out _ ((VN.out.al _))).mono ?_
        rintro e w4 ⟨rfl, hb⟩
        have B4 := bcm w hb
        have q4 : w3.heap.size + 1 ≤ w4.heap.size := qle hb
        replace VV := Hd ((VV.out.al _).bl hb)
        replace VN := Hd ((VN.out.al _).bl hb)
        replace R := ((R.alloc _)).bw hb
        replace V := ((V.alloc _)).bw hb
        have Z := ((bkn w3.heap.size [.int .i64 n.maj, .int .i64 n.min, .int .i64 n.pat, .slice na n.pre.length nc] 24)).bw hb
        clear hb
        have s4 := B4.size
        clear Rc Rf Rl Vc Vf Vl
        have ⟨Rc, Rf, Rl⟩ := R
        have ⟨Vc, Vf, Vl⟩ := V
        have ⟨Zc, Zf, Zl⟩ := Z
        clear CF
        by_cases hf : f1 = 0
        · have u9 : (f1 != 0) = false := bneF hf
          have OB : Hid (n.Ok) := Hd (Pl.vr_ok (by rw [HF.out]; exact hf))
          have EV : Hid (RV = ((Pl.upR n), 0)) := Hd (EB.out.trans (if_neg (fun e => e hf)))
          clear EB HF hf
          go_wp2_with fail
          refine (upwards_any n na nc _ VN.out).mono ?_
          rintro e w5 ⟨o5, k5, rfl, A5, hb⟩
          have B5 := bcm w hb
          have q5 : w4.heap.size ≤ w5.heap.size := qle hb
          replace VV := Hd (VV.out.bl hb)
          replace VN := Hd (VN.out.bl hb)
          replace R := R.bw hb
          replace V := V.bw hb
          replace Z := Z.bw hb
          clear hb
          have s5 := B5.size
          clear Rc Rf Rl Vc Vf Vl Zc Zf Zl
          have ⟨Rc, Rf, Rl⟩ := R
          have ⟨Vc, Vf, Vl⟩ := V
          have ⟨Zc, Zf, Zl⟩ := Z
          go_wp2_with fail
          have RN := R.st 0 (.slice o5 (Pl.upR n).length k5)
          obtain ⟨RNc, RNf, RNl⟩ := RN
          refine bodyPost_ret (v := .tuple #[.agg #[.slice o5 (Pl.upR n).length k5], .int .i64 0]) (by simp [results, Tryz.results124, go_sem, RNc]) rfl (RTerm.ok EV.out (A5.setBk R (by simp) (j := 0) rfl (by nofun) _) (by go_grown))
        · have u9 : (f1 != 0) = true := bneT hf
          have EV : Hid (RV = ([], 10)) := Hd (EB.out.trans (if_pos hf))
          clear EB HF hf
          go_wp2_with fail
          have RN := (R.st 0 (.slice none 0 0))
          obtain ⟨RNc, RNf, RNl⟩ := RN
          refine bodyPost_ret (v := .tuple #[.agg #[.slice none 0 0], .int .i64 10]) (by simp [results, Tryz.results124, go_sem, RNc]) rfl (RTerm.bad EV.out (by go_grown))
      · have hS : S = ⟨#[60]⟩ := Pl.bsl_inj hop
        subst hS
        have N6 : Hid (RV = Pl.opR [60] v) := Hd N5.out
        clear N5 hop
        have a6261 : ((⟨#[60]⟩ : ByteArray).toList == (⟨#[62, 61]⟩ : ByteArray).toList) = false := (strB [60] [62, 61]).trans (by decide)
        have b6261 : ((⟨#[60]⟩ : ByteArray).toList != (⟨#[62, 61]⟩ : ByteArray).toList) = true := (strN [60] [62, 61]).trans (by decide)
        have a6061 : ((⟨#[60]⟩ : ByteArray).toList == (⟨#[60, 61]⟩ : ByteArray).toList) = false := (strB [60] [60, 61]).trans (by decide)
        have b6061 : ((⟨#[60]⟩ : ByteArray).toList != (⟨#[60, 61]⟩ : ByteArray).toList) = true := (strN [60] [60, 61]).trans (by decide)
        have a62 : ((⟨#[60]⟩ : ByteArray).toList == (⟨#[62]⟩ : ByteArray).toList) = false := (strB [60] [62]).trans (by decide)
        have b62 : ((⟨#[60]⟩ : ByteArray).toList != (⟨#[62]⟩ : ByteArray).toList) = true := (strN [60] [62]).trans (by decide)
        have a60 : ((⟨#[60]⟩ : ByteArray).toList == (⟨#[60]⟩ : ByteArray).toList) = true := (strB [60] [60]).trans (by decide)
        have b60 : ((⟨#[60]⟩ : ByteArray).toList != (⟨#[60]⟩ : ByteArray).toList) = false := (strN [60] [60]).trans (by decide)
        have a61 : ((⟨#[60]⟩ : ByteArray).toList == (⟨#[61]⟩ : ByteArray).toList) = false := (strB [60] [61]).trans (by decide)
        have b61 : ((⟨#[60]⟩ : ByteArray).toList != (⟨#[61]⟩ : ByteArray).toList) = true := (strN [60] [61]).trans (by decide)
        have a94 : ((⟨#[60]⟩ : ByteArray).toList == (⟨#[94]⟩ : ByteArray).toList) = false := (strB [60] [94]).trans (by decide)
        have b94 : ((⟨#[60]⟩ : ByteArray).toList != (⟨#[94]⟩ : ByteArray).toList) = true := (strN [60] [94]).trans (by decide)
        have a126 : ((⟨#[60]⟩ : ByteArray).toList == (⟨#[126]⟩ : ByteArray).toList) = false := (strB [60] [126]).trans (by decide)
        have b126 : ((⟨#[60]⟩ : ByteArray).toList != (⟨#[126]⟩ : ByteArray).toList) = true := (strN [60] [126]).trans (by decide)
        have EV : Hid (RV = (Pl.oneR Pl.lowV v, 0)) := Hd (N6.out.trans (by unfold Pl.opR; rw [if_neg (by decide), if_pos rfl]))
        clear N6
        go_wp2_with fail
        refine wp_region_ord [1, 0, 2, 3, 4] (by kernel_rfl) (by kernel_rfl) ?_
        replace VV := Hd ((VV.out.al (.cells #[.int .i64 v.maj, .int .i64 v.min, .int .i64 v.pat, .slice va v.pre.length vc] 24)).bl (Below.refl _ _).drew)
        replace R := (R.alloc (.cells #[.int .i64 v.maj, .int .i64 v.min, .int .i64 v.pat, .slice va v.pre.length vc] 24)).drew
        have V := (Bk.new (r := w2.heap.size) (cs := [.int .i64 v.maj, .int .i64 v.min, .int .i64 v.pat, .slice va v.pre.length vc]) w2 24 (by simp)).drew
        clear Rc Rf Rl
        generalize hW : (w2.alloc (.cells #[.int .i64 v.maj, .int .i64 v.min, .int .i64 v.pat, .slice va v.pre.length vc] 24)).drew = w3 at *
        have B3 : Below w.heap.size w w3 := by rw [← hW]; go_grown
        have q3 : w2.heap.size + 1 ≤ w3.heap.size := by rw [← hW]; go_size
        clear hW
        have s3 := B3.size
        have ⟨Rc, Rf, Rl⟩ := R
        have ⟨Vc, Vf, Vl⟩ := V
        repeat (refine wpI_rd rfl rfl ?_; go_big_quiet_step (fail); refine wpQuiet_nil ?_)
        try simp only [pts]
        refine wpI_call (f := 78) rfl rfl rfl (by simp [go_sem]; rfl) ?_
        refine (Smallest_any _).mono ?_
        rintro e w4 ⟨la, lc, rfl, VL, hb⟩
        replace VL := Hd VL
        refine ⟨_, rfl, hb, ?_⟩
        skip
        have B4 := bcm w hb
        have q4 : w3.heap.size ≤ w4.heap.size := qle hb
        replace VV := Hd (VV.out.bl hb)
        replace R := R.bw hb
        replace V := V.bw hb
        clear hb
        have s4 := B4.size
        clear Rc Rf Rl Vc Vf Vl
        have ⟨Rc, Rf, Rl⟩ := R
        have ⟨Vc, Vf, Vl⟩ := V
        try simp only [pts]
        repeat (refine wpI_rd rfl rfl ?_; go_big_quiet_step (fail); refine wpQuiet_nil ?_)
        try simp only [pts]
        refine wpI_call (f := 151) rfl rfl rfl (by simp [go_sem]; rfl) ?_
        refine (one_any Pl.lowV v la va lc vc _ VL.out VV.out Pl.lowV_ok OV.out).mono ?_
        rintro e w5 ⟨o5, k5, rfl, A5, hb⟩
        refine ⟨_, rfl, hb, ?_⟩
        skip
        have B5 := bcm w hb
        have q5 : w4.heap.size ≤ w5.heap.size := qle hb
        replace VV := Hd (VV.out.bl hb)
        replace VL := Hd (VL.out.bl hb)
        replace R := R.bw hb
        replace V := V.bw hb
        clear hb
        have s5 := B5.size
        clear Rc Rf Rl Vc Vf Vl
        have ⟨Rc, Rf, Rl⟩ := R
        have ⟨Vc, Vf, Vl⟩ := V
        try simp only [pts]
        repeat (refine wpI_rd rfl rfl ?_; go_big_quiet_step (fail); refine wpQuiet_nil ?_)
        try simp only [pts]
        refine wpI_st rfl rfl rfl (w' := w5.setCell ⟨w.heap.size, 0, none⟩ (.slice o5 (Pl.oneR Pl.lowV v).length k5)) (by simp [go_sem, Rc, Rf]) ?_
        try simp only [pts]
        repeat (refine wpI_rd rfl rfl ?_; go_big_quiet_step (fail); refine wpQuiet_nil ?_)
        refine wpI_nil ?_
        try simp only [pts]
        go_wp2_with fail
        have RN := R.st 0 (.slice o5 (Pl.oneR Pl.lowV v).length k5)
        obtain ⟨RNc, RNf, RNl⟩ := RN
        refine bodyPost_ret (v := .tuple #[.agg #[.slice o5 (Pl.oneR Pl.lowV v).length k5], .int .i64 0]) (by simp [results, Tryz.results124, go_sem, RNc]) rfl (RTerm.ok EV.out (A5.setBk R (by simp) (j := 0) rfl (by nofun) _) (by go_grown))
      · have hS : S = ⟨#[61]⟩ := Pl.bsl_inj hop
        subst hS
        have N6 : Hid (RV = Pl.opR [61] v) := Hd N5.out
        clear N5 hop
        have a6261 : ((⟨#[61]⟩ : ByteArray).toList == (⟨#[62, 61]⟩ : ByteArray).toList) = false := (strB [61] [62, 61]).trans (by decide)
        have b6261 : ((⟨#[61]⟩ : ByteArray).toList != (⟨#[62, 61]⟩ : ByteArray).toList) = true := (strN [61] [62, 61]).trans (by decide)
        have a6061 : ((⟨#[61]⟩ : ByteArray).toList == (⟨#[60, 61]⟩ : ByteArray).toList) = false := (strB [61] [60, 61]).trans (by decide)
        have b6061 : ((⟨#[61]⟩ : ByteArray).toList != (⟨#[60, 61]⟩ : ByteArray).toList) = true := (strN [61] [60, 61]).trans (by decide)
        have a62 : ((⟨#[61]⟩ : ByteArray).toList == (⟨#[62]⟩ : ByteArray).toList) = false := (strB [61] [62]).trans (by decide)
        have b62 : ((⟨#[61]⟩ : ByteArray).toList != (⟨#[62]⟩ : ByteArray).toList) = true := (strN [61] [62]).trans (by decide)
        have a60 : ((⟨#[61]⟩ : ByteArray).toList == (⟨#[60]⟩ : ByteArray).toList) = false := (strB [61] [60]).trans (by decide)
        have b60 : ((⟨#[61]⟩ : ByteArray).toList != (⟨#[60]⟩ : ByteArray).toList) = true := (strN [61] [60]).trans (by decide)
        have a61 : ((⟨#[61]⟩ : ByteArray).toList == (⟨#[61]⟩ : ByteArray).toList) = true := (strB [61] [61]).trans (by decide)
        have b61 : ((⟨#[61]⟩ : ByteArray).toList != (⟨#[61]⟩ : ByteArray).toList) = false := (strN [61] [61]).trans (by decide)
        have a94 : ((⟨#[61]⟩ : ByteArray).toList == (⟨#[94]⟩ : ByteArray).toList) = false := (strB [61] [94]).trans (by decide)
        have b94 : ((⟨#[61]⟩ : ByteArray).toList != (⟨#[94]⟩ : ByteArray).toList) = true := (strN [61] [94]).trans (by decide)
        have a126 : ((⟨#[61]⟩ : ByteArray).toList == (⟨#[126]⟩ : ByteArray).toList) = false := (strB [61] [126]).trans (by decide)
        have b126 : ((⟨#[61]⟩ : ByteArray).toList != (⟨#[126]⟩ : ByteArray).toList) = true := (strN [61] [126]).trans (by decide)
        have EB : Hid (RV = if (Pl.vrF (Pl.bndV [61] v)).1 ≠ 0 then ([], 10) else (Pl.oneR v (Pl.bndV [61] v), 0)) := Hd (N6.out.trans (by unfold Pl.opR; rw [if_neg (by decide), if_neg (by decide)]; simp))
        clear N6
        rw [Pl.bnd_next (op := [61]) v (by decide) (by decide)] at EB
        go_wp2_with fail
        refine (VersionNext_any v va vc _ (VV.out.bl (by go_grown)) OV.out).mono ?_
        rintro e w3 ⟨na, nc, rfl, VN, hb⟩
        replace VN := Hd VN
        have B3 := bcm w hb
        have q3 : w2.heap.size + 1 ≤ w3.heap.size := qle hb
        replace VV := Hd ((VV.out.al _).bl hb)
        replace R := ((R.alloc _)).bw hb
        have V := ((bkn w2.heap.size [.int .i64 v.maj, .int .i64 v.min, .int .i64 v.pat, .slice va v.pre.length vc] 24)).bw hb
        clear hb
        have s3 := B3.size
        clear Rc Rf Rl
        have ⟨Rc, Rf, Rl⟩ := R
        have ⟨Vc, Vf, Vl⟩ := V
        generalize Pl.verNext v = n at *
        go_wp2_with fail
        have CF := Hd (fun (W : World) (g1 : VIn W n na nc) => VersionFault_any n na nc W g1)
        obtain ⟨F, hF⟩ : ∃ F, Pl.vrF n = F := ⟨_, rfl⟩
        rw [hF] at CF EB
        have HF := Hd hF
        clear hF
        obtain ⟨f1, f2⟩ := F
        simp only [fltV] at CF
        refine (CF.out _ ((VN.out.al _))).mono ?_
        rintro e w4 ⟨rfl, hb⟩
        have B4 := bcm w hb
        have q4 : w3.heap.size + 1 ≤ w4.heap.size := qle hb
        replace VV := Hd ((VV.out.al _).bl hb)
        replace VN := Hd ((VN.out.al _).bl hb)
        replace R := ((R.alloc _)).bw hb
        replace V := ((V.alloc _)).bw hb
        have Z := ((bkn w3.heap.size [.int .i64 n.maj, .int .i64 n.min, .int .i64 n.pat, .slice na n.pre.length nc] 24)).bw hb
        clear hb
        have s4 := B4.size
        clear Rc Rf Rl Vc Vf Vl
        have ⟨Rc, Rf, Rl⟩ := R
        have ⟨Vc, Vf, Vl⟩ := V
        have ⟨Zc, Zf, Zl⟩ := Z
        clear CF
        by_cases hf : f1 = 0
        · have u9 : (f1 != 0) = false := bneF hf
          have OB : Hid (n.Ok) := Hd (Pl.vr_ok (by rw [HF.out]; exact hf))
          have EV : Hid (RV = ((Pl.oneR v n), 0)) := Hd (EB.out.trans (if_neg (fun e => e hf)))
          clear EB HF hf
          go_wp2_with fail
          refine (one_any v n va na vc nc _ VV.out VN.out OV.out OB.out).mono ?_
          rintro e w5 ⟨o5, k5, rfl, A5, hb⟩
          have B5 := bcm w hb
          have q5 : w4.heap.size ≤ w5.heap.size := qle hb
          replace VV := Hd (VV.out.bl hb)
          replace VN := Hd (VN.out.bl hb)
          replace R := R.bw hb
          replace V := V.bw hb
          replace Z := Z.bw hb
          clear hb
          have s5 := B5.size
          clear Rc Rf Rl Vc Vf Vl Zc Zf Zl
          have ⟨Rc, Rf, Rl⟩ := R
          have ⟨Vc, Vf, Vl⟩ := V
          have ⟨Zc, Zf, Zl⟩ := Z
          go_wp2_with fail
          have RN := R.st 0 (.slice o5 (Pl.oneR v n).length k5)
          obtain ⟨RNc, RNf, RNl⟩ := RN
          refine bodyPost_ret (v := .tuple #[.agg #[.slice o5 (Pl.oneR v n).length k5], .int .i64 0]) (by simp [results, Tryz.results124, go_sem, RNc]) rfl (RTerm.ok EV.out (A5.setBk R (by simp) (j := 0) rfl (by nofun) _) (by go_grown))
        · have u9 : (f1 != 0) = true := bneT hf
          have EV : Hid (RV = ([], 10)) := Hd (EB.out.trans (if_pos hf))
          clear EB HF hf
          go_wp2_with fail
          have RN := (R.st 0 (.slice none 0 0))
          obtain ⟨RNc, RNf, RNl⟩ := RN
          refine bodyPost_ret (v := .tuple #[.agg #[.slice none 0 0], .int .i64 10]) (by simp [results, Tryz.results124, go_sem, RNc]) rfl (RTerm.bad EV.out (by go_grown))
      · have hS : S = ⟨#[94]⟩ := Pl.bsl_inj hop
        subst hS
        have N6 : Hid (RV = Pl.opR [94] v) := Hd N5.out
        clear N5 hop
        have a6261 : ((⟨#[94]⟩ : ByteArray).toList == (⟨#[62, 61]⟩ : ByteArray).toList) = false := (strB [94] [62, 61]).trans (by decide)
        have b6261 : ((⟨#[94]⟩ : ByteArray).toList != (⟨#[62, 61]⟩ : ByteArray).toList) = true := (strN [94] [62, 61]).trans (by decide)
        have a6061 : ((⟨#[94]⟩ : ByteArray).toList == (⟨#[60, 61]⟩ : ByteArray).toList) = false := (strB [94] [60, 61]).trans (by decide)
        have b6061 : ((⟨#[94]⟩ : ByteArray).toList != (⟨#[60, 61]⟩ : ByteArray).toList) = true := (strN [94] [60, 61]).trans (by decide)
        have a62 : ((⟨#[94]⟩ : ByteArray).toList == (⟨#[62]⟩ : ByteArray).toList) = false := (strB [94] [62]).trans (by decide)
        have b62 : ((⟨#[94]⟩ : ByteArray).toList != (⟨#[62]⟩ : ByteArray).toList) = true := (strN [94] [62]).trans (by decide)
        have a60 : ((⟨#[94]⟩ : ByteArray).toList == (⟨#[60]⟩ : ByteArray).toList) = false := (strB [94] [60]).trans (by decide)
        have b60 : ((⟨#[94]⟩ : ByteArray).toList != (⟨#[60]⟩ : ByteArray).toList) = true := (strN [94] [60]).trans (by decide)
        have a61 : ((⟨#[94]⟩ : ByteArray).toList == (⟨#[61]⟩ : ByteArray).toList) = false := (strB [94] [61]).trans (by decide)
        have b61 : ((⟨#[94]⟩ : ByteArray).toList != (⟨#[61]⟩ : ByteArray).toList) = true := (strN [94] [61]).trans (by decide)
        have a94 : ((⟨#[94]⟩ : ByteArray).toList == (⟨#[94]⟩ : ByteArray).toList) = true := (strB [94] [94]).trans (by decide)
        have b94 : ((⟨#[94]⟩ : ByteArray).toList != (⟨#[94]⟩ : ByteArray).toList) = false := (strN [94] [94]).trans (by decide)
        have a126 : ((⟨#[94]⟩ : ByteArray).toList == (⟨#[126]⟩ : ByteArray).toList) = false := (strB [94] [126]).trans (by decide)
        have b126 : ((⟨#[94]⟩ : ByteArray).toList != (⟨#[126]⟩ : ByteArray).toList) = true := (strN [94] [126]).trans (by decide)
        have EB : Hid (RV = if (Pl.vrF (Pl.bndV [94] v)).1 ≠ 0 then ([], 10) else (Pl.oneR v (Pl.bndV [94] v), 0)) := Hd (N6.out.trans (by unfold Pl.opR; rw [if_neg (by decide), if_neg (by decide)]; simp))
        clear N6
        go_wp2_with fail
        refine (VersionNext_any v va vc _ (VV.out.bl (by go_grown)) OV.out).mono ?_
        rintro e w3 ⟨na, nc, rfl, VN, hb⟩
        replace VN := Hd VN
        have B3 := bcm w hb
        have q3 : w2.heap.size + 1 ≤ w3.heap.size := qle hb
        replace VV := Hd ((VV.out.al _).bl hb)
        replace R := ((R.alloc _)).bw hb
        have V := ((bkn w2.heap.size [.int .i64 v.maj, .int .i64 v.min, .int .i64 v.pat, .slice va v.pre.length vc] 24)).bw hb
        clear hb
        have s3 := B3.size
        clear Rc Rf Rl
        have ⟨Rc, Rf, Rl⟩ := R
        have ⟨Vc, Vf, Vl⟩ := V
        generalize Pl.verNext v = n at *
        have hv1 := Pl.inT OV.out.m1
        have hv2 := Pl.inT OV.out.m2
        have hv3 := Pl.inT OV.out.m3
        by_cases m0 : v.maj = 0
        · have u0 : (v.maj == 0) = true := beqT m0
          have u1 : decide (v.maj > 0) = false := decF (by omega)
          have u2 : decide (0 < v.maj) = false := decF (by omega)
          by_cases m1 : v.min = 0
          · have u3 : decide (v.min > 0) = false := decF (by omega)
            have u4 : decide (0 < v.min) = false := decF (by omega)
            have hval : Pl.bndV [94] v = ⟨0, 0, v.pat + 1, [⟨#[48]⟩]⟩ := by simp [Pl.bndV, Pl.capV, m0, m1, Pl.zeroId]
            have i2 : IntKind.i64.wrap (v.pat + 1) = v.pat + 1 := IntWalk.i64_in _ (by omega)
            clear m0 m1
            rw [hval] at EB
            go_wp2_with fail
            replace VV := Hd ((VV.out.al (.cells #[.int .i64 0, .int .i64 0, .int .i64 (v.pat + 1), .slice (some ⟨w3.heap.size + 1, 0, none⟩) 1 1] 24)).al (.cells #[.string ⟨#[48]⟩] 9))
            replace VN := Hd ((VN.out.al (.cells #[.int .i64 0, .int .i64 0, .int .i64 (v.pat + 1), .slice (some ⟨w3.heap.size + 1, 0, none⟩) 1 1] 24)).al (.cells #[.string ⟨#[48]⟩] 9))
            replace R := ((R.alloc (.cells #[.int .i64 0, .int .i64 0, .int .i64 (v.pat + 1), .slice (some ⟨w3.heap.size + 1, 0, none⟩) 1 1] 24)).alloc (.cells #[.string ⟨#[48]⟩] 9))
            replace V := ((V.alloc (.cells #[.int .i64 0, .int .i64 0, .int .i64 (v.pat + 1), .slice (some ⟨w3.heap.size + 1, 0, none⟩) 1 1] 24)).alloc (.cells #[.string ⟨#[48]⟩] 9))
            have Z := ((Bk.new (r := w3.heap.size) (cs := [.int .i64 0, .int .i64 0, .int .i64 (v.pat + 1), .slice (some ⟨w3.heap.size + 1, 0, none⟩) 1 1]) w3 24 (by simp)).alloc (.cells #[.string ⟨#[48]⟩] 9))
            have K := (Bk.new (r := w3.heap.size + 1) (cs := [.string ⟨#[48]⟩]) (w3.alloc (.cells #[.int .i64 0, .int .i64 0, .int .i64 (v.pat + 1), .slice (some ⟨w3.heap.size + 1, 0, none⟩) 1 1] 24)) 9 (by simp))
            clear Rc Rf Rl Vc Vf Vl
            generalize hW : ((w3.alloc (.cells #[.int .i64 0, .int .i64 0, .int .i64 (v.pat + 1), .slice (some ⟨w3.heap.size + 1, 0, none⟩) 1 1] 24)).alloc (.cells #[.string ⟨#[48]⟩] 9)) = w4 at *
            have B4 : Below w.heap.size w w4 := by rw [← hW]; go_grown
            have q4 : w3.heap.size + 2 ≤ w4.heap.size := by rw [← hW]; go_size
            clear hW
            have s4 := B4.size
            have ⟨Rc, Rf, Rl⟩ := R
            have ⟨Vc, Vf, Vl⟩ := V
            have ⟨Zc, Zf, Zl⟩ := Z
            have ⟨Kc, Kf, Kl⟩ := K
            have VB := Hd (VIn.lit (m := 0) (n := 0) (p := (v.pat + 1)) (by decide) K)
            have CF := Hd (fun (W : World) (g1 : VIn W (⟨0, 0, (v.pat + 1), [⟨#[48]⟩]⟩ : Pl.Ver) (some ⟨w3.heap.size + 1, 0, none⟩) 1) => VersionFault_any (⟨0, 0, (v.pat + 1), [⟨#[48]⟩]⟩ : Pl.Ver) (some ⟨w3.heap.size + 1, 0, none⟩) 1 W g1)
            obtain ⟨F, hF⟩ : ∃ F, Pl.vrF (⟨0, 0, (v.pat + 1), [⟨#[48]⟩]⟩ : Pl.Ver) = F := ⟨_, rfl⟩
            rw [hF] at CF EB
            have HF := Hd hF
            clear hF
            obtain ⟨f1, f2⟩ := F
            simp only [fltV] at CF
            refine (CF.out _ (VB.out)).mono ?_
            rintro e w5 ⟨rfl, hb⟩
            have B5 := bcm w hb
            have q5 : w4.heap.size ≤ w5.heap.size := qle hb
            replace VV := Hd (VV.out.bl hb)
            replace VN := Hd (VN.out.bl hb)
            replace VB := Hd (VB.out.bl hb)
            replace R := R.bw hb
            replace V := V.bw hb
            replace Z := Z.bw hb
            replace K := K.bw hb
            clear hb
            have s5 := B5.size
            clear Rc Rf Rl Vc Vf Vl Zc Zf Zl Kc Kf Kl
            have ⟨Rc, Rf, Rl⟩ := R
            have ⟨Vc, Vf, Vl⟩ := V
            have ⟨Zc, Zf, Zl⟩ := Z
            have ⟨Kc, Kf, Kl⟩ := K
            clear CF
            by_cases hf : f1 = 0
            · have u9 : (f1 != 0) = false := bneF hf
              have OB : Hid ((⟨0, 0, (v.pat + 1), [⟨#[48]⟩]⟩ : Pl.Ver).Ok) := Hd (Pl.vr_ok (by rw [HF.out]; exact hf))
              have EV : Hid (RV = ((Pl.oneR v (⟨0, 0, (v.pat + 1), [⟨#[48]⟩]⟩ : Pl.Ver)), 0)) := Hd (EB.out.trans (if_neg (fun e => e hf)))
              clear EB HF hf
              go_wp2_with fail
              refine (one_any v (⟨0, 0, (v.pat + 1), [⟨#[48]⟩]⟩ : Pl.Ver) va (some ⟨w3.heap.size + 1, 0, none⟩) vc 1 _ VV.out VB.out OV.out OB.out).mono ?_
              rintro e w6 ⟨o5, k5, rfl, A5, hb⟩
              have B6 := bcm w hb
              have q6 : w5.heap.size ≤ w6.heap.size := qle hb
              replace VV := Hd (VV.out.bl hb)
              replace VN := Hd (VN.out.bl hb)
              replace VB := Hd (VB.out.bl hb)
              replace R := R.bw hb
              replace V := V.bw hb
              replace Z := Z.bw hb
              replace K := K.bw hb
              clear hb
              have s6 := B6.size
              clear Rc Rf Rl Vc Vf Vl Zc Zf Zl Kc Kf Kl
              have ⟨Rc, Rf, Rl⟩ := R
              have ⟨Vc, Vf, Vl⟩ := V
              have ⟨Zc, Zf, Zl⟩ := Z
              have ⟨Kc, Kf, Kl⟩ := K
              go_wp2_with fail
              have RN := R.st 0 (.slice o5 (Pl.oneR v (⟨0, 0, (v.pat + 1), [⟨#[48]⟩]⟩ : Pl.Ver)).length k5)
              obtain ⟨RNc, RNf, RNl⟩ := RN
              refine bodyPost_ret (v := .tuple #[.agg #[.slice o5 (Pl.oneR v (⟨0, 0, (v.pat + 1), [⟨#[48]⟩]⟩ : Pl.Ver)).length k5], .int .i64 0]) (by simp [results, Tryz.results124, go_sem, RNc]) rfl (RTerm.ok EV.out (A5.setBk R (by simp) (j := 0) rfl (by nofun) _) (by go_grown))
            · have u9 : (f1 != 0) = true := bneT hf
              have EV : Hid (RV = ([], 10)) := Hd (EB.out.trans (if_pos hf))
              clear EB HF hf
              go_wp2_with fail
              have RN := (R.st 0 (.slice none 0 0))
              obtain ⟨RNc, RNf, RNl⟩ := RN
              refine bodyPost_ret (v := .tuple #[.agg #[.slice none 0 0], .int .i64 10]) (by simp [results, Tryz.results124, go_sem, RNc]) rfl (RTerm.bad EV.out (by go_grown))
          · have u3 : decide (v.min > 0) = true := decT (by omega)
            have u4 : decide (0 < v.min) = true := decT (by omega)
            have hval : Pl.bndV [94] v = ⟨v.maj, v.min + 1, 0, [⟨#[48]⟩]⟩ := by simp [Pl.bndV, Pl.capV, m0, m1, Pl.zeroId]
            have i2 : IntKind.i64.wrap (v.min + 1) = v.min + 1 := IntWalk.i64_in _ (by omega)
            clear m0 m1
            rw [hval] at EB
            go_wp2_with fail
            replace VV := Hd ((VV.out.al (.cells #[.int .i64 v.maj, .int .i64 (v.min + 1), .int .i64 0, .slice (some ⟨w3.heap.size + 1, 0, none⟩) 1 1] 24)).al (.cells #[.string ⟨#[48]⟩] 9))
            replace VN := Hd ((VN.out.al (.cells #[.int .i64 v.maj, .int .i64 (v.min + 1), .int .i64 0, .slice (some ⟨w3.heap.size + 1, 0, none⟩) 1 1] 24)).al (.cells #[.string ⟨#[48]⟩] 9))
            replace R := ((R.alloc (.cells #[.int .i64 v.maj, .int .i64 (v.min + 1), .int .i64 0, .slice (some ⟨w3.heap.size + 1, 0, none⟩) 1 1] 24)).alloc (.cells #[.string ⟨#[48]⟩] 9))
            replace V := ((V.alloc (.cells #[.int .i64 v.maj, .int .i64 (v.min + 1), .int .i64 0, .slice (some ⟨w3.heap.size + 1, 0, none⟩) 1 1] 24)).alloc (.cells #[.string ⟨#[48]⟩] 9))
            have Z := ((Bk.new (r := w3.heap.size) (cs := [.int .i64 v.maj, .int .i64 (v.min + 1), .int .i64 0, .slice (some ⟨w3.heap.size + 1, 0, none⟩) 1 1]) w3 24 (by simp)).alloc (.cells #[.string ⟨#[48]⟩] 9))
            have K := (Bk.new (r := w3.heap.size + 1) (cs := [.string ⟨#[48]⟩]) (w3.alloc (.cells #[.int .i64 v.maj, .int .i64 (v.min + 1), .int .i64 0, .slice (some ⟨w3.heap.size + 1, 0, none⟩) 1 1] 24)) 9 (by simp))
            clear Rc Rf Rl Vc Vf Vl
            generalize hW : ((w3.alloc (.cells #[.int .i64 v.maj, .int .i64 (v.min + 1), .int .i64 0, .slice (some ⟨w3.heap.size + 1, 0, none⟩) 1 1] 24)).alloc (.cells #[.string ⟨#[48]⟩] 9)) = w4 at *
            have B4 : Below w.heap.size w w4 := by rw [← hW]; go_grown
            have q4 : w3.heap.size + 2 ≤ w4.heap.size := by rw [← hW]; go_size
            clear hW
            have s4 := B4.size
            have ⟨Rc, Rf, Rl⟩ := R
            have ⟨Vc, Vf, Vl⟩ := V
            have ⟨Zc, Zf, Zl⟩ := Z
            have ⟨Kc, Kf, Kl⟩ := K
            have VB := Hd (VIn.lit (m := v.maj) (n := (v.min + 1)) (p := 0) (by decide) K)
            have CF := Hd (fun (W : World) (g1 : VIn W (⟨v.maj, (v.min + 1), 0, [⟨#[48]⟩]⟩ : Pl.Ver) (some ⟨w3.heap.size + 1, 0, none⟩) 1) => VersionFault_any (⟨v.maj, (v.min + 1), 0, [⟨#[48]⟩]⟩ : Pl.Ver) (some ⟨w3.heap.size + 1, 0, none⟩) 1 W g1)
            obtain ⟨F, hF⟩ : ∃ F, Pl.vrF (⟨v.maj, (v.min + 1), 0, [⟨#[48]⟩]⟩ : Pl.Ver) = F := ⟨_, rfl⟩
            rw [hF] at CF EB
            have HF := Hd hF
            clear hF
            obtain ⟨f1, f2⟩ := F
            simp only [fltV] at CF
            refine (CF.out _ (VB.out)).mono ?_
            rintro e w5 ⟨rfl, hb⟩
            have B5 := bcm w hb
            have q5 : w4.heap.size ≤ w5.heap.size := qle hb
            replace VV := Hd (VV.out.bl hb)
            replace VN := Hd (VN.out.bl hb)
            replace VB := Hd (VB.out.bl hb)
            replace R := R.bw hb
            replace V := V.bw hb
            replace Z := Z.bw hb
            replace K := K.bw hb
            clear hb
            have s5 := B5.size
            clear Rc Rf Rl Vc Vf Vl Zc Zf Zl Kc Kf Kl
            have ⟨Rc, Rf, Rl⟩ := R
            have ⟨Vc, Vf, Vl⟩ := V
            have ⟨Zc, Zf, Zl⟩ := Z
            have ⟨Kc, Kf, Kl⟩ := K
            clear CF
            by_cases hf : f1 = 0
            · have u9 : (f1 != 0) = false := bneF hf
              have OB : Hid ((⟨v.maj, (v.min + 1), 0, [⟨#[48]⟩]⟩ : Pl.Ver).Ok) := Hd (Pl.vr_ok (by rw [HF.out]; exact hf))
              have EV : Hid (RV = ((Pl.oneR v (⟨v.maj, (v.min + 1), 0, [⟨#[48]⟩]⟩ : Pl.Ver)), 0)) := Hd (EB.out.trans (if_neg (fun e => e hf)))
              clear EB HF hf
              go_wp2_with fail
              refine (one_any v (⟨v.maj, (v.min + 1), 0, [⟨#[48]⟩]⟩ : Pl.Ver) va (some ⟨w3.heap.size + 1, 0, none⟩) vc 1 _ VV.out VB.out OV.out OB.out).mono ?_
              rintro e w6 ⟨o5, k5, rfl, A5, hb⟩
              have B6 := bcm w hb
              have q6 : w5.heap.size ≤ w6.heap.size := qle hb
              replace VV := Hd (VV.out.bl hb)
              replace VN := Hd (VN.out.bl hb)
              replace VB := Hd (VB.out.bl hb)
              replace R := R.bw hb
              replace V := V.bw hb
              replace Z := Z.bw hb
              replace K := K.bw hb
              clear hb
              have s6 := B6.size
              clear Rc Rf Rl Vc Vf Vl Zc Zf Zl Kc Kf Kl
              have ⟨Rc, Rf, Rl⟩ := R
              have ⟨Vc, Vf, Vl⟩ := V
              have ⟨Zc, Zf, Zl⟩ := Z
              have ⟨Kc, Kf, Kl⟩ := K
              go_wp2_with fail
              have RN := R.st 0 (.slice o5 (Pl.oneR v (⟨v.maj, (v.min + 1), 0, [⟨#[48]⟩]⟩ : Pl.Ver)).length k5)
              obtain ⟨RNc, RNf, RNl⟩ := RN
              refine bodyPost_ret (v := .tuple #[.agg #[.slice o5 (Pl.oneR v (⟨v.maj, (v.min + 1), 0, [⟨#[48]⟩]⟩ : Pl.Ver)).length k5], .int .i64 0]) (by simp [results, Tryz.results124, go_sem, RNc]) rfl (RTerm.ok EV.out (A5.setBk R (by simp) (j := 0) rfl (by nofun) _) (by go_grown))
            · have u9 : (f1 != 0) = true := bneT hf
              have EV : Hid (RV = ([], 10)) := Hd (EB.out.trans (if_pos hf))
              clear EB HF hf
              go_wp2_with fail
              have RN := (R.st 0 (.slice none 0 0))
              obtain ⟨RNc, RNf, RNl⟩ := RN
              refine bodyPost_ret (v := .tuple #[.agg #[.slice none 0 0], .int .i64 10]) (by simp [results, Tryz.results124, go_sem, RNc]) rfl (RTerm.bad EV.out (by go_grown))
        · have u0 : (v.maj == 0) = false := beqF m0
          have u1 : decide (v.maj > 0) = true := decT (by omega)
          have u2 : decide (0 < v.maj) = true := decT (by omega)
          have hval : Pl.bndV [94] v = ⟨v.maj + 1, 0, 0, [⟨#[48]⟩]⟩ := by simp [Pl.bndV, Pl.capV, m0, Pl.zeroId]
          have i2 : IntKind.i64.wrap (v.maj + 1) = v.maj + 1 := IntWalk.i64_in _ (by omega)
          clear m0
          rw [hval] at EB
          go_wp2_with fail
          replace VV := Hd ((VV.out.al (.cells #[.int .i64 (v.maj + 1), .int .i64 0, .int .i64 0, .slice (some ⟨w3.heap.size + 1, 0, none⟩) 1 1] 24)).al (.cells #[.string ⟨#[48]⟩] 9))
          replace VN := Hd ((VN.out.al (.cells #[.int .i64 (v.maj + 1), .int .i64 0, .int .i64 0, .slice (some ⟨w3.heap.size + 1, 0, none⟩) 1 1] 24)).al (.cells #[.string ⟨#[48]⟩] 9))
          replace R := ((R.alloc (.cells #[.int .i64 (v.maj + 1), .int .i64 0, .int .i64 0, .slice (some ⟨w3.heap.size + 1, 0, none⟩) 1 1] 24)).alloc (.cells #[.string ⟨#[48]⟩] 9))
          replace V := ((V.alloc (.cells #[.int .i64 (v.maj + 1), .int .i64 0, .int .i64 0, .slice (some ⟨w3.heap.size + 1, 0, none⟩) 1 1] 24)).alloc (.cells #[.string ⟨#[48]⟩] 9))
          have Z := ((Bk.new (r := w3.heap.size) (cs := [.int .i64 (v.maj + 1), .int .i64 0, .int .i64 0, .slice (some ⟨w3.heap.size + 1, 0, none⟩) 1 1]) w3 24 (by simp)).alloc (.cells #[.string ⟨#[48]⟩] 9))
          have K := (Bk.new (r := w3.heap.size + 1) (cs := [.string ⟨#[48]⟩]) (w3.alloc (.cells #[.int .i64 (v.maj + 1), .int .i64 0, .int .i64 0, .slice (some ⟨w3.heap.size + 1, 0, none⟩) 1 1] 24)) 9 (by simp))
          clear Rc Rf Rl Vc Vf Vl
          generalize hW : ((w3.alloc (.cells #[.int .i64 (v.maj + 1), .int .i64 0, .int .i64 0, .slice (some ⟨w3.heap.size + 1, 0, none⟩) 1 1] 24)).alloc (.cells #[.string ⟨#[48]⟩] 9)) = w4 at *
          have B4 : Below w.heap.size w w4 := by rw [← hW]; go_grown
          have q4 : w3.heap.size + 2 ≤ w4.heap.size := by rw [← hW]; go_size
          clear hW
          have s4 := B4.size
          have ⟨Rc, Rf, Rl⟩ := R
          have ⟨Vc, Vf, Vl⟩ := V
          have ⟨Zc, Zf, Zl⟩ := Z
          have ⟨Kc, Kf, Kl⟩ := K
          have VB := Hd (VIn.lit (m := (v.maj + 1)) (n := 0) (p := 0) (by decide) K)
          have CF := Hd (fun (W : World) (g1 : VIn W (⟨(v.maj + 1), 0, 0, [⟨#[48]⟩]⟩ : Pl.Ver) (some ⟨w3.heap.size + 1, 0, none⟩) 1) => VersionFault_any (⟨(v.maj + 1), 0, 0, [⟨#[48]⟩]⟩ : Pl.Ver) (some ⟨w3.heap.size + 1, 0, none⟩) 1 W g1)
          obtain ⟨F, hF⟩ : ∃ F, Pl.vrF (⟨(v.maj + 1), 0, 0, [⟨#[48]⟩]⟩ : Pl.Ver) = F := ⟨_, rfl⟩
          rw [hF] at CF EB
          have HF := Hd hF
          clear hF
          obtain ⟨f1, f2⟩ := F
          simp only [fltV] at CF
          refine (CF.out _ (VB.out)).mono ?_
          rintro e w5 ⟨rfl, hb⟩
          have B5 := bcm w hb
          have q5 : w4.heap.size ≤ w5.heap.size := qle hb
          replace VV := Hd (VV.out.bl hb)
          replace VN := Hd (VN.out.bl hb)
          replace VB := Hd (VB.out.bl hb)
          replace R := R.bw hb
          replace V := V.bw hb
          replace Z := Z.bw hb
          replace K := K.bw hb
          clear hb
          have s5 := B5.size
          clear Rc Rf Rl Vc Vf Vl Zc Zf Zl Kc Kf Kl
          have ⟨Rc, Rf, Rl⟩ := R
          have ⟨Vc, Vf, Vl⟩ := V
          have ⟨Zc, Zf, Zl⟩ := Z
          have ⟨Kc, Kf, Kl⟩ := K
          clear CF
          by_cases hf : f1 = 0
          · have u9 : (f1 != 0) = false := bneF hf
            have OB : Hid ((⟨(v.maj + 1), 0, 0, [⟨#[48]⟩]⟩ : Pl.Ver).Ok) := Hd (Pl.vr_ok (by rw [HF.out]; exact hf))
            have EV : Hid (RV = ((Pl.oneR v (⟨(v.maj + 1), 0, 0, [⟨#[48]⟩]⟩ : Pl.Ver)), 0)) := Hd (EB.out.trans (if_neg (fun e => e hf)))
            clear EB HF hf
            go_wp2_with fail
            refine (one_any v (⟨(v.maj + 1), 0, 0, [⟨#[48]⟩]⟩ : Pl.Ver) va (some ⟨w3.heap.size + 1, 0, none⟩) vc 1 _ VV.out VB.out OV.out OB.out).mono ?_
            rintro e w6 ⟨o5, k5, rfl, A5, hb⟩
            have B6 := bcm w hb
            have q6 : w5.heap.size ≤ w6.heap.size := qle hb
            replace VV := Hd (VV.out.bl hb)
            replace VN := Hd (VN.out.bl hb)
            replace VB := Hd (VB.out.bl hb)
            replace R := R.bw hb
            replace V := V.bw hb
            replace Z := Z.bw hb
            replace K := K.bw hb
            clear hb
            have s6 := B6.size
            clear Rc Rf Rl Vc Vf Vl Zc Zf Zl Kc Kf Kl
            have ⟨Rc, Rf, Rl⟩ := R
            have ⟨Vc, Vf, Vl⟩ := V
            have ⟨Zc, Zf, Zl⟩ := Z
            have ⟨Kc, Kf, Kl⟩ := K
            go_wp2_with fail
            have RN := R.st 0 (.slice o5 (Pl.oneR v (⟨(v.maj + 1), 0, 0, [⟨#[48]⟩]⟩ : Pl.Ver)).length k5)
            obtain ⟨RNc, RNf, RNl⟩ := RN
            refine bodyPost_ret (v := .tuple #[.agg #[.slice o5 (Pl.oneR v (⟨(v.maj + 1), 0, 0, [⟨#[48]⟩]⟩ : Pl.Ver)).length k5], .int .i64 0]) (by simp [results, Tryz.results124, go_sem, RNc]) rfl (RTerm.ok EV.out (A5.setBk R (by simp) (j := 0) rfl (by nofun) _) (by go_grown))
          · have u9 : (f1 != 0) = true := bneT hf
            have EV : Hid (RV = ([], 10)) := Hd (EB.out.trans (if_pos hf))
            clear EB HF hf
            go_wp2_with fail
            have RN := (R.st 0 (.slice none 0 0))
            obtain ⟨RNc, RNf, RNl⟩ := RN
            refine bodyPost_ret (v := .tuple #[.agg #[.slice none 0 0], .int .i64 10]) (by simp [results, Tryz.results124, go_sem, RNc]) rfl (RTerm.bad EV.out (by go_grown))
      · have hS : S = ⟨#[126]⟩ := Pl.bsl_inj hop
        subst hS
        have N6 : Hid (RV = Pl.opR [126] v) := Hd N5.out
        clear N5 hop
        have a6261 : ((⟨#[126]⟩ : ByteArray).toList == (⟨#[62, 61]⟩ : ByteArray).toList) = false := (strB [126] [62, 61]).trans (by decide)
        have b6261 : ((⟨#[126]⟩ : ByteArray).toList != (⟨#[62, 61]⟩ : ByteArray).toList) = true := (strN [126] [62, 61]).trans (by decide)
        have a6061 : ((⟨#[126]⟩ : ByteArray).toList == (⟨#[60, 61]⟩ : ByteArray).toList) = false := (strB [126] [60, 61]).trans (by decide)
        have b6061 : ((⟨#[126]⟩ : ByteArray).toList != (⟨#[60, 61]⟩ : ByteArray).toList) = true := (strN [126] [60, 61]).trans (by decide)
        have a62 : ((⟨#[126]⟩ : ByteArray).toList == (⟨#[62]⟩ : ByteArray).toList) = false := (strB [126] [62]).trans (by decide)
        have b62 : ((⟨#[126]⟩ : ByteArray).toList != (⟨#[62]⟩ : ByteArray).toList) = true := (strN [126] [62]).trans (by decide)
        have a60 : ((⟨#[126]⟩ : ByteArray).toList == (⟨#[60]⟩ : ByteArray).toList) = false := (strB [126] [60]).trans (by decide)
        have b60 : ((⟨#[126]⟩ : ByteArray).toList != (⟨#[60]⟩ : ByteArray).toList) = true := (strN [126] [60]).trans (by decide)
        have a61 : ((⟨#[126]⟩ : ByteArray).toList == (⟨#[61]⟩ : ByteArray).toList) = false := (strB [126] [61]).trans (by decide)
        have b61 : ((⟨#[126]⟩ : ByteArray).toList != (⟨#[61]⟩ : ByteArray).toList) = true := (strN [126] [61]).trans (by decide)
        have a94 : ((⟨#[126]⟩ : ByteArray).toList == (⟨#[94]⟩ : ByteArray).toList) = false := (strB [126] [94]).trans (by decide)
        have b94 : ((⟨#[126]⟩ : ByteArray).toList != (⟨#[94]⟩ : ByteArray).toList) = true := (strN [126] [94]).trans (by decide)
        have a126 : ((⟨#[126]⟩ : ByteArray).toList == (⟨#[126]⟩ : ByteArray).toList) = true := (strB [126] [126]).trans (by decide)
        have b126 : ((⟨#[126]⟩ : ByteArray).toList != (⟨#[126]⟩ : ByteArray).toList) = false := (strN [126] [126]).trans (by decide)
        have EB : Hid (RV = if (Pl.vrF (Pl.bndV [126] v)).1 ≠ 0 then ([], 10) else (Pl.oneR v (Pl.bndV [126] v), 0)) := Hd (N6.out.trans (by unfold Pl.opR; rw [if_neg (by decide), if_neg (by decide)]; simp))
        clear N6
        go_wp2_with fail
        refine (VersionNext_any v va vc _ (VV.out.bl (by go_grown)) OV.out).mono ?_
        rintro e w3 ⟨na, nc, rfl, VN, hb⟩
        replace VN := Hd VN
        have B3 := bcm w hb
        have q3 : w2.heap.size + 1 ≤ w3.heap.size := qle hb
        replace VV := Hd ((VV.out.al _).bl hb)
        replace R := ((R.alloc _)).bw hb
        have V := ((bkn w2.heap.size [.int .i64 v.maj, .int .i64 v.min, .int .i64 v.pat, .slice va v.pre.length vc] 24)).bw hb
        clear hb
        have s3 := B3.size
        clear Rc Rf Rl
        have ⟨Rc, Rf, Rl⟩ := R
        have ⟨Vc, Vf, Vl⟩ := V
        generalize Pl.verNext v = n at *
        have hv1 := Pl.inT OV.out.m1
        have hv2 := Pl.inT OV.out.m2
        have hv3 := Pl.inT OV.out.m3
        have hval : Pl.bndV [126] v = ⟨v.maj, v.min + 1, 0, [⟨#[48]⟩]⟩ := rfl
        have i2 : IntKind.i64.wrap (v.min + 1) = v.min + 1 := IntWalk.i64_in _ (by omega)
        rw [hval] at EB
        go_wp2_with fail
        replace VV := Hd ((VV.out.al (.cells #[.int .i64 v.maj, .int .i64 (v.min + 1), .int .i64 0, .slice (some ⟨w3.heap.size + 1, 0, none⟩) 1 1] 24)).al (.cells #[.string ⟨#[48]⟩] 9))
        replace VN := Hd ((VN.out.al (.cells #[.int .i64 v.maj, .int .i64 (v.min + 1), .int .i64 0, .slice (some ⟨w3.heap.size + 1, 0, none⟩) 1 1] 24)).al (.cells #[.string ⟨#[48]⟩] 9))
        replace R := ((R.alloc (.cells #[.int .i64 v.maj, .int .i64 (v.min + 1), .int .i64 0, .slice (some ⟨w3.heap.size + 1, 0, none⟩) 1 1] 24)).alloc (.cells #[.string ⟨#[48]⟩] 9))
        replace V := ((V.alloc (.cells #[.int .i64 v.maj, .int .i64 (v.min + 1), .int .i64 0, .slice (some ⟨w3.heap.size + 1, 0, none⟩) 1 1] 24)).alloc (.cells #[.string ⟨#[48]⟩] 9))
        have Z := ((Bk.new (r := w3.heap.size) (cs := [.int .i64 v.maj, .int .i64 (v.min + 1), .int .i64 0, .slice (some ⟨w3.heap.size + 1, 0, none⟩) 1 1]) w3 24 (by simp)).alloc (.cells #[.string ⟨#[48]⟩] 9))
        have K := (Bk.new (r := w3.heap.size + 1) (cs := [.string ⟨#[48]⟩]) (w3.alloc (.cells #[.int .i64 v.maj, .int .i64 (v.min + 1), .int .i64 0, .slice (some ⟨w3.heap.size + 1, 0, none⟩) 1 1] 24)) 9 (by simp))
        clear Rc Rf Rl Vc Vf Vl
        generalize hW : ((w3.alloc (.cells #[.int .i64 v.maj, .int .i64 (v.min + 1), .int .i64 0, .slice (some ⟨w3.heap.size + 1, 0, none⟩) 1 1] 24)).alloc (.cells #[.string ⟨#[48]⟩] 9)) = w4 at *
        have B4 : Below w.heap.size w w4 := by rw [← hW]; go_grown
        have q4 : w3.heap.size + 2 ≤ w4.heap.size := by rw [← hW]; go_size
        clear hW
        have s4 := B4.size
        have ⟨Rc, Rf, Rl⟩ := R
        have ⟨Vc, Vf, Vl⟩ := V
        have ⟨Zc, Zf, Zl⟩ := Z
        have ⟨Kc, Kf, Kl⟩ := K
        have VB := Hd (VIn.lit (m := v.maj) (n := (v.min + 1)) (p := 0) (by decide) K)
        have CF := Hd (fun (W : World) (g1 : VIn W (⟨v.maj, (v.min + 1), 0, [⟨#[48]⟩]⟩ : Pl.Ver) (some ⟨w3.heap.size + 1, 0, none⟩) 1) => VersionFault_any (⟨v.maj, (v.min + 1), 0, [⟨#[48]⟩]⟩ : Pl.Ver) (some ⟨w3.heap.size + 1, 0, none⟩) 1 W g1)
        obtain ⟨F, hF⟩ : ∃ F, Pl.vrF (⟨v.maj, (v.min + 1), 0, [⟨#[48]⟩]⟩ : Pl.Ver) = F := ⟨_, rfl⟩
        rw [hF] at CF EB
        have HF := Hd hF
        clear hF
        obtain ⟨f1, f2⟩ := F
        simp only [fltV] at CF
        refine (CF.out _ (VB.out)).mono ?_
        rintro e w5 ⟨rfl, hb⟩
        have B5 := bcm w hb
        have q5 : w4.heap.size ≤ w5.heap.size := qle hb
        replace VV := Hd (VV.out.bl hb)
        replace VN := Hd (VN.out.bl hb)
        replace VB := Hd (VB.out.bl hb)
        replace R := R.bw hb
        replace V := V.bw hb
        replace Z := Z.bw hb
        replace K := K.bw hb
        clear hb
        have s5 := B5.size
        clear Rc Rf Rl Vc Vf Vl Zc Zf Zl Kc Kf Kl
        have ⟨Rc, Rf, Rl⟩ := R
        have ⟨Vc, Vf, Vl⟩ := V
        have ⟨Zc, Zf, Zl⟩ := Z
        have ⟨Kc, Kf, Kl⟩ := K
        clear CF
        by_cases hf : f1 = 0
        · have u9 : (f1 != 0) = false := bneF hf
          have OB : Hid ((⟨v.maj, (v.min + 1), 0, [⟨#[48]⟩]⟩ : Pl.Ver).Ok) := Hd (Pl.vr_ok (by rw [HF.out]; exact hf))
          have EV : Hid (RV = ((Pl.oneR v (⟨v.maj, (v.min + 1), 0, [⟨#[48]⟩]⟩ : Pl.Ver)), 0)) := Hd (EB.out.trans (if_neg (fun e => e hf)))
          clear EB HF hf
          go_wp2_with fail
          refine (one_any v (⟨v.maj, (v.min + 1), 0, [⟨#[48]⟩]⟩ : Pl.Ver) va (some ⟨w3.heap.size + 1, 0, none⟩) vc 1 _ VV.out VB.out OV.out OB.out).mono ?_
          rintro e w6 ⟨o5, k5, rfl, A5, hb⟩
          have B6 := bcm w hb
          have q6 : w5.heap.size ≤ w6.heap.size := qle hb
          replace VV := Hd (VV.out.bl hb)
          replace VN := Hd (VN.out.bl hb)
          replace VB := Hd (VB.out.bl hb)
          replace R := R.bw hb
          replace V := V.bw hb
          replace Z := Z.bw hb
          replace K := K.bw hb
          clear hb
          have s6 := B6.size
          clear Rc Rf Rl Vc Vf Vl Zc Zf Zl Kc Kf Kl
          have ⟨Rc, Rf, Rl⟩ := R
          have ⟨Vc, Vf, Vl⟩ := V
          have ⟨Zc, Zf, Zl⟩ := Z
          have ⟨Kc, Kf, Kl⟩ := K
          go_wp2_with fail
          have RN := R.st 0 (.slice o5 (Pl.oneR v (⟨v.maj, (v.min + 1), 0, [⟨#[48]⟩]⟩ : Pl.Ver)).length k5)
          obtain ⟨RNc, RNf, RNl⟩ := RN
          refine bodyPost_ret (v := .tuple #[.agg #[.slice o5 (Pl.oneR v (⟨v.maj, (v.min + 1), 0, [⟨#[48]⟩]⟩ : Pl.Ver)).length k5], .int .i64 0]) (by simp [results, Tryz.results124, go_sem, RNc]) rfl (RTerm.ok EV.out (A5.setBk R (by simp) (j := 0) rfl (by nofun) _) (by go_grown))
        · have u9 : (f1 != 0) = true := bneT hf
          have EV : Hid (RV = ([], 10)) := Hd (EB.out.trans (if_pos hf))
          clear EB HF hf
          go_wp2_with fail
          have RN := (R.st 0 (.slice none 0 0))
          obtain ⟨RNc, RNf, RNl⟩ := RN
          refine bodyPost_ret (v := .tuple #[.agg #[.slice none 0 0], .int .i64 10]) (by simp [results, Tryz.results124, go_sem, RNc]) rfl (RTerm.bad EV.out (by go_grown))
theorem TermOf_any (s : ByteArray) (w : World) (hs : s.size ≤ 4096) : Calls Tryz.prog 124 #[.string s] w (RTerm (Pl.termR (Pl.bsl s)) w) := by
 by_cases h : Pl.bsl s = [42]
 · exact TermOf_star s w h
 · exact TermOf_ops s w hs h
end Go.Proofs.YtolfgcoalihmgaaGreatDoor
