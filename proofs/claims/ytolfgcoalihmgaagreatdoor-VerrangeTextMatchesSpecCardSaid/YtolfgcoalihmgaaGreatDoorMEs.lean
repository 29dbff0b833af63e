/- Texts joined. -/
import Derived.Test.YtolfgcoalihmgaaGreatDoorEp
import Derived.Test.YtolfgcoalihmgaaGreatDoorDp
namespace Go.Proofs.YtolfgcoalihmgaaGreatDoor
section
open Go.RowKit
namespace Pl
theorem occ_take {s : List UInt8} {j : Nat} : Lib.occAt s barS j = true ↔ (s.drop j).take 4 = barS := by
 unfold Lib.occAt
 rw [List.isPrefixOf_iff_prefix, List.prefix_iff_eq_take]
 exact ⟨fun h => h.symm, fun h => h.symm⟩
theorem occ_ext {s : ByteArray} {j : Nat} : Lib.occAt (bsl s) barS j = true ↔ bsl (s.extract j (j + 4)) = barS := by
 rw [occ_take]
 have : bsl (s.extract j (j + 4)) = ((bsl s).drop j).take 4 := by
  unfold bsl
  rw [ByteArray.data_extract, Array.toList_extract, List.extract_eq_take_drop, Nat.add_sub_cancel_left]
 rw [this]
theorem occ_short {s : List UInt8} {j : Nat} (h : s.length < j + 4) : Lib.occAt s barS j = false := by
 rw [← Bool.not_eq_true, occ_take]
 intro e
 have := congrArg List.length e
 rw [List.length_take, List.length_drop, show barS.length = 4 from rfl] at this
 omega
def EndAt (s : List UInt8) (n : Nat) : Prop := (∀ j, j < n → Lib.occAt s barS j = false) ∧ (n = s.length ∧ (∀ j, j ≤ s.length → Lib.occAt s barS j = false) ∨ n + 4 ≤ s.length ∧ Lib.occAt s barS n = true)
theorem notE_one (c : UInt8) : notE 32 32 c = (c != 32) := by
 unfold notE
 have e : ((c.toNat : Int) == 32) = (c == 32) := by
  rw [Bool.eq_iff_iff, beq_iff_eq, beq_iff_eq, ← UInt8.toNat_inj]
  have : (32 : UInt8).toNat = 32 := rfl
  omega
 rw [e, Bool.and_self, bne]
theorem until_split (r : List UInt8) : Lib.split r [32] = untilA 32 32 r :: (match untilZ 32 32 r with | [] => [] | _ :: q => Lib.split q [32]) := by
 rw [split_until, untilA, untilZ, show notE 32 32 = (fun c => c != 32) from funext notE_one]
 cases List.dropWhile (fun c : UInt8 => c != 32) r <;> rfl
theorem commonR_one {a b : List Ivl} (ha : a.length ≤ 1) (hb : b.length ≤ 1) : (commonR a b).length ≤ 1 := by
 have h1 := commonR_len a b
 have h2 := Nat.mul_le_mul ha hb
 omega
theorem altR_len (s : List UInt8) : (altR s).1.length ≤ 1 := altF_len (by simp [upR])
theorem alt_step {acc : List Ivl} {r : List UInt8} {V : List Ivl × Int} (h : altF acc (Lib.split r [32]) = V) :
 ((termR (untilA 32 32 r)).2 ≠ 0 → V = ([], (termR (untilA 32 32 r)).2)) ∧ ((termR (untilA 32 32 r)).2 = 0 → (untilZ 32 32 r = [] → V = (commonR acc (termR (untilA 32 32 r)).1, 0)) ∧ (untilZ 32 32 r ≠ [] → altF (commonR acc (termR (untilA 32 32 r)).1) (Lib.split ((untilZ 32 32 r).drop 1) [32]) = V)) := by
 rw [until_split, altF] at h
 refine ⟨fun e => ?_, fun e => ⟨fun e2 => ?_, fun e2 => ?_⟩⟩
 · rw [if_pos e] at h; exact h.symm
 · rw [if_neg (fun h => h e), e2] at h; exact h.symm
 · rw [if_neg (fun h => h e)] at h
   cases hz : untilZ 32 32 r with
   | nil => exact absurd hz e2
   | cons c q => rw [hz] at h; exact h
theorem alts_step {out : List Ivl} {i : Nat} {r : List UInt8} {n : Nat} {V : List Ivl × (Int × Int)} (h : altsF out i (Lib.split r barS) = V) (hn : EndAt r n) :
 ((altR (r.take n)).2 ≠ 0 → V = ([], (altR (r.take n)).2, (i : Int))) ∧ ((altR (r.take n)).2 = 0 → (n = r.length → V = (unionR out (altR (r.take n)).1, 0, 0)) ∧ (n ≠ r.length → n + 4 ≤ r.length ∧ altsF (unionR out (altR (r.take n)).1) (i + 1) (Lib.split (r.drop (n + 4)) barS) = V)) := by
 rcases hn.2 with ⟨e, hno⟩ | ⟨hl, hit⟩
 · rw [bars_no hno, altsF] at h
   rw [List.take_of_length_le (by omega)]
   refine ⟨fun e2 => ?_, fun e2 => ⟨fun _ => ?_, fun e3 => absurd e e3⟩⟩
   · rw [if_pos e2] at h; exact h.symm
   · rw [if_neg (fun h => h e2), altsF] at h; exact h.symm
 · rw [bars_at (by omega) hit hn.1, altsF] at h
   refine ⟨fun e2 => ?_, fun e2 => ⟨fun e3 => by omega, fun _ => ⟨hl, ?_⟩⟩⟩
   · rw [if_pos e2] at h; exact h.symm
   · rw [if_neg (fun h => h e2)] at h; exact h
end Pl
set_option maxHeartbeats 2000000 in
theorem alternativeEnd_any (s : ByteArray) (w : World) (hs : s.size ≤ 4096) :
 Calls Tryz.prog 80 #[.string s] w fun e w' => (∃ n : Nat, e = .returned (.int .i64 n) ∧ n ≤ s.size ∧ Hid (Pl.EndAt (Pl.bsl s) n)) ∧ Below w.heap.size w w' := by
 have hlen : (Pl.bsl s).length = s.size := Pl.bsl_len s
 go_enter Tryz.func80, Tryz.ntmps80
 go_wp2_with fail
 go_loop [3] (fun i => ∃ k : Nat, k ≤ s.size ∧ i = .int .i64 k ∧ Hid (∀ j, j < k → Lib.occAt (Pl.bsl s) Pl.barS j = false)) (fun i => s.size - (intOf i).toNat)
 case atStart => exact ⟨0, Nat.zero_le _, rfl, Hd (fun j h => absurd h (by omega))⟩
 case round =>
  obtain ⟨k, hk, rfl, hu⟩ := hrel
  have k0 : (0 : Int) ≤ (k : Int) := by omega
  have k1 : (k : Int) ≤ (s.size : Int) := by omega
  have k2 : IntKind.i64.wrap ((k : Int) + 4) = (k : Int) + 4 := IntWalk.i64_in _ (by omega)
  have k3 : ((k : Int) + 4).toNat = k + 4 := by omega
  have k4 : (k : Int) ≤ (k : Int) + 4 := by omega
  have k5 : (0 : Int) ≤ (k : Int) + 4 := by omega
  by_cases hlt : k + 4 ≤ s.size
  · have t0 : decide ((k : Int) + 4 ≤ (s.size : Int)) = true := decT (by omega)
    have k6 : (k : Int) + 4 ≤ (s.size : Int) := by omega
    by_cases hb : Pl.bsl (s.extract k (k + 4)) = Pl.barS
    · have E := Hd (show Pl.EndAt (Pl.bsl s) k from ⟨hu.out, .inr ⟨by rw [hlen]; exact hlt, Pl.occ_ext.2 hb⟩⟩)
      have hS : s.extract k (k + 4) = ⟨#[32, 124, 124, 32]⟩ := Pl.bsl_inj hb
      have v1 : ((s.extract k (k + 4)).toList == [32, 124, 124, 32]) = true := by rw [hS, beq_iff_eq, ba_toList]
      have v2 : ((s.extract k (k + 4)).toList == (⟨#[32, 124, 124, 32]⟩ : ByteArray).toList) = true := by rw [hS]; exact (strB [32, 124, 124, 32] [32, 124, 124, 32]).trans (by decide)
      clear hb hS
      have w1 := v1
      have w2 := v2
      rw [← k3] at w1 w2
      go_wp2_with fail
      go_returns
      exact ⟨⟨k, by rfl, hk, E⟩, by go_grown⟩
    · have E := Hd (show ∀ j, j < k + 1 → Lib.occAt (Pl.bsl s) Pl.barS j = false from fun j hj => by
       rcases Nat.lt_or_ge j k with h | h
       · exact hu.out j h
       · have : j = k := by omega
         subst this
         rw [← Bool.not_eq_true]
         exact fun e => hb (Pl.occ_ext.1 e))
      obtain ⟨v1, v2, v3, v4⟩ := str_ne (l := [32, 124, 124, 32]) hb
      have w1 := v1
      have w2 := v2
      rw [← k3] at w1 w2
      clear hb v3 v4
      go_wp2_with fail
      go_round
      case rel => exact ⟨k + 1, by omega, by go_num, E⟩
      case measure => simp [intOf]; omega
  · have t0 : decide ((k : Int) + 4 ≤ (s.size : Int)) = false := decF (by omega)
    have E := Hd (show Pl.EndAt (Pl.bsl s) s.size from by
     have hno : ∀ j, Lib.occAt (Pl.bsl s) Pl.barS j = false := fun j => by
      rcases Nat.lt_or_ge j k with h | h
      · exact hu.out j h
      · exact Pl.occ_short (by rw [hlen]; omega)
     exact ⟨fun j _ => hno j, .inl ⟨hlen.symm, fun j _ => hno j⟩⟩)
    go_wp2_with fail
    go_returns
    exact ⟨⟨s.size, by rfl, nle, E⟩, by go_grown⟩
end
section
open Go.RowKit
def AltIn (w : World) (B : Nat) (V : List Pl.Ivl × Int) (s : Value) (wr : World) : Prop :=
 ∃ (r : List UInt8) (acc : List Pl.Ivl) (o : Option Addr) (n c : Nat), s = .string (Pl.mkS r) ∧ r.length ≤ 4096 ∧ Bk wr w.heap.size [.slice none 0 0] ∧ Bk wr B [.slice o n c] ∧ RIn wr acc o c ∧ acc.length = n ∧ n ≤ 1 ∧ Pl.Can acc ∧ Pl.altF acc (Lib.split r [32]) = V ∧ Below w.heap.size w wr ∧ B < wr.heap.size
set_option maxRecDepth 100000 in
set_option maxHeartbeats 8000000 in
theorem AlternativeOf_any (s : ByteArray) (w : World) (hs : s.size ≤ 4096) : Calls Tryz.prog 81 #[.string s] w (RTerm (Pl.altR (Pl.bsl s)) w) := by
 obtain ⟨V, hV⟩ : ∃ V, Pl.altR (Pl.bsl s) = V := ⟨_, rfl⟩
 rw [hV]
 have HV := Hd hV
 have hlen : (Pl.bsl s).length = s.size := Pl.bsl_len s
 clear hV
 go_enter Tryz.func81, Tryz.ntmps81
 have B0 := brl w
 go_wp2_with fail
 refine (Smallest_any _).mono ?_
 rintro e w1 ⟨la, lc, rfl, VL, hb⟩
 replace VL := Hd VL
 have B1 := bcm w hb
 have q1 : w.heap.size + 1 ≤ w1.heap.size := qle hb
 have R := ((bkn w.heap.size [.slice none 0 0] 33)).bw hb
 clear hb
 have s1 := B1.size
 have ⟨Rc, Rf, Rl⟩ := R
 go_wp2_with fail
 refine (upwards_any Pl.lowV la lc _ VL.out).mono ?_
 rintro e w2 ⟨o5, k5, rfl, A5, hb⟩
 replace A5 := Hd A5
 have B2 := bcm w hb
 have q2 : w1.heap.size ≤ w2.heap.size := qle hb
 replace VL := Hd (VL.out.bl hb)
 replace R := R.bw hb
 clear hb
 have s2 := B2.size
 clear Rc Rf Rl
 have ⟨Rc, Rf, Rl⟩ := R
 clear VL
 go_wp2_with fail
 have O := Bk.new (r := w2.heap.size) (cs := [.slice o5 (Pl.upR Pl.lowV).length k5]) w2 33 rfl
 have R2 := R.alloc (.cells #[.slice o5 (Pl.upR Pl.lowV).length k5] 33)
 have BL : w2.heap.size < (w2.alloc (.cells #[.slice o5 (Pl.upR Pl.lowV).length k5] 33)).heap.size := by simp
 go_loopw [0] (fun s wr => AltIn w w2.heap.size V s wr) (fun s _ => strLen s)
 case atStart => exact ⟨Pl.bsl s, Pl.upR Pl.lowV, o5, _, k5, by rw [Pl.mkS_bsl], by omega, R2, O, A5.out.bl (by go_grown), rfl, by simp [Pl.upR], Pl.upR_can Pl.lowV_ok, HV.out, by go_grown, BL⟩
 case round =>
  obtain ⟨r, acc, o, n, c, rfl, hr, R, O, RA, hacc, hn1, CA, EQ, B9, q9⟩ := hrel
  subst hacc
  clear A5 R2 BL
  have b9 := B2.size
  have t := Hd (Pl.alt_step EQ)
  have tl := (Pl.until_len 32 32 r)
  have CU := Hd (fun (W : World) => quiet_below (until_any (Pl.mkS r) 32 32 W (by rw [Pl.mkS_size]; omega)))
  rw [Pl.bsl_mkS] at CU
  generalize Pl.untilA 32 32 r = ta at *
  obtain ⟨z, hz⟩ : ∃ z, Pl.untilZ 32 32 r = z := ⟨_, rfl⟩
  rw [hz] at CU t tl
  clear hz EQ
  have CT := Hd (fun (W : World) => TermOf_any (Pl.mkS ta) W (by rw [Pl.mkS_size]; omega))
  rw [Pl.bsl_mkS] at CT
  have tc := Hd (Pl.termR_can ta)
  have tn := Pl.termR_len ta
  obtain ⟨T, hT⟩ : ∃ T, Pl.termR ta = T := ⟨_, rfl⟩
  rw [hT] at CT t tc tn
  clear hT
  obtain ⟨r1, e1⟩ := T
  simp only at t tc tn
  obtain ⟨Y, hY⟩ : ∃ Y, Pl.mkS z = Y := ⟨_, rfl⟩
  rw [hY] at CU
  replace RA := Hd RA
  replace CA := Hd CA
  have hzl := tl.2
  have hYs : Y.size = z.length := by rw [← hY, Pl.mkS_size]
  clear tl
  generalize w2.heap.size = ob at *
  have ⟨Rc, Rf, Rl⟩ := R
  have ⟨Oc, Of, Ol⟩ := O
  go_wp2_with fail
  refine (CU.out _).mono ?_
  rintro e w10 ⟨rfl, hb⟩
  have B10 := bcm w hb
  have q10 : wr.heap.size ≤ w10.heap.size := qle hb
  replace RA := Hd (RA.out.bl hb)
  replace R := R.bw hb
  replace O := O.bw hb
  clear hb
  have s10 := B10.size
  clear Rc Rf Rl Oc Of Ol
  have ⟨Rc, Rf, Rl⟩ := R
  have ⟨Oc, Of, Ol⟩ := O
  clear CU
  go_wp2_with fail
  refine (CT.out _).mono ?_
  rintro e w11 ⟨o1, c1, rfl, RB, hb⟩
  replace RB := Hd RB
  have B11 := bcm w hb
  have q11 : w10.heap.size ≤ w11.heap.size := qle hb
  replace RA := Hd (RA.out.bl hb)
  replace R := R.bw hb
  replace O := O.bw hb
  clear hb
  have s11 := B11.size
  clear Rc Rf Rl Oc Of Ol
  have ⟨Rc, Rf, Rl⟩ := R
  have ⟨Oc, Of, Ol⟩ := O
  simp only at RB
  clear CT
  by_cases h0 : e1 = 0
  · subst h0
    have t2 := Hd (t.out.2 rfl)
    clear t
    have v0 : ((0 : Int) != 0) = false := rfl
    go_wp2_with fail
    refine (RangeCommon_any acc r1 o o1 c c1 _ ((RA.out.al _)) ((RB.out.al _)) CA.out.ok tc.out.ok (by have := Nat.mul_le_mul hn1 tn; omega)).mono ?_
    rintro e w12 ⟨o2, c2, rfl, RC, hb⟩
    replace RC := Hd RC
    have B12 := bcm w hb
    have q12 : w11.heap.size + 1 ≤ w12.heap.size := qle hb
    replace RA := Hd ((RA.out.al _).bl hb)
    replace RB := Hd ((RB.out.al _).bl hb)
    replace R := ((R.alloc _)).bw hb
    replace O := ((O.alloc _)).bw hb
    have T := ((bkn w11.heap.size [.slice o1 r1.length c1] 33)).bw hb
    clear hb
    have s12 := B12.size
    clear Rc Rf Rl Oc Of Ol
    have ⟨Rc, Rf, Rl⟩ := R
    have ⟨Oc, Of, Ol⟩ := O
    have ⟨Tc, Tf, Tl⟩ := T
    have CC := Hd (Pl.commonR_can CA.out tc.out).1
    have CL := Pl.commonR_one hn1 tn
    generalize Pl.commonR acc r1 = acc2 at *
    by_cases hz : z = []
    · skip
      have EV := Hd (t2.out.1 hz)
      clear t2
      subst hz
      have s9 : Y.toList = [] ∧ Y.toList.isEmpty = true := str_none hY.symm rfl
      obtain ⟨s9, s10⟩ := s9
      go_wp2_with fail
      have R1 := R.fr ob 0 (by omega) (.slice o2 acc2.length c2)
      have O1 := O.st 0 (.slice o2 acc2.length c2)
      have RC1 := RC.out.setBk O (by simp) (j := 0) rfl (by nofun) (.slice o2 acc2.length c2)
      have RN := R1.st 0 (.slice o2 acc2.length c2)
      obtain ⟨RNc, RNf, RNl⟩ := RN
      refine bodyPost_ret (v := .tuple #[.agg #[.slice o2 acc2.length c2], .int .i64 0]) (by simp [results, Tryz.results81, go_sem, RNc]) rfl (RTerm.ok EV.out (RC1.setBk R1 (by simp) (j := 0) rfl (by nofun) _) (by go_grown))
    · skip
      have EV := Hd (t2.out.2 hz)
      clear t2
      have s9 := str_some hY.symm hz
      obtain ⟨s9, s10, s11⟩ := s9
      have hcut : Y.extract 1 Y.size = Pl.mkS (z.drop 1) := by rw [← Pl.mkS_drop, ← hY, Pl.bsl_mkS]
      rw [hYs] at hcut
      replace hcut := Hd hcut
      have hzp : 0 < z.length := List.length_pos_iff.2 hz
      clear hz hY
      go_wp2_with fail
      go_roundw
      case rel => exact ⟨z.drop 1, acc2, o2, _, c2, by rw [hcut.out], by simp; omega, R.fr ob 0 (by omega) _, O.st 0 _, RC.out.setBk O (by simp) (j := 0) rfl (by nofun) _, rfl, CL, CC.out, EV.out, by go_grown, by have := O.lt; simp; omega⟩
      case measure => rw [hcut.out]; simp only [strLen, Pl.mkS_size, List.length_drop]; omega
  · have EV := Hd (t.out.1 h0)
    have v0 : (e1 != 0) = true := bneT h0
    clear t
    go_wp2_with fail
    have RN := (R.st 0 (.slice none 0 0)).alloc (.cells #[.slice o1 r1.length c1] 33)
    obtain ⟨RNc, RNf, RNl⟩ := RN
    refine bodyPost_ret (v := .tuple #[.agg #[.slice none 0 0], .int .i64 e1]) (by simp [results, Tryz.results81, go_sem, RNc]) rfl (RTerm.bad EV.out (by go_grown))
end
section
open Go.RowKit
def OfIn (w : World) (V : List Pl.Ivl × (Int × Int)) (s iv : Value) (wr : World) : Prop :=
 ∃ (r : List UInt8) (acc : List Pl.Ivl) (o : Option Addr) (i n c : Nat), s = .string (Pl.mkS r) ∧ iv = .int .i64 i ∧ i * 4 + r.length ≤ 4096 ∧ Bk wr w.heap.size [.slice none 0 0] ∧ Bk wr (w.heap.size + 1) [.int .i64 0, .int .i64 0] ∧ Bk wr (w.heap.size + 1 + 1) [.slice o n c] ∧ RIn wr acc o c ∧ acc.length = n ∧ n ≤ i ∧ Pl.Can acc ∧ Pl.altsF acc i (Lib.split r Pl.barS) = V ∧ Below w.heap.size w wr ∧ w.heap.size + 3 ≤ wr.heap.size
set_option maxRecDepth 100000 in
set_option maxHeartbeats 8000000 in
theorem RangeOf_any (s : ByteArray) (w : World) (hs : s.size ≤ 4096) : Calls Tryz.prog 34 #[.string s] w (RRngF (Pl.prsV s) (Pl.prsF s) w) := by
 obtain ⟨V, hV⟩ : ∃ V, Pl.altsF [] 0 (Lib.split (Pl.bsl s) Pl.barS) = V := ⟨_, rfl⟩
 have HV := Hd hV
 have HP1 := Hd (fun (c : Int) (i : Nat) (hc : c ≠ 0) (h : V = ([], c, (i : Int))) => Pl.prs_bad (s := s) hs hc (hV.trans h))
 have HP2 := Hd (fun (r : List Pl.Ivl) (h : V = (r, 0, 0)) => Pl.prs_ok (s := s) hs (hV.trans h))
 have hlen : (Pl.bsl s).length = s.size := Pl.bsl_len s
 clear hV
 obtain ⟨PV, hPV⟩ : ∃ x, Pl.prsV s = x := ⟨_, rfl⟩
 obtain ⟨PF, hPF⟩ : ∃ x, Pl.prsF s = x := ⟨_, rfl⟩
 rw [hPV, hPF] at HP1 HP2 ⊢
 clear hPV hPF
 go_enter Tryz.func34, Tryz.ntmps34
 have B0 := brl w
 go_wp2_with fail
 have R := (((Bk.new (r := w.heap.size) (cs := [.slice none 0 0]) w 33 (by simp)).alloc (.cells #[.int .i64 0, .int .i64 0] 27)).alloc (.cells #[.slice none 0 0] 33))
 have F := ((Bk.new (r := w.heap.size + 1) (cs := [.int .i64 0, .int .i64 0]) (w.alloc (.cells #[.slice none 0 0] 33)) 27 (by simp)).alloc (.cells #[.slice none 0 0] 33))
 have O := (Bk.new (r := w.heap.size + 1 + 1) (cs := [.slice none 0 0]) ((w.alloc (.cells #[.slice none 0 0] 33)).alloc (.cells #[.int .i64 0, .int .i64 0] 27)) 33 (by simp))
 generalize hW : (((w.alloc (.cells #[.slice none 0 0] 33)).alloc (.cells #[.int .i64 0, .int .i64 0] 27)).alloc (.cells #[.slice none 0 0] 33)) = w1 at *
 have B1 : Below w.heap.size w w1 := by rw [← hW]; go_grown
 have q1 : w.heap.size + 3 ≤ w1.heap.size := by rw [← hW]; go_size
 clear hW
 have s1 := B1.size
 have ⟨Rc, Rf, Rl⟩ := R
 have ⟨Fc, Ff, Fl⟩ := F
 have ⟨Oc, Of, Ol⟩ := O
 clear Rc Rf Rl Fc Ff Fl Oc Of Ol
 go_loopw [0, 5] (fun s i wr => OfIn w V s i wr) (fun s _ _ => strLen s)
 case atStart => exact ⟨Pl.bsl s, [], none, 0, 0, 0, by rw [Pl.mkS_bsl], rfl, by omega, R, F, O, RIn.nil _, rfl, nle, Pl.Can.nil, HV.out, B1, by omega⟩
 case round =>
  obtain ⟨r, acc, o, i, n, c, rfl, rfl, hr, R, F, O, RA, hacc, hn1, CA, EQ, B9, q9⟩ := hrel
  subst hacc
  clear q1 s1 B1
  have CE := Hd (fun (W : World) => alternativeEnd_any (Pl.mkS r) W (by rw [Pl.mkS_size]; omega))
  rw [Pl.bsl_mkS, Pl.mkS_size] at CE
  replace RA := Hd RA
  replace CA := Hd CA
  replace EQ := Hd EQ
  obtain ⟨X, hX⟩ : ∃ X, Pl.mkS r = X := ⟨_, rfl⟩
  have hXs : X.size = r.length := by rw [← hX, Pl.mkS_size]
  rw [hX] at CE ⊢
  have ⟨Rc, Rf, Rl⟩ := R
  have ⟨Fc, Ff, Fl⟩ := F
  have ⟨Oc, Of, Ol⟩ := O
  go_wp2_with fail
  refine (CE.out _).mono ?_
  rintro e w10 ⟨⟨n, rfl, hn, hE⟩, hb⟩
  have B10 := bcm w hb
  have q10 : wr.heap.size ≤ w10.heap.size := qle hb
  replace RA := Hd (RA.out.bl hb)
  replace R := R.bw hb
  replace F := F.bw hb
  replace O := O.bw hb
  clear hb
  have s10 := B10.size
  clear Rc Rf Rl Fc Ff Fl Oc Of Ol
  have ⟨Rc, Rf, Rl⟩ := R
  have ⟨Fc, Ff, Fl⟩ := F
  have ⟨Oc, Of, Ol⟩ := O
  have k0 : (0 : Int) ≤ (n : Int) := by omega
  have k1 : (n : Int) ≤ (X.size : Int) := by omega
  have k2 : IntKind.i64.wrap ((n : Int) + 4) = (n : Int) + 4 := IntWalk.i64_in _ (by omega)
  have k3 : ((n : Int) + 4).toNat = n + 4 := by omega
  have k5 : (0 : Int) ≤ (n : Int) + 4 := by omega
  have t := Hd (Pl.alts_step EQ.out hE.out)
  have hT : X.extract 0 n = Pl.mkS (r.take n) := by rw [← hX, ← Pl.mkS_take, Pl.bsl_mkS]
  have CT := Hd (fun (W : World) => AlternativeOf_any (X.extract 0 n) W (by rw [hT, Pl.mkS_size, List.length_take]; omega))
  rw [hT, Pl.bsl_mkS, ← hT] at CT
  have tc := Hd (Pl.altR_can (r.take n))
  have tn := Pl.altR_len (r.take n)
  obtain ⟨T, hT2⟩ : ∃ T, Pl.altR (r.take n) = T := ⟨_, rfl⟩
  rw [hT2] at CT t tc tn
  clear hT2 CE EQ hE hT
  obtain ⟨r1, e1⟩ := T
  simp only at t tc tn
  go_wp2_with fail
  refine (CT.out _).mono ?_
  rintro e w11 ⟨o1, c1, rfl, RB, hb⟩
  replace RB := Hd RB
  have B11 := bcm w hb
  have q11 : w10.heap.size ≤ w11.heap.size := qle hb
  replace RA := Hd (RA.out.bl hb)
  replace R := R.bw hb
  replace F := F.bw hb
  replace O := O.bw hb
  clear hb
  have s11 := B11.size
  clear Rc Rf Rl Fc Ff Fl Oc Of Ol
  have ⟨Rc, Rf, Rl⟩ := R
  have ⟨Fc, Ff, Fl⟩ := F
  have ⟨Oc, Of, Ol⟩ := O
  simp only at RB
  clear CT
  by_cases h0 : e1 = 0
  · subst h0
    have t2 := Hd (t.out.2 rfl)
    clear t
    have v0 : ((0 : Int) != 0) = false := rfl
    go_wp2_with fail
    refine (RangeUnion_any acc r1 o o1 c c1 _ ((RA.out.al _)) ((RB.out.al _)) CA.out tc.out.ok (by omega)).mono ?_
    rintro e w12 ⟨o2, c2, rfl, RC, hb⟩
    replace RC := Hd RC
    have B12 := bcm w hb
    have q12 : w11.heap.size + 1 ≤ w12.heap.size := qle hb
    replace RA := Hd ((RA.out.al _).bl hb)
    replace RB := Hd ((RB.out.al _).bl hb)
    replace R := ((R.alloc _)).bw hb
    replace F := ((F.alloc _)).bw hb
    replace O := ((O.alloc _)).bw hb
    have T := ((bkn w11.heap.size [.slice o1 r1.length c1] 33)).bw hb
    clear hb
    have s12 := B12.size
    clear Rc Rf Rl Fc Ff Fl Oc Of Ol
    have ⟨Rc, Rf, Rl⟩ := R
    have ⟨Fc, Ff, Fl⟩ := F
    have ⟨Oc, Of, Ol⟩ := O
    have ⟨Tc, Tf, Tl⟩ := T
    have CC := Hd (Pl.unionR_can CA.out tc.out.ok).1
    have CL := Pl.unionR_len r1 acc
    generalize Pl.unionR acc r1 = acc2 at *
    by_cases hz : n = r.length
    · skip
      have EV := Hd (HP2.out _ (t2.out.1 hz))
      have u1 : ((n : Int) == (X.size : Int)) = true := beqT (by omega)
      clear t2 HP1 HP2
      by_cases hbig : 12 < acc2.length
      · have w1 : decide ((acc2.length : Int) > 12) = true := decT (by omega)
        have w2' : decide ((12 : Int) < (acc2.length : Int)) = true := decT (by omega)
        have w3' : decide (12 < acc2.length) = true := decT hbig
        obtain ⟨E1, E2⟩ := EV.out
        have E3 : Pl.limR acc2 = [] := if_pos hbig
        have E4 : Pl.limF acc2 = (10, -3) := if_pos hbig
        rw [E3] at E1
        rw [E4] at E2
        subst E1 E2
        clear EV E3 E4
        go_wp2_with (go_at_call 57; refine (rfault_at _ _ _).mono ?_; rintro e w' ⟨rfl, rfl⟩)
        have O1 := O.st 0 (.slice o2 acc2.length c2)
        have R1 := R.fr (w.heap.size + 1 + 1) 0 (by omega) (.slice o2 acc2.length c2)
        have F1 := F.fr (w.heap.size + 1 + 1) 0 (by omega) (.slice o2 acc2.length c2)
        have RN := (((R1.st 0 (.slice none 0 0)).fr (w.heap.size + 1) 0 (by omega) (.int .i64 10)).fr (w.heap.size + 1) 1 (by omega) (.int .i64 (-3))).alloc (.cells #[.int .i64 10, .int .i64 (-3)] 27)
        have FN := (((F1.fr w.heap.size 0 (by omega) (.slice none 0 0)).st 0 (.int .i64 10)).st 1 (.int .i64 (-3))).alloc (.cells #[.int .i64 10, .int .i64 (-3)] 27)
        obtain ⟨RNc, RNf, RNl⟩ := RN
        obtain ⟨FNc, FNf, FNl⟩ := FN
        refine bodyPost_ret (v := .tuple #[.agg #[.slice none 0 0], .agg #[.int .i64 10, .int .i64 (-3)]]) (by simp [results, Tryz.results34, go_sem, RNc, FNc]) rfl ⟨none, 0, rfl, RIn.nil _, by go_grown⟩
      · have w1 : decide ((acc2.length : Int) > 12) = false := decF (by omega)
        have w2' : decide ((12 : Int) < (acc2.length : Int)) = false := decF (by omega)
        have w3' : decide (12 < acc2.length) = false := decF hbig
        obtain ⟨E1, E2⟩ := EV.out
        have E3 : Pl.limR acc2 = acc2 := if_neg hbig
        have E4 : Pl.limF acc2 = (0, 0) := if_neg hbig
        rw [E3] at E1
        rw [E4] at E2
        clear EV E3 E4
        replace E1 := Hd E1
        subst E2
        go_wp2_with fail
        have O1 := O.st 0 (.slice o2 acc2.length c2)
        have R1 := R.fr (w.heap.size + 1 + 1) 0 (by omega) (.slice o2 acc2.length c2)
        have F1 := F.fr (w.heap.size + 1 + 1) 0 (by omega) (.slice o2 acc2.length c2)
        have R2 := R1.st 0 (.slice o2 acc2.length c2)
        have F2 := F1.fr w.heap.size 0 (by omega) (.slice o2 acc2.length c2)
        have RN := (R2.fr (w.heap.size + 1) 0 (by omega) (.int .i64 0)).fr (w.heap.size + 1) 1 (by omega) (.int .i64 0)
        have FN := (F2.st 0 (.int .i64 0)).st 1 (.int .i64 0)
        have A1 := RC.out.setBk O (by simp) (j := 0) rfl (by nofun) (.slice o2 acc2.length c2)
        have A2 := A1.setBk R1 (by simp) (j := 0) rfl (by nofun) (.slice o2 acc2.length c2)
        have A3 := A2.setBk F2 (by simp) (j := 0) rfl (by nofun) (.int .i64 0)
        have A4 := A3.setBk (F2.st 0 (.int .i64 0)) (by simp) (j := 1) rfl (by nofun) (.int .i64 0)
        obtain ⟨RNc, RNf, RNl⟩ := RN
        obtain ⟨FNc, FNf, FNl⟩ := FN
        rw [E1.out]
        refine bodyPost_ret (v := .tuple #[.agg #[.slice o2 acc2.length c2], .agg #[.int .i64 0, .int .i64 0]]) (by simp [results, Tryz.results34, go_sem, RNc, FNc]) rfl ⟨o2, c2, rfl, A4, by go_grown⟩
    · skip
      have EV := Hd (t2.out.2 hz)
      have hl4 := EV.out.1
      have u1 : ((n : Int) == (X.size : Int)) = false := beqF (by omega)
      have k6 : (n : Int) + 4 ≤ (X.size : Int) := by omega
      have hcut : X.extract (n + 4) X.size = Pl.mkS (r.drop (n + 4)) := by rw [← hX, ← Pl.mkS_drop, Pl.bsl_mkS]
      rw [hXs] at hcut
      replace hcut := Hd hcut
      clear t2 hX
      go_wp2_with fail
      go_roundw
      case rel => exact ⟨r.drop (n + 4), acc2, o2, i + 1, _, c2, by rw [hcut.out], by go_num, by rw [List.length_drop]; omega, R.fr (w.heap.size + 1 + 1) 0 (by omega) _, F.fr (w.heap.size + 1 + 1) 0 (by omega) _, O.st 0 _, RC.out.setBk O (by simp) (j := 0) rfl (by nofun) _, rfl, by omega, CC.out, EV.out.2, by go_grown, by have := O.lt; simp; omega⟩
      case measure => rw [hcut.out]; simp only [strLen, Pl.mkS_size, List.length_drop]; omega
  · have EV := HP1.out _ _ h0 (t.out.1 h0)
    have v0 : (e1 != 0) = true := bneT h0
    clear t HP1 HP2
    obtain ⟨E1, E2⟩ := EV
    subst E1 E2
    go_wp2_with (go_at_call 57; refine (rfault_at _ _ _).mono ?_; rintro e w' ⟨rfl, rfl⟩)
    have RN := ((((R.st 0 (.slice none 0 0)).fr (w.heap.size + 1) 0 (by omega) (.int .i64 e1)).fr (w.heap.size + 1) 1 (by omega) (.int .i64 i)).alloc (.cells #[.slice o1 r1.length c1] 33)).alloc (.cells #[.int .i64 e1, .int .i64 i] 27)
    have FN := ((((F.fr w.heap.size 0 (by omega) (.slice none 0 0)).st 0 (.int .i64 e1)).st 1 (.int .i64 i)).alloc (.cells #[.slice o1 r1.length c1] 33)).alloc (.cells #[.int .i64 e1, .int .i64 i] 27)
    obtain ⟨RNc, RNf, RNl⟩ := RN
    obtain ⟨FNc, FNf, FNl⟩ := FN
    refine bodyPost_ret (v := .tuple #[.agg #[.slice none 0 0], .agg #[.int .i64 e1, .int .i64 i]]) (by simp [results, Tryz.results34, go_sem, RNc, FNc]) rfl ⟨none, 0, rfl, RIn.nil _, by go_grown⟩
end
end Go.Proofs.YtolfgcoalihmgaaGreatDoor
