/- The range of the operator = and a version's text, read by the program; the closed example of the packages that select versions (kernSelects). -/
import Derived.Test.YtolfgcoalihmgaaGreatDoorZBt
import Derived.Test.YtolfgcoalihmgaaGreatDoorZDg
import Derived.Test.YtolfgcoalihmgaaGreatDoorZDj
import Derived.Test.YtolfgcoalihmgaaGreatDoorZDk
import Derived.Test.YtolfgcoalihmgaaGreatDoorZEz
import Derived.Test.YtolfgcoalihmgaaGreatDoorZMBf
import Derived.Test.YtolfgcoalihmgaaGreatDoorZMBj
import Derived.Test.YtolfgcoalihmgaaGreatDoorZMBs
import Derived.Test.YtolfgcoalihmgaaGreatDoorZMBv
import Derived.Test.YtolfgcoalihmgaaGreatDoorZMDa
import Derived.Test.YtolfgcoalihmgaaGreatDoorZMDd
import Derived.Test.YtolfgcoalihmgaaGreatDoorZMDf
import Derived.Test.YtolfgcoalihmgaaGreatDoorZMDi
import Derived.Test.YtolfgcoalihmgaaGreatDoorZMDo
import Derived.Test.YtolfgcoalihmgaaGreatDoorZMEa
import Derived.Test.YtolfgcoalihmgaaGreatDoorZMKb
import Derived.Test.YtolfgcoalihmgaaGreatDoorZMKd
import Derived.Test.YtolfgcoalihmgaaGreatDoorZMKe
import Derived.Test.YtolfgcoalihmgaaGreatDoorZMKk
import Derived.Test.YtolfgcoalihmgaaGreatDoorZMKo
import Derived.Test.YtolfgcoalihmgaaGreatDoorZMOb
import Derived.Test.YtolfgcoalihmgaaGreatDoorZMOc
import Derived.Test.YtolfgcoalihmgaaGreatDoorZMOk
import Derived.Test.YtolfgcoalihmgaaGreatDoorZMOn
import Derived.Test.YtolfgcoalihmgaaGreatDoorZMOq
import Derived.Test.YtolfgcoalihmgaaGreatDoorZMOs
import Derived.Test.YtolfgcoalihmgaaGreatDoorZMPo
import Derived.Test.YtolfgcoalihmgaaGreatDoorZMPq
import Derived.Test.YtolfgcoalihmgaaGreatDoorZMQd
import Derived.Test.YtolfgcoalihmgaaGreatDoorZMQg
import Derived.Test.YtolfgcoalihmgaaGreatDoorZMQi
import Derived.Test.YtolfgcoalihmgaaGreatDoorYKa
import Derived.Test.YtolfgcoalihmgaaGreatDoorYWb
import Derived.Test.YtolfgcoalihmgaaGreatDoorYPp
import Derived.Test.YtolfgcoalihmgaaGreatDoorYKe
import Derived.Test.YtolfgcoalihmgaaGreatDoorYBe
import Derived.Test.YtolfgcoalihmgaaGreatDoorYKn
import Derived.Test.YtolfgcoalihmgaaGreatDoorYBk
import Derived.Test.YtolfgcoalihmgaaGreatDoorYQb
import Derived.Test.YtolfgcoalihmgaaGreatDoorYQd
import Derived.Test.YtolfgcoalihmgaaGreatDoorYJa
import Derived.Test.YtolfgcoalihmgaaGreatDoorYDme
import Derived.Test.YtolfgcoalihmgaaGreatDoorYQn
namespace Go.Proofs.YtolfgcoalihmgaaGreatDoor
open Go.RowKit
/-- What the text = and a version is read as. -/
def Pl.exactV (v : Pl.Ver) : List Pl.Ivl := if (Pl.vrF (Pl.verNext v)).1 ≠ 0 then [] else [⟨v, Pl.verNext v, false⟩]
def Pl.exactF (v : Pl.Ver) : Int × Int := if (Pl.vrF (Pl.verNext v)).1 ≠ 0 then (10, 0) else (0, 0)
theorem eqTerms {v : Pl.Ver} (h : v.Ok) (hn : (Pl.verT v).length ≤ 4000) : TermsOf (Pl.mkS (61 :: Pl.verT v)) := by
 have n1 := Pl.verT_no h (c := 32) (by decide) (by decide)
 have n2 := Pl.verT_no h (c := 124) (by decide) (by decide)
 have m1 : (32 : UInt8) ∉ (61 :: Pl.verT v) := by simp [n1]
 have m2 : (124 : UInt8) ∉ (61 :: Pl.verT v) := by simp [n2]
 intro al ha tt ht W EW
 rw [Pl.bsl_mkS, Pl.bars_no (Pl.bar_no m2)] at ha
 obtain rfl := List.mem_singleton.1 ha
 rw [Pl.split_no m1] at ht
 obtain rfl := List.mem_singleton.1 ht
 have hl : (Pl.mkS (61 :: Pl.verT v)).size ≤ 9223372036854775807 := by
  have : (Pl.mkS (61 :: Pl.verT v)).size = (61 :: Pl.verT v).length := by rw [← Pl.bsl_len, Pl.bsl_mkS]
  rw [this, List.length_cons]; omega
 have hne : Pl.verT v ≠ [] := by
  unfold Pl.verT Pl.numT
  intro e
  have := congrArg List.length e
  simp at this
 have h2 := term_op4 (Pl.mkS (61 :: Pl.verT v)) W EW hl (by rw [Pl.bsl_mkS]; simp) (fun m hm hlt => by
  rw [Pl.bsl_mkS]
  match m, hm with
  | 0, _ => exact fun ⟨t, e⟩ => by cases e
  | 1, _ => exact fun ⟨t, e⟩ => by cases e
  | 2, _ => exact fun ⟨t, e⟩ => by cases e
  | 3, _ => exact fun ⟨t, e⟩ => by cases e
  | n + 4, _ => omega) (Pl.verT v) (by rw [Pl.bsl_mkS]; rfl)
 rw [Pl.term_same, Pl.bsl_mkS] at h2
 exact h2
theorem parse_eq {v : Pl.Ver} (h : v.Ok) (hn : (Pl.verT v).length ≤ 4000) (w : World) (E : Env w) : Calls Tryz.prog 15 #[.string (Pl.mkS (61 :: Pl.verT v))] w (RRngF (Pl.exactV v) (Pl.exactF v) w) := by
 have hs : (Pl.mkS (61 :: Pl.verT v)).size ≤ 4096 := by
  have : (Pl.mkS (61 :: Pl.verT v)).size = (61 :: Pl.verT v).length := by rw [← Pl.bsl_len, Pl.bsl_mkS]
  rw [this, List.length_cons]; omega
 have h2 := rngParse_of (Pl.mkS (61 :: Pl.verT v)) w hs E (eqTerms h hn)
 have e := Pl.exact_rng h
 have e1 : Pl.prsV (Pl.mkS (61 :: Pl.verT v)) = Pl.exactV v := by
  unfold Pl.prsV Pl.exactV
  simp only [Pl.bsl_mkS, e]
  rw [if_neg (by omega)]
  split <;> rfl
 have e2 : Pl.prsF (Pl.mkS (61 :: Pl.verT v)) = Pl.exactF v := by
  unfold Pl.prsF Pl.exactF
  simp only [Pl.bsl_mkS, e]
  rw [if_neg (by omega)]
  split <;> rfl
 rw [e1, e2] at h2
 exact h2
theorem exV_ok : Pl.exV.Ok := by
 rcases Pl.vrF_cases Pl.exV with ⟨-, ok⟩ | h
 · exact ok
 · exact absurd (show (Pl.vrF Pl.exV).1 = 0 by decide +kernel) h
def Pl.exR : List Pl.Ivl := [⟨Pl.exV, Pl.verNext Pl.exV, false⟩]
theorem ks_parse (W : World) (E : Env W) : Calls Tryz.prog 15 #[.string ⟨#[61, 49, 46, 48, 46, 48]⟩] W (RRngF Pl.exR (0, 0) W) := by
 have h := parse_eq exV_ok (by decide +kernel) W E
 rw [show Pl.mkS (61 :: Pl.verT Pl.exV) = ⟨#[61, 49, 46, 48, 46, 48]⟩ by decide +kernel, show Pl.exactF Pl.exV = (0, 0) by decide +kernel, show Pl.exactV Pl.exV = Pl.exR from if_neg (by decide +kernel)] at h
 exact h
theorem ks_solve (W : World) (a b : Option Addr) (c : Nat) (h1 : UIn W Pl.exU1 a c) (h2 : NsIn W [⟨0, Pl.exR⟩] b 1) : Calls Tryz.prog 43 #[.agg #[.slice a 1 c], .slice b 1 1] W fun e w' => ∃ o m, e = .returned (.tuple #[.slice o 1 m, .bool true, .agg #[.int .i64 0, .int .i64 0]]) ∧ Sl w' o 1 m 1 (intVals [0]) ∧ Below W.heap.size W w' := by
 have h := Solve_any Pl.exU1 [⟨0, Pl.exR⟩] a b c 1 W h1 h2
 rw [show Pl.wantsF Pl.exU1 [⟨0, Pl.exR⟩] = (0, 0) by decide +kernel, show Pl.slvR Pl.exU1 [⟨0, Pl.exR⟩] = some [0] by decide +kernel] at h
 exact h
theorem ks_format (W : World) (E : Env W) : Calls Tryz.prog 13 #[.agg #[.int .i64 1, .int .i64 0, .int .i64 0, .slice none 0 0]] W fun e w' => e = .returned (.tuple #[.string ⟨#[49, 46, 48, 46, 48]⟩, .agg #[.int .i64 0, .int .i64 0]]) ∧ Below W.heap.size W w' := by
 have h := Format_any Pl.exV none 0 W (VIn.rel 1 0 0 W) E
 rw [show Pl.fmtV Pl.exV = ⟨#[49, 46, 48, 46, 48]⟩ by decide +kernel, show Pl.vrF Pl.exV = (0, 0) by decide +kernel] at h
 exact h
theorem ks_ints (W : World) (a b : Option Addr) (c d : Nat) (h1 : Sl W a 1 c 1 (intVals [0])) (h2 : Sl W b 1 d 1 (intVals [0])) : Calls Tryz.prog 46 #[.slice a 1 c, .slice b 1 d] W fun e w' => e = .returned (.bool true) ∧ Below W.heap.size W w' := intsEq_any [0] [0] a b c d W h1 h2
theorem UIn.ex1 {w : World} {p r : Nat} (h1 : Bk w p [.slice (some ⟨r, 0, none⟩) 1 1]) (h2 : Bk w r [.int .i64 1, .int .i64 0, .int .i64 0, .slice none 0 0, .slice none 0 0]) : UIn w Pl.exU1 (some ⟨p, 0, none⟩) 1 := by
 have r0 : RlIs w ⟨Pl.exV, []⟩ [.int .i64 1, .int .i64 0, .int .i64 0, .slice none 0 0, .slice none 0 0] := ⟨none, 0, none, 0, rfl, VIn.rel 1 0 0 w, NsIn.nil w⟩
 have q0 : RsIn w [⟨Pl.exV, []⟩] (some ⟨r, 0, none⟩) 1 := ⟨_, ⟨rfl, Nat.le_refl _, by decide, .inr ⟨r, 0, rfl, h2.lt, fun j u hu => by rw [Nat.zero_add]; exact h2.c j hu⟩⟩, Elems.one r0 rfl⟩
 have p0 : PkIs w [⟨Pl.exV, []⟩] [.slice (some ⟨r, 0, none⟩) 1 1] := ⟨_, _, rfl, q0⟩
 exact ⟨_, ⟨rfl, Nat.le_refl _, by decide, .inr ⟨p, 0, rfl, h1.lt, fun j u hu => by rw [Nat.zero_add]; exact h1.c j hu⟩⟩, Elems.one p0 rfl⟩
set_option maxRecDepth 100000 in
set_option maxHeartbeats 8000000 in
theorem kernSelects_any (w : World) (E : Env w) : Calls Tryz.prog 12 #[] w fun e w' => e = .returned (.bool true) ∧ Below w.heap.size w w' := by
 have HE := Lib.hid E
 clear E
 go_enter Tryz.func12, Tryz.ntmps12
 have B0 : Below w.heap.size w w := Below.refl _ _
 go_wp2_with fail
 refine (ks_parse _ (HE.out.below (show Below w.heap.size w _ from by go_grown) (Nat.le_refl _))).mono ?_
 rintro e w1 ⟨op, cp, rfl, RP, hb⟩
 replace RP := Lib.hid RP
 have B1 : Below w.heap.size w w1 := bcall (by go_grown) hb (by go_size)
 have q1 : w.heap.size + 3 ≤ w1.heap.size := by have z := hb.size; (try simp only [World.size_alloc] at z); omega
 have A := ((((Bk.new (r := w.heap.size) (cs := [.int .i64 1, .int .i64 0, .int .i64 0, .slice none 0 0, .slice none 0 0]) _ 75 (by simp)).alloc _).alloc _)).below hb (by go_size)
 have B := (((Bk.new (r := w.heap.size + 1) (cs := [.slice (some ⟨w.heap.size, 0, none⟩) 1 1]) _ 73 (by simp)).alloc _)).below hb (by go_size)
 have U := ((Bk.new (r := w.heap.size + 1 + 1) (cs := [.slice (some ⟨w.heap.size + 1, 0, none⟩) 1 1]) _ 56 (by simp))).below hb (by go_size)
 clear hb
 have s1 : w.heap.size ≤ w1.heap.size := B1.size
 obtain ⟨A_c, A_f, A_l⟩ := id A
 obtain ⟨B_c, B_f, B_l⟩ := id B
 obtain ⟨U_c, U_f, U_l⟩ := id U
 go_wp2_with fail
 refine (ks_solve _ _ _ _ (UIn.ex1 ((((B.alloc (.cells #[.slice op Pl.exR.length cp] 33)).alloc (.cells #[.int .i64 0, .int .i64 0] 27)).alloc (.cells #[.int .i64 0, .slice op Pl.exR.length cp] 84))) ((((A.alloc (.cells #[.slice op Pl.exR.length cp] 33)).alloc (.cells #[.int .i64 0, .int .i64 0] 27)).alloc (.cells #[.int .i64 0, .slice op Pl.exR.length cp] 84)))) (NsIn.lit (d := ⟨0, Pl.exR⟩) ((Bk.new (r := w1.heap.size + 1 + 1) (cs := [.int .i64 0, .slice op Pl.exR.length cp]) ((w1.alloc (.cells #[.slice op Pl.exR.length cp] 33)).alloc (.cells #[.int .i64 0, .int .i64 0] 27)) 84 (by simp))) ((((RP.out.below (Below.refl _ _ |>.alloc (Nat.le_refl _) (.cells #[.slice op Pl.exR.length cp] 33)) (Nat.le_refl _)).below (Below.refl _ _ |>.alloc (Nat.le_refl _) (.cells #[.int .i64 0, .int .i64 0] 27)) (Nat.le_refl _)).below (Below.refl _ _ |>.alloc (Nat.le_refl _) (.cells #[.int .i64 0, .slice op Pl.exR.length cp] 84)) (Nat.le_refl _))))).mono ?_
 rintro e w2 ⟨oS, mS, rfl, SS, hb⟩
 replace SS := Lib.hid SS
 have B2 : Below w.heap.size w w2 := bcall (by go_grown) hb (by go_size)
 have q2 : w1.heap.size + 3 ≤ w2.heap.size := by have z := hb.size; (try simp only [World.size_alloc] at z); omega
 replace RP := Lib.hid ((((RP.out.below (Below.refl _ _ |>.alloc (Nat.le_refl _) _) (Nat.le_refl _)).below (Below.refl _ _ |>.alloc (Nat.le_refl _) _) (Nat.le_refl _)).below (Below.refl _ _ |>.alloc (Nat.le_refl _) _) (Nat.le_refl _)).below hb (Nat.le_refl _))
 replace A := ((((A.alloc _).alloc _).alloc _)).below hb (by go_size)
 replace B := ((((B.alloc _).alloc _).alloc _)).below hb (by go_size)
 replace U := ((((U.alloc _).alloc _).alloc _)).below hb (by go_size)
 have P := ((((Bk.new (r := w1.heap.size) (cs := [.slice op Pl.exR.length cp]) _ 33 (by simp)).alloc _).alloc _)).below hb (by go_size)
 have F1 := (((Bk.new (r := w1.heap.size + 1) (cs := [.int .i64 0, .int .i64 0]) _ 27 (by simp)).alloc _)).below hb (by go_size)
 have ND := ((Bk.new (r := w1.heap.size + 1 + 1) (cs := [.int .i64 0, .slice op Pl.exR.length cp]) _ 84 (by simp))).below hb (by go_size)
 clear hb
 have s2 : w.heap.size ≤ w2.heap.size := B2.size
 clear A_c A_f A_l B_c B_f B_l U_c U_f U_l
 obtain ⟨A_c, A_f, A_l⟩ := id A
 obtain ⟨B_c, B_f, B_l⟩ := id B
 obtain ⟨U_c, U_f, U_l⟩ := id U
 obtain ⟨P_c, P_f, P_l⟩ := id P
 obtain ⟨F1_c, F1_f, F1_l⟩ := id F1
 obtain ⟨ND_c, ND_f, ND_l⟩ := id ND
 clear RP ND ND_c ND_f ND_l
 go_wp2_with fail
 refine (make_ex _ _ _ _ _ (UIn.ex1 (((B.alloc (.cells #[.int .i64 0, .int .i64 0] 27)).alloc (.cells #[.int .i64 0] 3))) (((A.alloc (.cells #[.int .i64 0, .int .i64 0] 27)).alloc (.cells #[.int .i64 0] 3)))) (Bk.sl (cs := [0]) ((Bk.new (r := w2.heap.size + 1) (cs := [.int .i64 0]) (w2.alloc (.cells #[.int .i64 0, .int .i64 0] 27)) 3 (by simp))) rfl (by decide)) (HE.out.below (show Below w.heap.size w _ from by go_grown) (Nat.le_refl _))).mono ?_
 rintro e w3 ⟨oE, mE, rfl, hb⟩
 have B3 : Below w.heap.size w w3 := bcall (by go_grown) hb (by go_size)
 have q3 : w2.heap.size + 2 ≤ w3.heap.size := by have z := hb.size; (try simp only [World.size_alloc] at z); omega
 replace SS := Lib.hid (((SS.out.below (Below.refl _ _ |>.alloc (Nat.le_refl _) _) (Nat.le_refl _)).below (Below.refl _ _ |>.alloc (Nat.le_refl _) _) (Nat.le_refl _)).below hb (Nat.le_refl _))
 replace A := (((A.alloc _).alloc _)).below hb (by go_size)
 replace B := (((B.alloc _).alloc _)).below hb (by go_size)
 replace U := (((U.alloc _).alloc _)).below hb (by go_size)
 replace P := (((P.alloc _).alloc _)).below hb (by go_size)
 replace F1 := (((F1.alloc _).alloc _)).below hb (by go_size)
 have F2 := (((Bk.new (r := w2.heap.size) (cs := [.int .i64 0, .int .i64 0]) _ 27 (by simp)).alloc _)).below hb (by go_size)
 have IL := ((Bk.new (r := w2.heap.size + 1) (cs := [.int .i64 0]) _ 3 (by simp))).below hb (by go_size)
 clear hb
 have s3 : w.heap.size ≤ w3.heap.size := B3.size
 clear A_c A_f A_l B_c B_f B_l U_c U_f U_l P_c P_f P_l F1_c F1_f F1_l
 obtain ⟨A_c, A_f, A_l⟩ := id A
 obtain ⟨B_c, B_f, B_l⟩ := id B
 obtain ⟨U_c, U_f, U_l⟩ := id U
 obtain ⟨P_c, P_f, P_l⟩ := id P
 obtain ⟨F1_c, F1_f, F1_l⟩ := id F1
 obtain ⟨F2_c, F2_f, F2_l⟩ := id F2
 obtain ⟨IL_c, IL_f, IL_l⟩ := id IL
 clear IL IL_c IL_f IL_l
 go_wp2_with fail
 refine (ks_format _ (HE.out.below (show Below w.heap.size w _ from by go_grown) (Nat.le_refl _))).mono ?_
 rintro e w4 ⟨rfl, hb⟩
 have B4 : Below w.heap.size w w4 := bcall (by go_grown) hb (by go_size)
 have q4 : w3.heap.size + 1 ≤ w4.heap.size := by have z := hb.size; (try simp only [World.size_alloc] at z); omega
 replace SS := Lib.hid ((SS.out.below (Below.refl _ _ |>.alloc (Nat.le_refl _) _) (Nat.le_refl _)).below hb (Nat.le_refl _))
 replace A := ((A.alloc _)).below hb (by go_size)
 replace B := ((B.alloc _)).below hb (by go_size)
 replace U := ((U.alloc _)).below hb (by go_size)
 replace P := ((P.alloc _)).below hb (by go_size)
 replace F1 := ((F1.alloc _)).below hb (by go_size)
 replace F2 := ((F2.alloc _)).below hb (by go_size)
 have F3 := ((Bk.new (r := w3.heap.size) (cs := [.int .i64 0, .int .i64 0]) _ 27 (by simp))).below hb (by go_size)
 clear hb
 have s4 : w.heap.size ≤ w4.heap.size := B4.size
 clear A_c A_f A_l B_c B_f B_l U_c U_f U_l P_c P_f P_l F1_c F1_f F1_l F2_c F2_f F2_l
 obtain ⟨A_c, A_f, A_l⟩ := id A
 obtain ⟨B_c, B_f, B_l⟩ := id B
 obtain ⟨U_c, U_f, U_l⟩ := id U
 obtain ⟨P_c, P_f, P_l⟩ := id P
 obtain ⟨F1_c, F1_f, F1_l⟩ := id F1
 obtain ⟨F2_c, F2_f, F2_l⟩ := id F2
 obtain ⟨F3_c, F3_f, F3_l⟩ := id F3
 go_wp2_with fail
 refine (ks_ints _ _ _ _ _ (((SS.out.below (Below.refl _ _ |>.alloc (Nat.le_refl _) (.cells #[.int .i64 0, .int .i64 0] 27)) (Nat.le_refl _)).below (Below.refl _ _ |>.alloc (Nat.le_refl _) (.cells #[.int .i64 0] 3)) (Nat.le_refl _))) (Bk.sl (cs := [0]) ((Bk.new (r := w4.heap.size + 1) (cs := [.int .i64 0]) (w4.alloc (.cells #[.int .i64 0, .int .i64 0] 27)) 3 (by simp))) rfl (by decide))).mono ?_
 rintro e w5 ⟨rfl, hb⟩
 have B5 : Below w.heap.size w w5 := bcall (by go_grown) hb (by go_size)
 have q5 : w4.heap.size + 2 ≤ w5.heap.size := by have z := hb.size; (try simp only [World.size_alloc] at z); omega
 replace SS := Lib.hid (((SS.out.below (Below.refl _ _ |>.alloc (Nat.le_refl _) _) (Nat.le_refl _)).below (Below.refl _ _ |>.alloc (Nat.le_refl _) _) (Nat.le_refl _)).below hb (Nat.le_refl _))
 replace A := (((A.alloc _).alloc _)).below hb (by go_size)
 replace B := (((B.alloc _).alloc _)).below hb (by go_size)
 replace U := (((U.alloc _).alloc _)).below hb (by go_size)
 replace P := (((P.alloc _).alloc _)).below hb (by go_size)
 replace F1 := (((F1.alloc _).alloc _)).below hb (by go_size)
 replace F2 := (((F2.alloc _).alloc _)).below hb (by go_size)
 replace F3 := (((F3.alloc _).alloc _)).below hb (by go_size)
 have F4 := (((Bk.new (r := w4.heap.size) (cs := [.int .i64 0, .int .i64 0]) _ 27 (by simp)).alloc _)).below hb (by go_size)
 have IK := ((Bk.new (r := w4.heap.size + 1) (cs := [.int .i64 0]) _ 3 (by simp))).below hb (by go_size)
 clear hb
 have s5 : w.heap.size ≤ w5.heap.size := B5.size
 clear A_c A_f A_l B_c B_f B_l U_c U_f U_l P_c P_f P_l F1_c F1_f F1_l F2_c F2_f F2_l F3_c F3_f F3_l
 obtain ⟨A_c, A_f, A_l⟩ := id A
 obtain ⟨B_c, B_f, B_l⟩ := id B
 obtain ⟨U_c, U_f, U_l⟩ := id U
 obtain ⟨P_c, P_f, P_l⟩ := id P
 obtain ⟨F1_c, F1_f, F1_l⟩ := id F1
 obtain ⟨F2_c, F2_f, F2_l⟩ := id F2
 obtain ⟨F3_c, F3_f, F3_l⟩ := id F3
 obtain ⟨F4_c, F4_f, F4_l⟩ := id F4
 obtain ⟨IK_c, IK_f, IK_l⟩ := id IK
 have sx : ((⟨#[49, 46, 48, 46, 48]⟩ : ByteArray).toList == (⟨#[49, 46, 48, 46, 48]⟩ : ByteArray).toList) = true := by simp
 go_wp2_with fail
 go_ret
 exact ⟨rfl, by go_grown⟩
end Go.Proofs.YtolfgcoalihmgaaGreatDoor
