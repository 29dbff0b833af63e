/- Texts joined: Jb Jd Qo. -/
import Derived.Test.YtgngehfgcogceaaGreatDoorZMQf
import Derived.Test.YtgngehfgcogceaaGreatDoorZMOs
import Derived.Test.YtgngehfgcogceaaGreatDoorZMDo
import Derived.Test.YtgngehfgcogceaaGreatDoorZMQn
import Derived.Test.YtgngehfgcogceaaGreatDoorZMDf
import Derived.Test.YtgngehfgcogceaaGreatDoorZMQh
section
/- The range of the operator = and a version's text, read by the program; the closed example of the packages that select versions (kernSelects). -/
namespace Go.Proofs.YtgngehfgcogceaaGreatDoor
open Go.RowKit

/-- What the text = and a version is read as. -/
def Pl.exactV (v : Pl.Ver) : List Pl.Ivl := if (Pl.vrF (Pl.verNext v)).1 ≠ 0 then [] else [⟨v, Pl.verNext v, false⟩]
def Pl.exactF (v : Pl.Ver) : Int × Int := if (Pl.vrF (Pl.verNext v)).1 ≠ 0 then (10, 0) else (0, 0)
theorem eqTerms {v : Pl.Ver} (h : v.Ok) (hn : (Pl.verT v).length ≤ 4000) : TermsOf (Pl.mkS (61 :: Pl.verT v)) := by
  have n1 := Pl.verT_no h (c := 32) (by decide) (by decide)
  have n2 := Pl.verT_no h (c := 124) (by decide) (by decide)
  have m1 : (32 : UInt8) ∉ (61 :: Pl.verT v) := by simp [n1]
  have m2 : (124 : UInt8) ∉ (61 :: Pl.verT v) := by simp [n2]
  intro al ha tt ht W EW
  rw [Pl.bsl_mkS, Pl.bars_no (Pl.bar_no m2)] at ha
  obtain rfl := List.mem_singleton.1 ha
  rw [Pl.split_no m1] at ht
  obtain rfl := List.mem_singleton.1 ht
  have hl : (Pl.mkS (61 :: Pl.verT v)).size ≤ 9223372036854775807 := by
    have : (Pl.mkS (61 :: Pl.verT v)).size = (61 :: Pl.verT v).length := by rw [← Pl.bsl_len, Pl.bsl_mkS]
    rw [this, List.length_cons]; omega
  have hne : Pl.verT v ≠ [] := by
    unfold Pl.verT Pl.numT
    intro e
    have := congrArg List.length e
    simp at this
  have h2 := term_op4 (Pl.mkS (61 :: Pl.verT v)) W EW hl (by rw [Pl.bsl_mkS]; simp) (fun m hm hlt => by
    rw [Pl.bsl_mkS]
    match m, hm with
    | 0, _ => exact fun ⟨t, e⟩ => by cases e
    | 1, _ => exact fun ⟨t, e⟩ => by cases e
    | 2, _ => exact fun ⟨t, e⟩ => by cases e
    | 3, _ => exact fun ⟨t, e⟩ => by cases e
    | n + 4, _ => omega) (Pl.verT v) (by rw [Pl.bsl_mkS]; rfl)
  rw [Pl.term_same, Pl.bsl_mkS] at h2
  exact h2
theorem parse_eq {v : Pl.Ver} (h : v.Ok) (hn : (Pl.verT v).length ≤ 4000) (w : World) (E : Env w) : Calls Tryz.prog 11 #[.string (Pl.mkS (61 :: Pl.verT v))] w (RRngF (Pl.exactV v) (Pl.exactF v) w) := by
  have hs : (Pl.mkS (61 :: Pl.verT v)).size ≤ 4096 := by
    have : (Pl.mkS (61 :: Pl.verT v)).size = (61 :: Pl.verT v).length := by rw [← Pl.bsl_len, Pl.bsl_mkS]
    rw [this, List.length_cons]; omega
  have h2 := rngParse_of (Pl.mkS (61 :: Pl.verT v)) w hs E (eqTerms h hn)
  have e := Pl.exact_rng h
  have e1 : Pl.prsV (Pl.mkS (61 :: Pl.verT v)) = Pl.exactV v := by
    unfold Pl.prsV Pl.exactV
    simp only [Pl.bsl_mkS, e]
    rw [if_neg (by omega)]
    split <;> rfl
  have e2 : Pl.prsF (Pl.mkS (61 :: Pl.verT v)) = Pl.exactF v := by
    unfold Pl.prsF Pl.exactF
    simp only [Pl.bsl_mkS, e]
    rw [if_neg (by omega)]
    split <;> rfl
  rw [e1, e2] at h2
  exact h2
theorem exV_ok : Pl.exV.Ok := by
  rcases Pl.vrF_cases Pl.exV with ⟨-, ok⟩ | h
  · exact ok
  · exact absurd (show (Pl.vrF Pl.exV).1 = 0 by decide +kernel) h
def Pl.exR : List Pl.Ivl := [⟨Pl.exV, Pl.verNext Pl.exV, false⟩]
theorem ks_parse (W : World) (E : Env W) : Calls Tryz.prog 11 #[.string ⟨#[61, 49, 46, 48, 46, 48]⟩] W (RRngF Pl.exR (0, 0) W) := by
  have h := parse_eq exV_ok (by decide +kernel) W E
  rw [show Pl.mkS (61 :: Pl.verT Pl.exV) = ⟨#[61, 49, 46, 48, 46, 48]⟩ by decide +kernel, show Pl.exactF Pl.exV = (0, 0) by decide +kernel, show Pl.exactV Pl.exV = Pl.exR from if_neg (by decide +kernel)] at h
  exact h
theorem ks_solve (W : World) (a b : Option Addr) (c : Nat) (h1 : UIn W Pl.exU1 a c) (h2 : NsIn W [⟨0, Pl.exR⟩] b 1) : Calls Tryz.prog 6 #[.agg #[.slice a 1 c], .slice b 1 1] W fun e w' => ∃ o m, e = .returned (.tuple #[.slice o 1 m, .bool true, .agg #[.int .i64 0, .int .i64 0]]) ∧ Sl w' o 1 m 1 (intVals [0]) ∧ Below W.heap.size W w' := by
  have h := Solve_any Pl.exU1 [⟨0, Pl.exR⟩] a b c 1 W h1 h2
  rw [show Pl.wantsF Pl.exU1 [⟨0, Pl.exR⟩] = (0, 0) by decide +kernel, show Pl.slvR Pl.exU1 [⟨0, Pl.exR⟩] = some [0] by decide +kernel] at h
  exact h
theorem ks_format (W : World) (E : Env W) : Calls Tryz.prog 12 #[.agg #[.int .i64 1, .int .i64 0, .int .i64 0, .slice none 0 0]] W fun e w' => e = .returned (.tuple #[.string ⟨#[49, 46, 48, 46, 48]⟩, .agg #[.int .i64 0, .int .i64 0]]) ∧ Below W.heap.size W w' := by
  have h := Format_any Pl.exV none 0 W (VIn.rel 1 0 0 W) E
  rw [show Pl.fmtV Pl.exV = ⟨#[49, 46, 48, 46, 48]⟩ by decide +kernel, show Pl.vrF Pl.exV = (0, 0) by decide +kernel] at h
  exact h
theorem ks_ints (W : World) (a b : Option Addr) (c d : Nat) (h1 : Sl W a 1 c 1 (intVals [0])) (h2 : Sl W b 1 d 1 (intVals [0])) : Calls Tryz.prog 13 #[.slice a 1 c, .slice b 1 d] W fun e w' => e = .returned (.bool true) ∧ Below W.heap.size W w' := intsEq_any [0] [0] a b c d W h1 h2
theorem UIn.ex1 {w : World} {p r : Nat} (h1 : Bk w p [.slice (some ⟨r, 0, none⟩) 1 1]) (h2 : Bk w r [.int .i64 1, .int .i64 0, .int .i64 0, .slice none 0 0, .slice none 0 0]) : UIn w Pl.exU1 (some ⟨p, 0, none⟩) 1 := by
  have r0 : RlIs w ⟨Pl.exV, []⟩ [.int .i64 1, .int .i64 0, .int .i64 0, .slice none 0 0, .slice none 0 0] := ⟨none, 0, none, 0, rfl, VIn.rel 1 0 0 w, NsIn.nil w⟩
  have q0 : RsIn w [⟨Pl.exV, []⟩] (some ⟨r, 0, none⟩) 1 := ⟨_, ⟨rfl, Nat.le_refl _, by decide, .inr ⟨r, 0, rfl, h2.lt, fun j u hu => by rw [Nat.zero_add]; exact h2.c j hu⟩⟩, Elems.one r0 rfl⟩
  have p0 : PkIs w [⟨Pl.exV, []⟩] [.slice (some ⟨r, 0, none⟩) 1 1] := ⟨_, _, rfl, q0⟩
  exact ⟨_, ⟨rfl, Nat.le_refl _, by decide, .inr ⟨p, 0, rfl, h1.lt, fun j u hu => by rw [Nat.zero_add]; exact h1.c j hu⟩⟩, Elems.one p0 rfl⟩
set_option maxRecDepth 100000 in
set_option maxHeartbeats 8000000 in
theorem kernSelects_any (w : World) (E : Env w) : Calls Tryz.prog 4 #[] w fun e w' => e = .returned (.bool true) ∧ Below w.heap.size w w' := by
  have HE := Lib.hid E
  clear E
  go_enter Tryz.func4, Tryz.ntmps4
  have B0 : Below w.heap.size w w := Below.refl _ _
  go_wp2_with fail
  refine (ks_parse _ (HE.out.below (show Below w.heap.size w _ from by go_grown) (Nat.le_refl _))).mono ?_
  rintro e w1 ⟨op, cp, rfl, RP, hb⟩
  replace RP := Lib.hid RP
  have B1 : Below w.heap.size w w1 := bcall (by go_grown) hb (by go_size)
  have q1 : w.heap.size + 3 ≤ w1.heap.size := by have z := hb.size; (try simp only [World.size_alloc] at z); omega
  have A := ((((Bk.new (r := w.heap.size) (cs := [.int .i64 1, .int .i64 0, .int .i64 0, .slice none 0 0, .slice none 0 0]) _ 52 (by simp)).alloc _).alloc _)).below hb (by go_size)
  have B := (((Bk.new (r := w.heap.size + 1) (cs := [.slice (some ⟨w.heap.size, 0, none⟩) 1 1]) _ 53 (by simp)).alloc _)).below hb (by go_size)
  have U := ((Bk.new (r := w.heap.size + 1 + 1) (cs := [.slice (some ⟨w.heap.size + 1, 0, none⟩) 1 1]) _ 24 (by simp))).below hb (by go_size)
  clear hb
  have s1 : w.heap.size ≤ w1.heap.size := B1.size
  obtain ⟨A_c, A_f, A_l⟩ := id A
  obtain ⟨B_c, B_f, B_l⟩ := id B
  obtain ⟨U_c, U_f, U_l⟩ := id U
  go_wp2_with fail
  refine (ks_solve _ _ _ _ (UIn.ex1 ((((B.alloc (.cells #[.slice op Pl.exR.length cp] 44)).alloc (.cells #[.int .i64 0, .int .i64 0] 30)).alloc (.cells #[.int .i64 0, .slice op Pl.exR.length cp] 46))) ((((A.alloc (.cells #[.slice op Pl.exR.length cp] 44)).alloc (.cells #[.int .i64 0, .int .i64 0] 30)).alloc (.cells #[.int .i64 0, .slice op Pl.exR.length cp] 46)))) (NsIn.lit (d := ⟨0, Pl.exR⟩) ((Bk.new (r := w1.heap.size + 1 + 1) (cs := [.int .i64 0, .slice op Pl.exR.length cp]) ((w1.alloc (.cells #[.slice op Pl.exR.length cp] 44)).alloc (.cells #[.int .i64 0, .int .i64 0] 30)) 46 (by simp))) ((((RP.out.below (Below.refl _ _ |>.alloc (Nat.le_refl _) (.cells #[.slice op Pl.exR.length cp] 44)) (Nat.le_refl _)).below (Below.refl _ _ |>.alloc (Nat.le_refl _) (.cells #[.int .i64 0, .int .i64 0] 30)) (Nat.le_refl _)).below (Below.refl _ _ |>.alloc (Nat.le_refl _) (.cells #[.int .i64 0, .slice op Pl.exR.length cp] 46)) (Nat.le_refl _))))).mono ?_
  rintro e w2 ⟨oS, mS, rfl, SS, hb⟩
  replace SS := Lib.hid SS
  have B2 : Below w.heap.size w w2 := bcall (by go_grown) hb (by go_size)
  have q2 : w1.heap.size + 3 ≤ w2.heap.size := by have z := hb.size; (try simp only [World.size_alloc] at z); omega
  replace RP := Lib.hid ((((RP.out.below (Below.refl _ _ |>.alloc (Nat.le_refl _) _) (Nat.le_refl _)).below (Below.refl _ _ |>.alloc (Nat.le_refl _) _) (Nat.le_refl _)).below (Below.refl _ _ |>.alloc (Nat.le_refl _) _) (Nat.le_refl _)).below hb (Nat.le_refl _))
  replace A := ((((A.alloc _).alloc _).alloc _)).below hb (by go_size)
  replace B := ((((B.alloc _).alloc _).alloc _)).below hb (by go_size)
  replace U := ((((U.alloc _).alloc _).alloc _)).below hb (by go_size)
  have P := ((((Bk.new (r := w1.heap.size) (cs := [.slice op Pl.exR.length cp]) _ 44 (by simp)).alloc _).alloc _)).below hb (by go_size)
  have F1 := (((Bk.new (r := w1.heap.size + 1) (cs := [.int .i64 0, .int .i64 0]) _ 30 (by simp)).alloc _)).below hb (by go_size)
  have ND := ((Bk.new (r := w1.heap.size + 1 + 1) (cs := [.int .i64 0, .slice op Pl.exR.length cp]) _ 46 (by simp))).below hb (by go_size)
  clear hb
  have s2 : w.heap.size ≤ w2.heap.size := B2.size
  clear A_c A_f A_l B_c B_f B_l U_c U_f U_l
  obtain ⟨A_c, A_f, A_l⟩ := id A
  obtain ⟨B_c, B_f, B_l⟩ := id B
  obtain ⟨U_c, U_f, U_l⟩ := id U
  obtain ⟨P_c, P_f, P_l⟩ := id P
  obtain ⟨F1_c, F1_f, F1_l⟩ := id F1
  obtain ⟨ND_c, ND_f, ND_l⟩ := id ND
  clear RP ND ND_c ND_f ND_l
  go_wp2_with fail
  refine (make_ex _ _ _ _ _ (UIn.ex1 (((B.alloc (.cells #[.int .i64 0, .int .i64 0] 30)).alloc (.cells #[.int .i64 0] 3))) (((A.alloc (.cells #[.int .i64 0, .int .i64 0] 30)).alloc (.cells #[.int .i64 0] 3)))) (Bk.sl (cs := [0]) ((Bk.new (r := w2.heap.size + 1) (cs := [.int .i64 0]) (w2.alloc (.cells #[.int .i64 0, .int .i64 0] 30)) 3 (by simp))) rfl (by decide)) (HE.out.below (show Below w.heap.size w _ from by go_grown) (Nat.le_refl _))).mono ?_
  rintro e w3 ⟨oE, mE, rfl, hb⟩
  have B3 : Below w.heap.size w w3 := bcall (by go_grown) hb (by go_size)
  have q3 : w2.heap.size + 2 ≤ w3.heap.size := by have z := hb.size; (try simp only [World.size_alloc] at z); omega
  replace SS := Lib.hid (((SS.out.below (Below.refl _ _ |>.alloc (Nat.le_refl _) _) (Nat.le_refl _)).below (Below.refl _ _ |>.alloc (Nat.le_refl _) _) (Nat.le_refl _)).below hb (Nat.le_refl _))
  replace A := (((A.alloc _).alloc _)).below hb (by go_size)
  replace B := (((B.alloc _).alloc _)).below hb (by go_size)
  replace U := (((U.alloc _).alloc _)).below hb (by go_size)
  replace P := (((P.alloc _).alloc _)).below hb (by go_size)
  replace F1 := (((F1.alloc _).alloc _)).below hb (by go_size)
  have F2 := (((Bk.new (r := w2.heap.size) (cs := [.int .i64 0, .int .i64 0]) _ 30 (by simp)).alloc _)).below hb (by go_size)
  have IL := ((Bk.new (r := w2.heap.size + 1) (cs := [.int .i64 0]) _ 3 (by simp))).below hb (by go_size)
  clear hb
  have s3 : w.heap.size ≤ w3.heap.size := B3.size
  clear A_c A_f A_l B_c B_f B_l U_c U_f U_l P_c P_f P_l F1_c F1_f F1_l
  obtain ⟨A_c, A_f, A_l⟩ := id A
  obtain ⟨B_c, B_f, B_l⟩ := id B
  obtain ⟨U_c, U_f, U_l⟩ := id U
  obtain ⟨P_c, P_f, P_l⟩ := id P
  obtain ⟨F1_c, F1_f, F1_l⟩ := id F1
  obtain ⟨F2_c, F2_f, F2_l⟩ := id F2
  obtain ⟨IL_c, IL_f, IL_l⟩ := id IL
  clear IL IL_c IL_f IL_l
  go_wp2_with fail
  refine (ks_format _ (HE.out.below (show Below w.heap.size w _ from by go_grown) (Nat.le_refl _))).mono ?_
  rintro e w4 ⟨rfl, hb⟩
  have B4 : Below w.heap.size w w4 := bcall (by go_grown) hb (by go_size)
  have q4 : w3.heap.size + 1 ≤ w4.heap.size := by have z := hb.size; (try simp only [World.size_alloc] at z); omega
  replace SS := Lib.hid ((SS.out.below (Below.refl _ _ |>.alloc (Nat.le_refl _) _) (Nat.le_refl _)).below hb (Nat.le_refl _))
  replace A := ((A.alloc _)).below hb (by go_size)
  replace B := ((B.alloc _)).below hb (by go_size)
  replace U := ((U.alloc _)).below hb (by go_size)
  replace P := ((P.alloc _)).below hb (by go_size)
  replace F1 := ((F1.alloc _)).below hb (by go_size)
  replace F2 := ((F2.alloc _)).below hb (by go_size)
  have F3 := ((Bk.new (r := w3.heap.size) (cs := [.int .i64 0, .int .i64 0]) _ 30 (by simp))).below hb (by go_size)
  clear hb
  have s4 : w.heap.size ≤ w4.heap.size := B4.size
  clear A_c A_f A_l B_c B_f B_l U_c U_f U_l P_c P_f P_l F1_c F1_f F1_l F2_c F2_f F2_l
  obtain ⟨A_c, A_f, A_l⟩ := id A
  obtain ⟨B_c, B_f, B_l⟩ := id B
  obtain ⟨U_c, U_f, U_l⟩ := id U
  obtain ⟨P_c, P_f, P_l⟩ := id P
  obtain ⟨F1_c, F1_f, F1_l⟩ := id F1
  obtain ⟨F2_c, F2_f, F2_l⟩ := id F2
  obtain ⟨F3_c, F3_f, F3_l⟩ := id F3
  go_wp2_with fail
  refine (ks_ints _ _ _ _ _ (((SS.out.below (Below.refl _ _ |>.alloc (Nat.le_refl _) (.cells #[.int .i64 0, .int .i64 0] 30)) (Nat.le_refl _)).below (Below.refl _ _ |>.alloc (Nat.le_refl _) (.cells #[.int .i64 0] 3)) (Nat.le_refl _))) (Bk.sl (cs := [0]) ((Bk.new (r := w4.heap.size + 1) (cs := [.int .i64 0]) (w4.alloc (.cells #[.int .i64 0, .int .i64 0] 30)) 3 (by simp))) rfl (by decide))).mono ?_
  rintro e w5 ⟨rfl, hb⟩
  have B5 : Below w.heap.size w w5 := bcall (by go_grown) hb (by go_size)
  have q5 : w4.heap.size + 2 ≤ w5.heap.size := by have z := hb.size; (try simp only [World.size_alloc] at z); omega
  replace SS := Lib.hid (((SS.out.below (Below.refl _ _ |>.alloc (Nat.le_refl _) _) (Nat.le_refl _)).below (Below.refl _ _ |>.alloc (Nat.le_refl _) _) (Nat.le_refl _)).below hb (Nat.le_refl _))
  replace A := (((A.alloc _).alloc _)).below hb (by go_size)
  replace B := (((B.alloc _).alloc _)).below hb (by go_size)
  replace U := (((U.alloc _).alloc _)).below hb (by go_size)
  replace P := (((P.alloc _).alloc _)).below hb (by go_size)
  replace F1 := (((F1.alloc _).alloc _)).below hb (by go_size)
  replace F2 := (((F2.alloc _).alloc _)).below hb (by go_size)
  replace F3 := (((F3.alloc _).alloc _)).below hb (by go_size)
  have F4 := (((Bk.new (r := w4.heap.size) (cs := [.int .i64 0, .int .i64 0]) _ 30 (by simp)).alloc _)).below hb (by go_size)
  have IK := ((Bk.new (r := w4.heap.size + 1) (cs := [.int .i64 0]) _ 3 (by simp))).below hb (by go_size)
  clear hb
  have s5 : w.heap.size ≤ w5.heap.size := B5.size
  clear A_c A_f A_l B_c B_f B_l U_c U_f U_l P_c P_f P_l F1_c F1_f F1_l F2_c F2_f F2_l F3_c F3_f F3_l
  obtain ⟨A_c, A_f, A_l⟩ := id A
  obtain ⟨B_c, B_f, B_l⟩ := id B
  obtain ⟨U_c, U_f, U_l⟩ := id U
  obtain ⟨P_c, P_f, P_l⟩ := id P
  obtain ⟨F1_c, F1_f, F1_l⟩ := id F1
  obtain ⟨F2_c, F2_f, F2_l⟩ := id F2
  obtain ⟨F3_c, F3_f, F3_l⟩ := id F3
  obtain ⟨F4_c, F4_f, F4_l⟩ := id F4
  obtain ⟨IK_c, IK_f, IK_l⟩ := id IK
  have sx : ((⟨#[49, 46, 48, 46, 48]⟩ : ByteArray).toList == (⟨#[49, 46, 48, 46, 48]⟩ : ByteArray).toList) = true := by simp
  go_wp2_with fail
  go_ret
  exact ⟨rfl, by go_grown⟩
end Go.Proofs.YtgngehfgcogceaaGreatDoor

end
section
/- Entries of a lock file in memory. -/
namespace Go.Proofs.YtgngehfgcogceaaGreatDoor
open Go.RowKit

structure Pl.Ent where
  pk : Int
  ver : Pl.Ver
  dig : Int
/-- The cells of an entry. -/
abbrev entC (x : Pl.Ent) (a : Option Addr) (c : Nat) : List Value := [.int .i64 x.pk, .int .i64 x.ver.maj, .int .i64 x.ver.min, .int .i64 x.ver.pat, .slice a x.ver.pre.length c, .int .i64 x.dig]
def EnIs (w : World) (x : Pl.Ent) (cs : List Value) : Prop := ∃ a c, cs = entC x a c ∧ VIn w x.ver a c
theorem EnIs.len {w : World} {x : Pl.Ent} {cs : List Value} (h : EnIs w x cs) : cs.length = 6 := by obtain ⟨a, c, rfl, _⟩ := h; rfl
theorem EnIs.below {w w' : World} {x : Pl.Ent} {cs : List Value} (h : EnIs w x cs) {B : Nat} (hb : Below B w w') (hB : w.heap.size ≤ B) : EnIs w' x cs := by
  obtain ⟨a, c, h1, h2⟩ := h
  exact ⟨a, c, h1, h2.below hb hB⟩
/-- A list of entries that lies in memory. -/
structure LIn (w : World) (l : List Pl.Ent) (a : Option Addr) (c : Nat) : Prop where
  mem : ∃ cs, Sl w a l.length c 6 cs ∧ Elems (EnIs w) 6 l cs
theorem LIn.below {w w' : World} {l : List Pl.Ent} {a : Option Addr} {c : Nat} (h : LIn w l a c) {B : Nat} (hb : Below B w w') (hB : w.heap.size ≤ B) : LIn w' l a c := by
  obtain ⟨cs, h1, h2⟩ := h.mem
  exact ⟨cs, h1.below hb hB, h2.mono fun _ _ h => h.below hb hB⟩
theorem LIn.len {w : World} {l : List Pl.Ent} {a : Option Addr} {c : Nat} (h : LIn w l a c) : l.length ≤ 9223372036854775807 := by
  obtain ⟨cs, h1, _⟩ := h.mem
  exact h1.len
/-- One entry of a list. -/
structure EnAt (w : World) (b o : Nat) (x : Pl.Ent) (a1 : Option Addr) (c1 : Nat) : Prop where
  e0 : w.cell? ⟨b, o, none⟩ = some (.int .i64 x.pk)
  e1 : w.cell? ⟨b, o + 1, none⟩ = some (.int .i64 x.ver.maj)
  e2 : w.cell? ⟨b, o + 2, none⟩ = some (.int .i64 x.ver.min)
  e3 : w.cell? ⟨b, o + 3, none⟩ = some (.int .i64 x.ver.pat)
  e4 : w.cell? ⟨b, o + 4, none⟩ = some (.slice a1 x.ver.pre.length c1)
  e5 : w.cell? ⟨b, o + 5, none⟩ = some (.int .i64 x.dig)
  v : VIn w x.ver a1 c1
theorem EnAt.below {w w' : World} {b o : Nat} {x : Pl.Ent} {a1 : Option Addr} {c1 : Nat} (h : EnAt w b o x a1 c1) {B : Nat} (hb : Below B w w') (hl : b < w.heap.size) (hB : w.heap.size ≤ B) : EnAt w' b o x a1 c1 :=
  have e : ∀ j, w'.cell? ⟨b, j, none⟩ = w.cell? ⟨b, j, none⟩ := fun j => hb.cell (p := ⟨b, j, none⟩) (Nat.lt_of_lt_of_le hl hB)
  ⟨(e _).trans h.e0, (e _).trans h.e1, (e _).trans h.e2, (e _).trans h.e3, (e _).trans h.e4, (e _).trans h.e5, h.v.below hb hB⟩
theorem LIn.at {w : World} {l : List Pl.Ent} {a : Option Addr} {c : Nat} (h : LIn w l a c) (h0 : 0 < l.length) : ∃ b off, a = some ⟨b, off, none⟩ ∧ b < w.heap.size ∧ ∀ k (hk : k < l.length), ∃ a1 c1, EnAt w b (off + k * 6) l[k] a1 c1 := by
  obtain ⟨cs, h1, h2⟩ := h.mem
  obtain ⟨b, off, e, hlt, hat⟩ := Sl.pos h1 h2 (by omega) h0
  refine ⟨b, off, e, hlt, fun k hk => ?_⟩
  obtain ⟨es, ⟨a1, c1, rfl, g⟩, hc⟩ := hat k hk
  exact ⟨a1, c1, hc 0 _ rfl, hc 1 _ rfl, hc 2 _ rfl, hc 3 _ rfl, hc 4 _ rfl, hc 5 _ rfl, g⟩
/-- The cells of an entry whose identifiers lie in blocks of this kind. -/
def EnQ (w : World) (Q : Nat → Prop) (x : Pl.Ent) (cs : List Value) : Prop := ∃ a c, cs = entC x a c ∧ VIn w x.ver a c ∧ SlQ Q a x.ver.pre.length
theorem EnQ.is {w : World} {Q : Nat → Prop} {x : Pl.Ent} {cs : List Value} (h : EnQ w Q x cs) : EnIs w x cs := by
  obtain ⟨a, c, h1, h2, _⟩ := h
  exact ⟨a, c, h1, h2⟩
theorem EnQ.mono {w : World} {Q R : Nat → Prop} {x : Pl.Ent} {cs : List Value} (h : EnQ w Q x cs) (hQ : ∀ b, Q b → b < w.heap.size → R b) : EnQ w R x cs := by
  obtain ⟨a, c, h1, h2, h3⟩ := h
  exact ⟨a, c, h1, h2, (h2.with h3).mono fun b h => hQ b h.1 h.2⟩
theorem EnQ.below {w w' : World} {Q : Nat → Prop} {x : Pl.Ent} {cs : List Value} (h : EnQ w Q x cs) {B : Nat} (hb : Below B w w') (hB : w.heap.size ≤ B) : EnQ w' Q x cs := by
  obtain ⟨a, c, h1, h2, h3⟩ := h
  exact ⟨a, c, h1, h2.below hb hB, h3⟩
theorem EnQ.setNS {w : World} {Q : Nat → Prop} {x : Pl.Ent} {cs : List Value} (h : EnQ w Q x cs) {p : Addr} {u : Value} (hp : w.cell? p = some u) (hu : ∀ s, u ≠ .string s) (y : Value) : EnQ (w.setCell p y) Q x cs := by
  obtain ⟨a, c, h1, h2, h3⟩ := h
  exact ⟨a, c, h1, h2.setNS hp hu y, h3⟩
theorem EnQ.grown {w w' : World} {Q : Nat → Prop} {x : Pl.Ent} {cs : List Value} {row : Option Nat} (h : EnQ w Q x cs) (hg : w.grownBy w' row) (hQ : ∀ b, Q b → some b ≠ row) : EnQ w' Q x cs := by
  obtain ⟨a, c, h1, h2, h3⟩ := h
  exact ⟨a, c, h1, h2.grown hg (h3.mono hQ), h3⟩
/-- A list of entries in a row of one's own from B on; the identifiers do not lie in the row. -/
structure LOwn (w : World) (B : Nat) (l : List Pl.Ent) (v : Value) (n : Nat) : Prop where
  mem : ∃ cs, w.ownsRow B 50 6 v n cs ∧ Elems (EnQ w (fun b => some b ≠ v.ownBlock)) 6 l cs
  len : l.length = n
theorem LOwn.lin {w : World} {B : Nat} {l : List Pl.Ent} {a : Option Addr} {n c : Nat} (h : LOwn w B l (.slice a n c) n) : LIn w l a c := by
  obtain ⟨cs, h1, h2⟩ := h.mem
  have h3 := Sl.own h1
  rw [← h.len] at h3
  exact ⟨cs, h3, h2.mono fun _ _ h => h.is⟩
theorem LOwn.below {w w' : World} {B : Nat} {l : List Pl.Ent} {v : Value} {n : Nat} (h : LOwn w B l v n) {D : Nat} (hb : Below D w w') (hD : w.heap.size ≤ D) : LOwn w' B l v n := by
  obtain ⟨cs, h1, h2⟩ := h.mem
  exact ⟨⟨cs, ownsRow_below h1 hb hD, h2.mono fun _ _ h => h.below hb hD⟩, h.len⟩
theorem LOwn.alloc {w : World} {B : Nat} {l : List Pl.Ent} {v : Value} {n : Nat} (h : LOwn w B l v n) (o : Obj) : LOwn (w.alloc o) B l v n := h.below ((Below.refl _ _).alloc (Nat.le_refl _) _) (Nat.le_refl _)
theorem LOwn.drew {w : World} {B : Nat} {l : List Pl.Ent} {v : Value} {n : Nat} (h : LOwn w B l v n) : LOwn w.drew B l v n := h.below (Below.refl _ _).drew (Nat.le_refl _)
theorem LOwn.nil (w : World) (B : Nat) : LOwn w B [] (.slice none 0 0) 0 := ⟨⟨[], World.ownsRow_nil _ _ _ _, Elems.nil⟩, rfl⟩
theorem LOwn.far {w : World} {B : Nat} {l : List Pl.Ent} {v : Value} {n : Nat} (h : LOwn w B l v n) {p : Addr} {u : Value} (ha : p.block < B) (hp : w.cell? p = some u) (hu : ∀ s, u ≠ .string s) (y : Value) : LOwn (w.setCell p y) B l v n := by
  obtain ⟨cs, h1, h2⟩ := h.mem
  exact ⟨⟨cs, ownsRow_far h1 ha y, h2.mono fun _ _ h => h.setNS hp hu y⟩, h.len⟩
theorem LOwn.slice {w : World} {B : Nat} {l : List Pl.Ent} {v : Value} {n : Nat} (h : LOwn w B l v n) : ∃ oa c, v = .slice oa n c := by
  obtain ⟨cs, h1, _⟩ := h.mem
  exact own_slice h1
/-- One entry more, behind an append. -/
theorem LOwn.app {w w' : World} {B : Nat} {l : List Pl.Ent} {v v' : Value} {n : Nat} {cs C : List Value} {x : Pl.Ent} (hl : l.length = n) (h2 : Elems (EnQ w (fun b => some b ≠ v.ownBlock)) 6 l cs)
    (hx : EnQ w (fun b => some b ≠ v.ownBlock) x C) (own : w'.ownsRow B 50 6 v' (n + 1) (cs ++ C)) (hg : w.grownBy w' v.ownBlock) (hv : v'.ownBlock = v.ownBlock ∨ v'.ownBlock = some w.heap.size) :
    LOwn w' B (l ++ [x]) v' (n + 1) := by
  have key : ∀ y c, EnQ w (fun b => some b ≠ v.ownBlock) y c → EnQ w' (fun b => some b ≠ v'.ownBlock) y c := fun y c h => by
    refine EnQ.grown (h.mono (R := fun b => some b ≠ v'.ownBlock ∧ some b ≠ v.ownBlock) fun b hb hlt => ⟨?_, hb⟩) hg (fun b hb => hb.2) |>.mono fun b hb _ => hb.1
    rcases hv with e | e
    · rw [e]; exact hb
    · rw [e]; intro e2; cases e2; omega
  exact ⟨⟨cs ++ C, own, (h2.mono key).append (Elems.one (key _ _ hx) hx.is.len)⟩, by simp [hl]⟩
end Go.Proofs.YtgngehfgcogceaaGreatDoor

end
section
/- Lock files, in plain words: what Make lays, what is a good list of entries. -/
namespace Go.Proofs.YtgngehfgcogceaaGreatDoor.Pl
structure EntOk (x : Ent) : Prop where
  lo : 0 ≤ x.pk
  hi : x.pk < 6
  v : x.ver.Ok
  d0 : 0 ≤ x.dig
  d1 : x.dig < 2305843009213693951
structure EntsOk (l : List Ent) : Prop where
  len : l.length ≤ 6
  each : ∀ x ∈ l, EntOk x
  inc : ∀ i (h : i + 1 < l.length), (l[i]'(by omega)).pk < l[i + 1].pk
/-- The entries of the first k packages. -/
structure MkTo (u : Uni) (ch : List Int) (k : Nat) (l : List Ent) : Prop where
  len : l.length ≤ k
  each : ∀ x ∈ l, 0 ≤ x.pk ∧ x.pk < k ∧ x.ver.Ok ∧ 0 ≤ x.dig ∧ x.dig < 2305843009213693951
  inc : ∀ i (h : i + 1 < l.length), (l[i]'(by omega)).pk < l[i + 1].pk
  has : ∀ i (_g : i < k) (h : i < u.length) n r, ch[i]? = some ((n : Nat) : Int) → u[i][n]? = some r → ∃ x ∈ l, x.pk = i ∧ x.ver = r.v
theorem MkTo.zero (u : Uni) (ch : List Int) : MkTo u ch 0 [] := ⟨Nat.le_refl _, fun x h => (by cases h), fun i h => absurd h (by simp), fun i g => absurd g (by omega)⟩
theorem MkTo.skip {u : Uni} {ch : List Int} {k : Nat} {l : List Ent} (h : MkTo u ch k l) (hk : k < ch.length) (hn : ch[k] < 0) : MkTo u ch (k + 1) l := by
  refine ⟨by have := h.len; omega, fun x hx => ?_, h.inc, fun i g hu n r h1 h2 => ?_⟩
  · obtain ⟨a1, a2, a3⟩ := h.each x hx
    exact ⟨a1, by push_cast; omega, a3⟩
  · by_cases e : i < k
    · exact h.has i e hu n r h1 h2
    · obtain rfl : i = k := by omega
      rw [List.getElem?_eq_getElem hk] at h1
      injection h1 with h1
      omega
theorem MkTo.add {u : Uni} {ch : List Int} {k n : Nat} {l : List Ent} (h : MkTo u ch k l) (hu : k < u.length) (hk : k < ch.length) (hn : ch[k] = (n : Int)) {r : Rel} (hr : u[k][n]? = some r) (ok : r.v.Ok) {D : Int} (d0 : 0 ≤ D) (d1 : D < 2305843009213693951) : MkTo u ch (k + 1) (l ++ [⟨(k : Int), r.v, D⟩]) := by
  refine ⟨by have := h.len; simp only [List.length_append, List.length_cons, List.length_nil]; omega, fun x hx => ?_, fun i hi => ?_, fun i g hu2 m s h1 h2 => ?_⟩
  · rcases List.mem_append.1 hx with h1 | h1
    · obtain ⟨a1, a2, a3⟩ := h.each x h1
      exact ⟨a1, by push_cast; omega, a3⟩
    · cases List.mem_singleton.1 h1
      exact ⟨by dsimp only; omega, by dsimp only; push_cast; omega, ok, d0, d1⟩
  · simp only [List.length_append, List.length_cons, List.length_nil] at hi
    by_cases e : i + 1 < l.length
    · rw [List.getElem_append_left e, List.getElem_append_left (by omega)]
      exact h.inc i e
    · have e2 : i + 1 = l.length := by omega
      rw [List.getElem_append_left (by omega), List.getElem_append_right (by omega)]
      simp only [e2, Nat.sub_self, List.getElem_cons_zero]
      exact (h.each _ (List.getElem_mem (by omega))).2.1
  · by_cases e : i < k
    · obtain ⟨x, hx, g1⟩ := h.has i e hu2 m s h1 h2
      exact ⟨x, List.mem_append.2 (.inl hx), g1⟩
    · obtain rfl : i = k := by omega
      rw [List.getElem?_eq_getElem hk, hn] at h1
      have : n = m := by injection h1 with h1; omega
      subst this
      rw [hr] at h2
      cases h2
      exact ⟨_, List.mem_append.2 (.inr (List.mem_singleton.2 rfl)), rfl, rfl⟩
theorem MkTo.ok {u : Uni} {ch : List Int} {l : List Ent} (h : MkTo u ch u.length l) (hu : UniOk u) : EntsOk l := by
  have h6 := hu.len
  have := h.len
  refine ⟨by omega, fun x hx => ?_, h.inc⟩
  obtain ⟨a1, a2, a3, a4, a5⟩ := h.each x hx
  exact ⟨a1, by omega, a3, a4, a5⟩
/-- The best solution's entries satisfy the wants. -/
theorem MkTo.sat {u : Uni} {ws : List Need} {ch : List Int} {l : List Ent} (h : MkTo u ch u.length l) (hu : UniOk u) (hb : best u ws = some ch) {d : Need} (hd : d ∈ ws) (h0 : 0 ≤ d.pk) : ∃ x ∈ l, x.pk = d.pk ∧ hasB d.rg x.ver = true := by
  have B := (best_some hu.len).1 hb
  have s := B.sol.sat0 d hd
  unfold satB at s
  rw [Bool.and_eq_true, decide_eq_true_eq] at s
  obtain ⟨s1, s2⟩ := s
  have hlt := numAt_lt s1
  have hl := B.ok.len
  obtain ⟨n, hn⟩ : ∃ n : Nat, numAt ch d.at' = n := ⟨(numAt ch d.at').toNat, by omega⟩
  rw [hn] at s2
  unfold hasAt at s2
  rw [List.getElem?_eq_getElem (show d.at' < u.length by omega)] at s2
  dsimp only [Int.toNat_natCast] at s2
  cases hr : u[d.at'][n]? with
  | none => rw [hr] at s2; cases s2
  | some r =>
    rw [hr] at s2
    have hc : ch[d.at']? = some (n : Int) := by
      rw [List.getElem?_eq_getElem hlt, ← hn]
      unfold numAt
      rw [List.getD_eq_getElem?_getD, List.getElem?_eq_getElem hlt]
      rfl
    obtain ⟨x, hx, e1, e2⟩ := h.has d.at' (by omega) (by omega) n r hc hr
    refine ⟨x, hx, ?_, by rw [e2]; exact s2⟩
    rw [e1]
    unfold Need.at'
    omega
end Go.Proofs.YtgngehfgcogceaaGreatDoor.Pl

end
