/- Texts joined. -/
import Derived.Test.YtolfgcoalihmgaaGreatDoorMEz
import Derived.Test.YtolfgcoalihmgaaGreatDoorMQd
import Derived.Test.YtolfgcoalihmgaaGreatDoorMBv
namespace Go.Proofs.YtolfgcoalihmgaaGreatDoor
section
open Go.RowKit
theorem pre_facts {s p : ByteArray} (h : Pl.bsl p <+: Pl.bsl s) : p.size ≤ s.size ∧ ((s.extract 0 p.size).toList == p.toList) = true := by
 have hl : p.size ≤ s.size := h.length_le
 refine ⟨hl, beq_iff_eq.2 (Pl.toList_eq.2 (Pl.bsl_inj ?_))⟩
 have e : Pl.bsl (s.extract 0 p.size) = (Pl.bsl s).take p.size := Lib.extract_from_zero s p.size
 rw [e]
 exact (List.prefix_iff_eq_take.1 h).symm
theorem pre_no {s p : ByteArray} (h : ¬ Pl.bsl p <+: Pl.bsl s) (_ : p.size ≤ s.size) : ((s.extract 0 p.size).toList == p.toList) = false := by
 rw [beq_eq_false_iff_ne, ne_eq, Pl.toList_eq]
 intro e
 have e2 : Pl.bsl (s.extract 0 p.size) = (Pl.bsl s).take p.size := Lib.extract_from_zero s p.size
 rw [e] at e2
 exact h (List.prefix_iff_eq_take.2 e2)
theorem strB (a b : List UInt8) : ((⟨a.toArray⟩ : ByteArray).toList == (⟨b.toArray⟩ : ByteArray).toList) = decide (a = b) := by
 rw [Bool.eq_iff_iff, beq_iff_eq, Pl.toList_eq, decide_eq_true_eq]
 exact ⟨fun h => by have := congrArg Pl.bsl h; simpa [Pl.bsl] using this, fun h => by rw [h]⟩
theorem litePre (s p : ByteArray) (w : World) (b : Bool) (hb : b = decide (Pl.bsl p <+: Pl.bsl s)) (_ : s.size ≤ 9223372036854775807) (_ : p.size ≤ 9223372036854775807) :
 Calls Tryz.prog 167 #[.string s, .string p] w fun e w' => e = .returned (.bool b) ∧ w = w' := by
 by_cases h : p.size ≤ s.size
 · have h2 : decide ((p.size : Int) ≤ (s.size : Int)) = true := by simp; omega
   by_cases hp : Pl.bsl p <+: Pl.bsl s
   · have e := (pre_facts hp).2
     rw [decide_eq_true hp] at hb
     subst hb
     clear hp
     go_enter Tryz.func167, Tryz.ntmps167
     go_wp2
     go_ret
     exact ⟨ret_bool (by first | rfl | exact e), rfl⟩
   · have e := pre_no hp h
     rw [decide_eq_false hp] at hb
     subst hb
     clear hp
     go_enter Tryz.func167, Tryz.ntmps167
     go_wp2
     go_ret
     exact ⟨ret_bool (by first | rfl | exact e), rfl⟩
 · have h2 : decide ((p.size : Int) ≤ (s.size : Int)) = false := by simp; omega
   rw [decide_eq_false (fun hp => h (pre_facts hp).1)] at hb
   subst hb
   go_enter Tryz.func167, Tryz.ntmps167
   go_wp2
   go_ret
   exact ⟨rfl, rfl⟩
theorem liteCut_hit (s p t : ByteArray) (w : World) (h : Pl.bsl s = Pl.bsl p ++ Pl.bsl t) (hs : s.size ≤ 9223372036854775807) :
 Calls Tryz.prog 138 #[.string s, .string p] w fun e w' => e = .returned (.tuple #[.string t, .bool true]) ∧ w = w' := by
 have hp : Pl.bsl p <+: Pl.bsl s := ⟨_, h.symm⟩
 have hl := (pre_facts hp).1
 have C := Hd (fun (W : World) => litePre s p W true (decide_eq_true hp).symm hs (by omega))
 have E : Hid (s.extract p.size s.size = t) := Hd (Pl.bsl_inj (by
  have h1 : Pl.bsl (s.extract p.size s.size) = (Pl.bsl s).drop p.size := by
   show (s.extract p.size s.size).data.toList = _
   rw [Lib.extract_data]
   exact List.take_of_length_le (by rw [List.length_drop]; exact nle)
  rw [h1, h]
  exact List.drop_left))
 clear hp h
 go_enter Tryz.func138, Tryz.ntmps138
 go_wp2_with fail
 refine (C.out _).mono ?_
 rintro e w' ⟨rfl, rfl⟩
 go_wp2_with fail
 go_ret2
 exact ⟨by rw [← E.out]; rfl, rfl⟩
theorem liteCut_miss (s p : ByteArray) (w : World) (h : ¬ Pl.bsl p <+: Pl.bsl s) (hs : s.size ≤ 9223372036854775807) (hp : p.size ≤ 9223372036854775807) :
 Calls Tryz.prog 138 #[.string s, .string p] w fun e w' => e = .returned (.tuple #[.string s, .bool false]) ∧ w = w' := by
 have C := Hd (fun (W : World) => litePre s p W false (decide_eq_false h).symm hs hp)
 clear h
 go_enter Tryz.func138, Tryz.ntmps138
 go_wp2_with fail
 refine (C.out _).mono ?_
 rintro e w' ⟨rfl, rfl⟩
 go_wp2_with fail
 go_ret2
 exact ⟨rfl, rfl⟩
theorem cutPrefix_hit (s p t : ByteArray) (w : World) (h : Pl.bsl s = Pl.bsl p ++ Pl.bsl t) (hs : s.size ≤ 9223372036854775807) :
 Calls Tryz.prog 107 #[.string s, .string p] w fun e w' => e = .returned (.tuple #[.string t, .bool true]) ∧ w = w' := by
 have C := Hd (fun (W : World) => liteCut_hit s p t W h hs)
 clear h
 go_enter Tryz.func107, Tryz.ntmps107
 go_wp2_with fail
 refine (C.out _).mono ?_
 rintro e w' ⟨rfl, rfl⟩
 go_wp2_with fail
 go_ret2
 exact ⟨rfl, rfl⟩
theorem cutPrefix_miss (s p : ByteArray) (w : World) (h : ¬ Pl.bsl p <+: Pl.bsl s) (hs : s.size ≤ 9223372036854775807) (hp : p.size ≤ 9223372036854775807) :
 Calls Tryz.prog 107 #[.string s, .string p] w fun e w' => e = .returned (.tuple #[.string s, .bool false]) ∧ w = w' := by
 have C := Hd (fun (W : World) => liteCut_miss s p W h hs hp)
 clear h
 go_enter Tryz.func107, Tryz.ntmps107
 go_wp2_with fail
 refine (C.out _).mono ?_
 rintro e w' ⟨rfl, rfl⟩
 go_wp2_with fail
 go_ret2
 exact ⟨rfl, rfl⟩
theorem tilde_no : ((⟨#[94]⟩ : ByteArray).toList == (⟨#[126]⟩ : ByteArray).toList) = false := (strB [94] [126]).trans (by decide)
theorem tilde_is : ((⟨#[126]⟩ : ByteArray).toList == (⟨#[126]⟩ : ByteArray).toList) = true := (strB [126] [126]).trans (by decide)
set_option maxHeartbeats 1000000 in
theorem above_til (v : Pl.Ver) (a : Option Addr) (c : Nat) (w : World) (ok : v.Ok) :
 Calls Tryz.prog 109 #[.string ⟨#[126]⟩, verV v a c] w (RVer (Pl.tilV v) w) := by
 have p1 := Pl.inT ok.m1
 have p2 := Pl.inT ok.m2
 have p3 := Pl.inT ok.m3
 have E : Hid ((⟨v.maj, v.min + 1, 0, [Pl.zeroId]⟩ : Pl.Ver) = Pl.tilV v) := Hd rfl
 have s1 := tilde_is
 clear ok
 go_enter Tryz.func109, Tryz.ntmps109
 go_wp2_with fail
 go_region
 go_wp2_with fail
 refine bodyPost_ret (v := .agg #[.int .i64 (v.maj), .int .i64 (v.min + 1), .int .i64 (0), .slice (some ⟨w.heap.size + 1 + 1, 0, none⟩) 1 1]) (by simp [results, Tryz.results109, go_sem]) rfl ⟨some ⟨w.heap.size + 1 + 1, 0, none⟩, 1, by rw [← E.out]; rfl, ?_, by go_grown⟩
 rw [← E.out]
 refine VIn.lit (by decide) ?_
 first | exact (Bk.new (cs := [.string Pl.zeroId]) _ _ (by simp)).alloc _ | exact ((Bk.new (cs := [.string Pl.zeroId]) _ _ (by simp)).alloc _).drew | exact ((Bk.new (cs := [.string Pl.zeroId]) _ _ (by simp)).alloc _).drewN _
set_option maxHeartbeats 1000000 in
theorem above_maj (v : Pl.Ver) (a : Option Addr) (c : Nat) (w : World) (ok : v.Ok) (h1 : v.maj ≠ 0) :
 Calls Tryz.prog 109 #[.string ⟨#[94]⟩, verV v a c] w (RVer (Pl.capV v) w) := by
 have p1 := Pl.inT ok.m1
 have p2 := Pl.inT ok.m2
 have p3 := Pl.inT ok.m3
 have E : Hid ((⟨v.maj + 1, 0, 0, [Pl.zeroId]⟩ : Pl.Ver) = Pl.capV v) := Hd (by unfold Pl.capV; rw [if_pos h1])
 have s1 := tilde_no
 have t1 := bneT h1
 clear ok h1
 go_enter Tryz.func109, Tryz.ntmps109
 go_wp2_with fail
 refine bodyPost_ret (v := .agg #[.int .i64 (v.maj + 1), .int .i64 (0), .int .i64 (0), .slice (some ⟨w.heap.size + 1 + 1, 0, none⟩) 1 1]) (by simp [results, Tryz.results109, go_sem]) rfl ⟨some ⟨w.heap.size + 1 + 1, 0, none⟩, 1, by rw [← E.out]; rfl, ?_, by go_grown⟩
 rw [← E.out]
 refine VIn.lit (by decide) ?_
 first | exact (Bk.new (cs := [.string Pl.zeroId]) _ _ (by simp)).alloc _ | exact ((Bk.new (cs := [.string Pl.zeroId]) _ _ (by simp)).alloc _).drew | exact ((Bk.new (cs := [.string Pl.zeroId]) _ _ (by simp)).alloc _).drewN _
set_option maxHeartbeats 1000000 in
theorem above_min (v : Pl.Ver) (a : Option Addr) (c : Nat) (w : World) (ok : v.Ok) (h1 : v.maj = 0) (h2 : v.min ≠ 0) :
 Calls Tryz.prog 109 #[.string ⟨#[94]⟩, verV v a c] w (RVer (Pl.capV v) w) := by
 have p1 := Pl.inT ok.m1
 have p2 := Pl.inT ok.m2
 have p3 := Pl.inT ok.m3
 have E : Hid ((⟨0, v.min + 1, 0, [Pl.zeroId]⟩ : Pl.Ver) = Pl.capV v) := Hd (by unfold Pl.capV; rw [if_neg (by rw [h1]; decide), if_pos h2])
 have s1 := tilde_no
 have t1 := bneF h1
 have t2 := bneT h2
 clear ok h1 h2
 go_enter Tryz.func109, Tryz.ntmps109
 go_wp2_with fail
 refine bodyPost_ret (v := .agg #[.int .i64 (0), .int .i64 (v.min + 1), .int .i64 (0), .slice (some ⟨w.heap.size + 1 + 1, 0, none⟩) 1 1]) (by simp [results, Tryz.results109, go_sem]) rfl ⟨some ⟨w.heap.size + 1 + 1, 0, none⟩, 1, by rw [← E.out]; rfl, ?_, by go_grown⟩
 rw [← E.out]
 refine VIn.lit (by decide) ?_
 first | exact (Bk.new (cs := [.string Pl.zeroId]) _ _ (by simp)).alloc _ | exact ((Bk.new (cs := [.string Pl.zeroId]) _ _ (by simp)).alloc _).drew | exact ((Bk.new (cs := [.string Pl.zeroId]) _ _ (by simp)).alloc _).drewN _
set_option maxHeartbeats 1000000 in
theorem above_pat (v : Pl.Ver) (a : Option Addr) (c : Nat) (w : World) (ok : v.Ok) (h1 : v.maj = 0) (h2 : v.min = 0) :
 Calls Tryz.prog 109 #[.string ⟨#[94]⟩, verV v a c] w (RVer (Pl.capV v) w) := by
 have p1 := Pl.inT ok.m1
 have p2 := Pl.inT ok.m2
 have p3 := Pl.inT ok.m3
 have E : Hid ((⟨0, 0, v.pat + 1, [Pl.zeroId]⟩ : Pl.Ver) = Pl.capV v) := Hd (by unfold Pl.capV; rw [if_neg (by rw [h1]; decide), if_neg (by rw [h2]; decide)])
 have s1 := tilde_no
 have t1 := bneF h1
 have t2 := bneF h2
 clear ok h1 h2
 go_enter Tryz.func109, Tryz.ntmps109
 go_wp2_with fail
 refine bodyPost_ret (v := .agg #[.int .i64 (0), .int .i64 (0), .int .i64 (v.pat + 1), .slice (some ⟨w.heap.size + 1 + 1, 0, none⟩) 1 1]) (by simp [results, Tryz.results109, go_sem]) rfl ⟨some ⟨w.heap.size + 1 + 1, 0, none⟩, 1, by rw [← E.out]; rfl, ?_, by go_grown⟩
 rw [← E.out]
 refine VIn.lit (by decide) ?_
 first | exact (Bk.new (cs := [.string Pl.zeroId]) _ _ (by simp)).alloc _ | exact ((Bk.new (cs := [.string Pl.zeroId]) _ _ (by simp)).alloc _).drew | exact ((Bk.new (cs := [.string Pl.zeroId]) _ _ (by simp)).alloc _).drewN _
theorem above_cap (v : Pl.Ver) (a : Option Addr) (c : Nat) (w : World) (ok : v.Ok) :
 Calls Tryz.prog 109 #[.string ⟨#[94]⟩, verV v a c] w (RVer (Pl.capV v) w) := by
 by_cases h1 : v.maj = 0
 · by_cases h2 : v.min = 0
   · exact above_pat v a c w ok h1 h2
   · exact above_min v a c w ok h1 h2
 · exact above_maj v a c w ok h1
end
section
open Go.RowKit
def RTerm (V : List Pl.Ivl × Int) (w : World) (e : Ending) (w' : World) : Prop := ∃ a c, e = .returned (.tuple #[.agg #[.slice a V.1.length c], .int .i64 V.2]) ∧ RIn w' V.1 a c ∧ Below w.heap.size w w'
theorem RTerm.bad {k : Int} {V : List Pl.Ivl × Int} {w w' : World} (h : V = ([], k)) (hb : Below w.heap.size w w') : RTerm V w (.returned (.tuple #[.agg #[.slice none 0 0], .int .i64 k])) w' := by
 subst h
 exact ⟨none, 0, rfl, RIn.nil _, hb⟩
theorem RTerm.ok {r : List Pl.Ivl} {V : List Pl.Ivl × Int} {w w' : World} {a : Option Addr} {c : Nat} (h : V = (r, 0)) (hr : RIn w' r a c) (hb : Below w.heap.size w w') : RTerm V w (.returned (.tuple #[.agg #[.slice a r.length c], .int .i64 0])) w' := by
 subst h
 exact ⟨a, c, rfl, hr, hb⟩
namespace Pl
theorem par_cases (T : ByteArray) : (refParse (bsl T) = none ∧ (parF T).1 ≠ 0 ∧ parV T = Ver.zero) ∨ ∃ v, refParse (bsl T) = some v ∧ v.Ok ∧ parV T = v ∧ parF T = (0, 0) := by
 cases h : refParse (bsl T) with
 | none =>
   refine .inl ⟨rfl, ?_, ?_⟩
   · unfold parF
     split
     · decide
     · rw [parse_same, h]; decide
   · unfold parV
     split
     · rfl
     · rw [parse_same, h]; rfl
 | some v =>
   have hv := ref_iff.1 h
   have hl : T.size ≤ 80 := by have := verT_len hv.1; rw [hv.2] at this; exact this
   have := par_some hl (v := v) (by rw [parse_same, h])
   exact .inr ⟨v, rfl, hv.1, this⟩
theorem try_hit {s t op : List UInt8} {r : List (List UInt8)} {V : List Ivl × Int} (h : s = op ++ t) (hV : tryOps s (op :: r) = V) : (refParse t = none → V = ([], 1)) ∧ ∀ v, refParse t = some v → V = opR op v := by
 subst h
 rw [tryOps, if_pos (List.isPrefixOf_iff_prefix.2 ⟨t, rfl⟩), List.drop_left] at hV
 subst hV
 exact ⟨fun e => by rw [e], fun v e => by rw [e]⟩
theorem try_miss {s op : List UInt8} {r : List (List UInt8)} {V : List Ivl × Int} (h : ¬ op <+: s) (hV : tryOps s (op :: r) = V) : tryOps s r = V := by
 rwa [tryOps, if_neg (fun e => h (List.isPrefixOf_iff_prefix.1 e))] at hV
theorem bsl_at (l : List UInt8) : bsl (mkS l) = l := bsl_mkS l
end Pl
abbrev opsV : Value := .agg #[.string ⟨#[62, 61]⟩, .string ⟨#[60, 61]⟩, .string ⟨#[62]⟩, .string ⟨#[60]⟩, .string ⟨#[61]⟩, .string ⟨#[94]⟩, .string ⟨#[126]⟩]
theorem idxOp0 (w : World) : (Instr.index 141 opsV (.int .i64 0)).run Tryz.prog w = .ok (.string ⟨#[62, 61]⟩) w := by kernel_rfl
theorem idxOp1 (w : World) : (Instr.index 141 opsV (.int .i64 1)).run Tryz.prog w = .ok (.string ⟨#[60, 61]⟩) w := by kernel_rfl
theorem idxOp2 (w : World) : (Instr.index 141 opsV (.int .i64 2)).run Tryz.prog w = .ok (.string ⟨#[62]⟩) w := by kernel_rfl
theorem idxOp3 (w : World) : (Instr.index 141 opsV (.int .i64 3)).run Tryz.prog w = .ok (.string ⟨#[60]⟩) w := by kernel_rfl
theorem idxOp4 (w : World) : (Instr.index 141 opsV (.int .i64 4)).run Tryz.prog w = .ok (.string ⟨#[61]⟩) w := by kernel_rfl
theorem idxOp5 (w : World) : (Instr.index 141 opsV (.int .i64 5)).run Tryz.prog w = .ok (.string ⟨#[94]⟩) w := by kernel_rfl
theorem idxOp6 (w : World) : (Instr.index 141 opsV (.int .i64 6)).run Tryz.prog w = .ok (.string ⟨#[126]⟩) w := by kernel_rfl
set_option maxHeartbeats 1000000 in
theorem term_star (s : ByteArray) (w : World) (h : Pl.bsl s = [42]) : Calls Tryz.prog 62 #[.string s] w (RTerm (Pl.termP (Pl.bsl s)) w) := by
 have EV : Hid (Pl.termP (Pl.bsl s) = (Pl.upR Pl.lowV, 0)) := Hd (by unfold Pl.termP; rw [if_pos h])
 have hs : s = ⟨#[42]⟩ := Pl.bsl_inj h
 subst hs
 have s1 : ((⟨#[42]⟩ : ByteArray).toList == (⟨#[42]⟩ : ByteArray).toList) = true := (strB [42] [42]).trans (by decide)
 clear h
 go_enter Tryz.func62, Tryz.ntmps62
 have B0 := brl w
 go_wp2_with fail
 refine (lowest_any _).mono ?_
 rintro e w1 ⟨la, lc, rfl, VL, hb⟩
 replace VL := Hd VL
 have B1 := bcm w hb
 have q1 : w.heap.size + 1 ≤ w1.heap.size := qle hb
 have R := ((bkn w.heap.size [.slice none 0 0] 33)).bw hb
 clear hb
 have s1 := B1.size
 have ⟨Rc, Rf, Rl⟩ := R
 go_wp2_with fail
 refine (from_any Pl.lowV la lc _ VL.out Pl.lowV_ok).mono ?_
 rintro e w2 ⟨o5, k5, rfl, A5, hb⟩
 have B2 := bcm w hb
 have q2 : w1.heap.size ≤ w2.heap.size := qle hb
 replace VL := Hd (VL.out.bl hb)
 replace R := R.bw hb
 clear hb
 have s2 := B2.size
 clear Rc Rf Rl
 have ⟨Rc, Rf, Rl⟩ := R
 go_wp2_with fail
 have RN := R.st 0 (.slice o5 (Pl.upR Pl.lowV).length k5)
 obtain ⟨RNc, RNf, RNl⟩ := RN
 refine bodyPost_ret (v := .tuple #[.agg #[.slice o5 (Pl.upR Pl.lowV).length k5], .int .i64 0]) (by simp [results, Tryz.results62, go_sem, RNc]) rfl (RTerm.ok EV.out (A5.setBk R (by simp) (j := 0) rfl (by nofun) _) (by go_grown))
end
section
open Go.RowKit
set_option maxRecDepth 100000 in
set_option maxHeartbeats 16000000 in
theorem term_op0 (s : ByteArray) (w : World) (E : Env w) (hs : s.size ≤ 9223372036854775807) (h42 : Pl.bsl s ≠ [42]) (hno : ∀ m (h : m < 7), m < 0 → ¬ Pl.opsL[m] <+: Pl.bsl s) (t : List UInt8) (ht0 : [62, 61] ++ t = Pl.bsl s) : Calls Tryz.prog 62 #[.string s] w (RTerm (Pl.termP (Pl.bsl s)) w) := by
 obtain ⟨V, hV⟩ : ∃ V, Pl.termP (Pl.bsl s) = V := ⟨_, rfl⟩
 rw [hV]
 have HV := Hd (show Pl.tryOps (Pl.bsl s) (Pl.opsL.drop 0) = V by unfold Pl.termP at hV; rwa [if_neg h42] at hV)
 have s0 : (s.toList == [42]) = false := by rw [beq_eq_false_iff_ne, ne_eq, ba_toList]; exact h42
 have HE := Hd E
 have HT := Hd ht0
 have HNO := Hd hno
 have i0 := idxOp0
 clear hV h42 E ht0 hno
 go_enter Tryz.func62, Tryz.ntmps62
 go_wp2_with fail
 go_loop [16] (fun i => ∃ m : Nat, m ≤ 0 ∧ i = .int .i64 (m : Int) ∧ Hid (Pl.tryOps (Pl.bsl s) (Pl.opsL.drop m) = V)) (fun i => 7 - (intOf i).toNat)
 case atStart => exact ⟨0, by decide, rfl, HV⟩
 case round =>
  obtain ⟨m, hj, rfl, hu⟩ := hrel
  clear HV
  match m, hj with
  | 0, _ =>
    have hu2 : Hid (Pl.tryOps (Pl.bsl s) ([62, 61] :: Pl.opsL.drop 1) = V) := Hd hu.out
    clear hu
    · have ht := HT.out
      have TH := Hd (Pl.try_hit ht.symm hu2.out)
      have CC := Hd (fun (W : World) => cutPrefix_hit s (⟨#[62, 61]⟩ : ByteArray) (Pl.mkS t) W (by rw [Pl.bsl_at]; exact ht.symm) hs)
      have hts : (Pl.mkS t).size ≤ 9223372036854775807 := by
       have h1 := congrArg List.length ht
       rw [List.length_append] at h1
       have h2 : (Pl.bsl s).length = s.size := rfl
       have h3 : (Pl.mkS t).size = t.length := rfl
       omega
      have CQ := Hd (fun (W : World) (E : Env W) => Parse_any (Pl.mkS t) W hts E)
      have PC := Pl.par_cases (Pl.mkS t)
      rw [Pl.bsl_at] at PC
      clear ht hu2 hts i0
      have i := idxOp0
      rcases PC with ⟨p1, p2, p3⟩ | ⟨v, p1, okv, p2, p3⟩
      · have EV := Hd (TH.out.1 p1)
        rw [p3] at CQ
        obtain ⟨F, hF⟩ : ∃ F, Pl.parF (Pl.mkS t) = F := ⟨_, rfl⟩
        rw [hF] at CQ p2
        delta RVerF at CQ
        obtain ⟨f1, f2⟩ := F
        simp only [fltV] at CQ
        have u1 := bneT p2
        have u2 := beqF p2
        clear p1 p2 p3 hF TH
        have B0 := brl w
        go_wp2_with fail
        refine (CC.out _).mono ?_
        rintro e w' ⟨rfl, rfl⟩
        go_wp2_with fail
        have HE1 := HE.out.below (B := w.heap.size) (w' := w.alloc (.cells #[.slice none 0 0] 33)) (by go_grown) nle
        refine (CQ.out _ HE1).mono ?_
        rintro e w1 ⟨pa, pc, rfl, VP, hb⟩
        replace VP := Hd VP
        have B1 := bcm w hb
        have q1 : w.heap.size + 1 ≤ w1.heap.size := qle hb
        have R := ((bkn w.heap.size [.slice none 0 0] 33)).bw hb
        clear hb
        have s1 := B1.size
        have ⟨Rc, Rf, Rl⟩ := R
        go_wp2_with fail
        have RN := ((R.st 0 (.slice none 0 0)).alloc (.cells #[.int .i64 Pl.Ver.zero.maj, .int .i64 Pl.Ver.zero.min, .int .i64 Pl.Ver.zero.pat, .slice pa Pl.Ver.zero.pre.length pc] 24)).alloc (.cells #[.int .i64 f1, .int .i64 f2] 27)
        obtain ⟨RNc, RNf, RNl⟩ := RN
        refine bodyPost_ret (v := .tuple #[.agg #[.slice none 0 0], .int .i64 1]) (by simp [results, Tryz.results62, go_sem, RNc]) rfl (RTerm.bad EV.out (by go_grown))
      · have EV := Hd (TH.out.2 v p1)
        rw [p2, p3] at CQ
        delta RVerF at CQ
        simp only [fltV] at CQ
        have OV := Hd okv
        have c62 : ((⟨#[62, 61]⟩ : ByteArray).toList == (⟨#[62]⟩ : ByteArray).toList) = false := (strB [62, 61] [62]).trans (by decide)
        have c6061 : ((⟨#[62, 61]⟩ : ByteArray).toList == (⟨#[60, 61]⟩ : ByteArray).toList) = false := (strB [62, 61] [60, 61]).trans (by decide)
        have c61 : ((⟨#[62, 61]⟩ : ByteArray).toList == (⟨#[61]⟩ : ByteArray).toList) = false := (strB [62, 61] [61]).trans (by decide)
        have c94 : ((⟨#[62, 61]⟩ : ByteArray).toList == (⟨#[94]⟩ : ByteArray).toList) = false := (strB [62, 61] [94]).trans (by decide)
        have c126 : ((⟨#[62, 61]⟩ : ByteArray).toList == (⟨#[126]⟩ : ByteArray).toList) = false := (strB [62, 61] [126]).trans (by decide)
        have c6261 : ((⟨#[62, 61]⟩ : ByteArray).toList == (⟨#[62, 61]⟩ : ByteArray).toList) = true := (strB [62, 61] [62, 61]).trans (by decide)
        have c60 : ((⟨#[62, 61]⟩ : ByteArray).toList == (⟨#[60]⟩ : ByteArray).toList) = false := (strB [62, 61] [60]).trans (by decide)
        clear p1 p2 p3 TH okv
        have B0 := brl w
        go_wp2_with fail
        refine (CC.out _).mono ?_
        rintro e w' ⟨rfl, rfl⟩
        go_wp2_with fail
        have HE1 := HE.out.below (B := w.heap.size) (w' := w.alloc (.cells #[.slice none 0 0] 33)) (by go_grown) nle
        refine (CQ.out _ HE1).mono ?_
        rintro e w1 ⟨pa, pc, rfl, VP, hb⟩
        replace VP := Hd VP
        have B1 := bcm w hb
        have q1 : w.heap.size + 1 ≤ w1.heap.size := qle hb
        have R := ((bkn w.heap.size [.slice none 0 0] 33)).bw hb
        clear hb
        have s1 := B1.size
        have ⟨Rc, Rf, Rl⟩ := R
        have CF := Hd (fun (W : World) (g : VIn W v pa pc) => from_any v pa pc W g OV.out)
        go_wp2_with fail
        refine (CF.out _ (VP.out.bl (by go_grown))).mono ?_
        rintro e w2 ⟨o5, k5, rfl, A5, hb⟩
        have B2 := bcm w hb
        have q2 : w1.heap.size + 3 ≤ w2.heap.size := qle hb
        replace VP := Hd ((((VP.out.al _).al _).al _).bl hb)
        replace R := ((((R.alloc _).alloc _).alloc _)).bw hb
        have V := ((((bkn w1.heap.size [.int .i64 v.maj, .int .i64 v.min, .int .i64 v.pat, .slice pa v.pre.length pc] 24).alloc _).alloc _)).bw hb
        have F := (((bkn (w1.heap.size + 1) [.int .i64 0, .int .i64 0] 27).alloc _)).bw hb
        have B := ((bkn (w1.heap.size + 1 + 1) [.int .i64 v.maj, .int .i64 v.min, .int .i64 v.pat, .slice pa v.pre.length pc] 24)).bw hb
        clear hb
        have s2 := B2.size
        clear Rc Rf Rl
        have ⟨Rc, Rf, Rl⟩ := R
        have ⟨Vc, Vf, Vl⟩ := V
        have ⟨Fc, Ff, Fl⟩ := F
        have ⟨Bc, Bf, Bl⟩ := B
        go_wp2_with fail
        have RN := R.st 0 (.slice o5 (Pl.upR v).length k5)
        obtain ⟨RNc, RNf, RNl⟩ := RN
        refine bodyPost_ret (v := .tuple #[.agg #[.slice o5 (Pl.upR v).length k5], .int .i64 0]) (by simp [results, Tryz.results62, go_sem, RNc]) rfl (RTerm.ok EV.out (A5.setBk R (by simp) (j := 0) rfl (by nofun) _) (by go_grown))
end
end Go.Proofs.YtolfgcoalihmgaaGreatDoor
