/- Texts joined. -/
import Derived.Test.YtolfgcoalihmgaaGreatDoorZMBf
import Derived.Test.YtolfgcoalihmgaaGreatDoorZMPo
namespace Go.Proofs.YtolfgcoalihmgaaGreatDoor
section
open Go.RowKit
abbrev verV (v : Pl.Ver) (a : Option Addr) (c : Nat) : Value := .agg #[.int .i64 v.maj, .int .i64 v.min, .int .i64 v.pat, .slice a v.pre.length c]
structure VIn (w : World) (v : Pl.Ver) (a : Option Addr) (c : Nat) : Prop where
 sl : Sl w a v.pre.length c 1 (strVals v.pre)
 ss : ∀ s ∈ v.pre, s.size ≤ 9223372036854775807
theorem VIn.len {w : World} {v : Pl.Ver} {a : Option Addr} {c : Nat} (h : VIn w v a c) : v.pre.length ≤ 9223372036854775807 := by
 have h1 := h.sl.hcap
 have h2 := h.sl.hmax
 unfold maxLen at h2
 omega
theorem VIn.below {w w' : World} {v : Pl.Ver} {a : Option Addr} {c : Nat} (h : VIn w v a c) {B : Nat} (hb : Below B w w') (hB : w.heap.size ≤ B) : VIn w' v a c := ⟨h.sl.below hb hB, h.ss⟩
theorem VIn.bl {w w' : World} {v : Pl.Ver} {a : Option Addr} {c : Nat} (h : VIn w v a c) (hb : Below w.heap.size w w') : VIn w' v a c := h.below hb nle
theorem VIn.al {w : World} {v : Pl.Ver} {a : Option Addr} {c : Nat} (h : VIn w v a c) (o : Obj) : VIn (w.alloc o) v a c := h.below ((Below.refl _ _).alloc nle o) nle
theorem Box2.newAt {w : World} {r : Nat} {x y : Value} {t : TypeId} (h : r = w.heap.size) : Box2 (w.alloc (.cells #[x, y] t)) r x y := by subst h; exact Box2.new _ _ _ _
namespace Pl
theorem vrF_m1 {v : Ver} (h : inB v.maj 0 1000000000 = false) : vrF v = (3, 0) := by unfold vrF; rw [if_pos h]
theorem vrF_m2 {v : Ver} (h1 : inB v.maj 0 1000000000 = true) (h : inB v.min 0 1000000000 = false) : vrF v = (3, 1) := by unfold vrF; rw [if_neg (by rw [h1]; decide), if_pos h]
theorem vrF_m3 {v : Ver} (h1 : inB v.maj 0 1000000000 = true) (h2 : inB v.min 0 1000000000 = true) (h : inB v.pat 0 1000000000 = false) : vrF v = (3, 2) := by unfold vrF; rw [if_neg (by rw [h1]; decide), if_neg (by rw [h2]; decide), if_pos h]
theorem vrF_n {v : Ver} (h1 : inB v.maj 0 1000000000 = true) (h2 : inB v.min 0 1000000000 = true) (h3 : inB v.pat 0 1000000000 = true) (h : 4 < v.pre.length) : vrF v = (2, -1) := by unfold vrF; rw [if_neg (by rw [h1]; decide), if_neg (by rw [h2]; decide), if_neg (by rw [h3]; decide), if_pos h]
theorem vrF_pre {v : Ver} (h1 : inB v.maj 0 1000000000 = true) (h2 : inB v.min 0 1000000000 = true) (h3 : inB v.pat 0 1000000000 = true) (h : v.pre.length ≤ 4) : vrF v = preAt v.pre 0 := by unfold vrF; rw [if_neg (by rw [h1]; decide), if_neg (by rw [h2]; decide), if_neg (by rw [h3]; decide), if_neg (by omega)]
theorem preAt_drop {l : List ByteArray} {k : Nat} {F : Int × Int} (hk : k < l.length) (h : preAt (l.drop k) k = F) : (identB (bsl l[k]) = true → preAt (l.drop (k + 1)) (k + 1) = F) ∧ (identB (bsl l[k]) = false → F = (5, (k : Int))) := by
 rw [List.drop_eq_getElem_cons hk, preAt] at h
 refine ⟨fun e => ?_, fun e => ?_⟩
 · rwa [if_pos e] at h
 · rw [if_neg (by simp [e])] at h; exact h.symm
theorem preAt_last {l : List ByteArray} {k : Nat} {F : Int × Int} (hk : l.length ≤ k) (h : preAt (l.drop k) k = F) : F = (0, 0) := by
 rw [List.drop_of_length_le hk] at h; exact h.symm
theorem inF {n : Int} (h : inB n 0 1000000000 = false) : n < 0 ∨ 1000000000 < n := by have := inB_false.1 h; omega
theorem inT {n : Int} (h : inB n 0 1000000000 = true) : 0 ≤ n ∧ n ≤ 1000000000 := inB_true.1 h
end Pl
abbrev fltV (F : Int × Int) : Value := .agg #[.int .i64 F.1, .int .i64 F.2]
theorem rfault_at (a b : Int) (w : World) : Calls Tryz.prog 57 #[.int .i64 a, .int .i64 b] w fun e w' => e = .returned (.agg #[.int .i64 a, .int .i64 b]) ∧ w' = w.alloc (.cells #[.int .i64 a, .int .i64 b] 27) := by
 go_enter Tryz.func57, Tryz.ntmps57
 go_wp2
 go_returns
 exact ⟨rfl, rfl⟩
set_option maxHeartbeats 1000000 in
theorem VersionFault_any (v : Pl.Ver) (a : Option Addr) (c : Nat) (w : World) (h : VIn w v a c) :
 Calls Tryz.prog 14 #[verV v a c] w fun e w' => e = .returned (fltV (Pl.vrF v)) ∧ Below w.heap.size w w' := by
 obtain ⟨F, hF⟩ : ∃ F, Pl.vrF v = F := ⟨_, rfl⟩
 rw [hF]
 have hlen := h.len
 cases h1 : Pl.inB v.maj 0 1000000000 with
 | false =>
   rw [Pl.vrF_m1 h1] at hF
   subst hF
   go_enter Tryz.func14, Tryz.ntmps14
   go_wp2_with (first | (go_at_call 56; refine (rin_any _ _ _ _).mono ?_; rintro e w' ⟨rfl, rfl⟩) | (go_at_call 57; refine (rfault_at _ _ _).mono ?_; rintro e w' ⟨rfl, rfl⟩))
   go_returns
   exact ⟨rfl, by go_grown⟩
 | true =>
   cases h2 : Pl.inB v.min 0 1000000000 with
   | false =>
     rw [Pl.vrF_m2 h1 h2] at hF
     subst hF
     go_enter Tryz.func14, Tryz.ntmps14
     go_wp2_with (first | (go_at_call 56; refine (rin_any _ _ _ _).mono ?_; rintro e w' ⟨rfl, rfl⟩) | (go_at_call 57; refine (rfault_at _ _ _).mono ?_; rintro e w' ⟨rfl, rfl⟩))
     go_returns
     exact ⟨rfl, by go_grown⟩
   | true =>
     cases h3 : Pl.inB v.pat 0 1000000000 with
     | false =>
       rw [Pl.vrF_m3 h1 h2 h3] at hF
       subst hF
       go_enter Tryz.func14, Tryz.ntmps14
       go_wp2_with (first | (go_at_call 56; refine (rin_any _ _ _ _).mono ?_; rintro e w' ⟨rfl, rfl⟩) | (go_at_call 57; refine (rfault_at _ _ _).mono ?_; rintro e w' ⟨rfl, rfl⟩))
       go_returns
       exact ⟨rfl, by go_grown⟩
     | true =>
       by_cases h4 : 4 < v.pre.length
       · rw [Pl.vrF_n h1 h2 h3 h4] at hF
         subst hF
         go_enter Tryz.func14, Tryz.ntmps14
         go_wp2_with (first | (go_at_call 56; refine (rin_any _ _ _ _).mono ?_; rintro e w' ⟨rfl, rfl⟩) | (go_at_call 57; refine (rfault_at _ _ _).mono ?_; rintro e w' ⟨rfl, rfl⟩))
         go_returns
         exact ⟨rfl, by go_grown⟩
       · rw [Pl.vrF_pre h1 h2 h3 (by omega)] at hF
         have HF := Hd hF
         clear hF
         go_enter Tryz.func14, Tryz.ntmps14
         go_wp2_with (first | (go_at_call 56; refine (rin_any _ _ _ _).mono ?_; rintro e w' ⟨rfl, rfl⟩) | (go_at_call 57; refine (rfault_at _ _ _).mono ?_; rintro e w' ⟨rfl, rfl⟩))
         go_loop [3] (fun i => ∃ k : Nat, k ≤ v.pre.length ∧ i = .int .i64 k ∧ Hid (Pl.preAt (v.pre.drop k) k = F)) (fun i => v.pre.length - (intOf i).toNat)
         case atStart => exact ⟨0, Nat.zero_le _, rfl, HF⟩
         case round =>
          obtain ⟨k, hk, rfl, hu⟩ := hrel
          by_cases hlt : k < v.pre.length
          · obtain ⟨b, off, rfl, hb, hc⟩ := h.sl.strAt (by omega)
            have c1 : w.cell? ⟨b, off + k, none⟩ = some (.string v.pre[k]) := hc k hlt
            have sz := h.ss _ (List.getElem_mem hlt)
            obtain ⟨g1, g2⟩ := Pl.preAt_drop hlt hu.out
            clear hc
            generalize v.pre[k] = x at *
            cases hi : Pl.identB (Pl.bsl x) with
            | true =>
              have E := Hd (g1 hi)
              clear g1 g2
              go_wp2_with (first | (go_at_call 58; refine (Identifier_any _ _ sz).mono ?_; rintro e w' ⟨rfl, rfl⟩))
              go_round
              case rel => exact ⟨k + 1, hlt, by go_num, E⟩
              case measure => simp [intOf]; omega
            | false =>
              have E := Hd (g2 hi)
              clear g1 g2 hu
              go_wp2_with (first | (go_at_call 58; refine (Identifier_any _ _ sz).mono ?_; rintro e w' ⟨rfl, rfl⟩) | (go_at_call 57; refine (rfault_at _ _ _).mono ?_; rintro e w' ⟨rfl, rfl⟩))
              go_returns
              exact ⟨by rw [E.out], by go_grown⟩
          · have E := Hd (Pl.preAt_last (by omega) hu.out)
            clear hu
            go_wp2_with fail
            go_returns
            exact ⟨by rw [E.out], by go_grown⟩
theorem idx3_0 (a b d : Int) (w : World) : (Instr.index 129 (.agg #[.int .i64 a, .int .i64 b, .int .i64 d]) (.int .i64 0)).run Tryz.prog w = .ok (.int .i64 a) w := by kernel_rfl
theorem idx3_1 (a b d : Int) (w : World) : (Instr.index 129 (.agg #[.int .i64 a, .int .i64 b, .int .i64 d]) (.int .i64 1)).run Tryz.prog w = .ok (.int .i64 b) w := by kernel_rfl
theorem idx3_2 (a b d : Int) (w : World) : (Instr.index 129 (.agg #[.int .i64 a, .int .i64 b, .int .i64 d]) (.int .i64 2)).run Tryz.prog w = .ok (.int .i64 d) w := by kernel_rfl
set_option maxRecDepth 100000 in
set_option maxHeartbeats 1000000 in
theorem Validate_any (v : Pl.Ver) (a : Option Addr) (c : Nat) (w : World) (h : VIn w v a c) :
 Calls Tryz.prog 53 #[verV v a c] w fun e w' => e = .returned (fltV (Pl.vrF v)) ∧ Below w.heap.size w w' := by
 obtain ⟨F, hF⟩ : ∃ F, Pl.vrF v = F := ⟨_, rfl⟩
 rw [hF]
 have HF := Hd hF
 clear hF
 have hlen := h.len
 have H := Hd h
 clear h
 have idx0 := idx3_0
 have idx1 := idx3_1
 have idx2 := idx3_2
 go_enter Tryz.func53, Tryz.ntmps53
 go_wp2_with fail
 go_loop [14] (fun x => ∃ j : Nat, j ≤ 3 ∧ x = .int .i64 (j : Int) ∧ (0 < j → Pl.inB v.maj 0 1000000000 = true) ∧ (1 < j → Pl.inB v.min 0 1000000000 = true) ∧ (2 < j → Pl.inB v.pat 0 1000000000 = true)) (fun x => 3 - (intOf x).toNat)
 case atStart => exact ⟨0, by decide, rfl, by omega, by omega, by omega⟩
 case round =>
  obtain ⟨j, hj, rfl, j0, j1, j2⟩ := hrel
  match j, hj with
  | 0, _ =>
    clear j0 j1 j2
    cases h1 : Pl.inB v.maj 0 1000000000 with
    | false =>
      have E := Hd (HF.out.symm.trans (Pl.vrF_m1 h1))
      have b1 := Pl.inF h1
      go_wp2_with fail
      all_goals (go_returns; exact ⟨by rw [E.out], by go_grown⟩)
    | true =>
      have b1 := Pl.inT h1
      go_wp2_with fail
      go_round
      case rel => exact ⟨1, by decide, by go_num, by simp, by simp, by simp⟩
      case measure => simp [intOf]
  | 1, _ =>
    have h1 := j0 (by decide)
    clear j0 j1 j2
    cases h2 : Pl.inB v.min 0 1000000000 with
    | false =>
      have E := Hd (HF.out.symm.trans (Pl.vrF_m2 h1 h2))
      have b1 := Pl.inF h2
      go_wp2_with fail
      all_goals (go_returns; exact ⟨by rw [E.out], by go_grown⟩)
    | true =>
      have b1 := Pl.inT h2
      go_wp2_with fail
      go_round
      case rel => exact ⟨2, by decide, by go_num, fun _ => h1, by simp, by simp⟩
      case measure => simp [intOf]
  | 2, _ =>
    have h1 := j0 (by decide)
    have h2 := j1 (by decide)
    clear j0 j1 j2
    cases h3 : Pl.inB v.pat 0 1000000000 with
    | false =>
      have E := Hd (HF.out.symm.trans (Pl.vrF_m3 h1 h2 h3))
      have b1 := Pl.inF h3
      go_wp2_with fail
      all_goals (go_returns; exact ⟨by rw [E.out], by go_grown⟩)
    | true =>
      have b1 := Pl.inT h3
      go_wp2_with fail
      go_round
      case rel => exact ⟨3, by decide, by go_num, fun _ => h1, fun _ => h2, by simp⟩
      case measure => simp [intOf]
  | 3, _ =>
    have h1 := j0 (by decide)
    have h2 := j1 (by decide)
    have h3 := j2 (by decide)
    clear j0 j1 j2
    by_cases h4 : 4 < v.pre.length
    · have E := Hd (HF.out.symm.trans (Pl.vrF_n h1 h2 h3 h4))
      clear h1 h2 h3
      go_wp2_with fail
      go_returns
      exact ⟨by rw [E.out], by go_grown⟩
    · have HP := Hd ((Pl.vrF_pre h1 h2 h3 (by omega)).symm.trans HF.out)
      clear h1 h2 h3 HF
      go_wp2_with fail
      go_loopw [35] (fun i wr => ∃ k : Nat, k ≤ v.pre.length ∧ i = .int .i64 k ∧ Hid (Pl.preAt (v.pre.drop k) k = F) ∧ Below w.heap.size w wr ∧ Hid (Box2 wr (w.heap.size + 1) (.int .i64 0) (.int .i64 0))) (fun i _ => v.pre.length - (intOf i).toNat)
      case atStart => exact ⟨0, Nat.zero_le _, rfl, HP, by go_grown, Hd (Box2.newAt (by simp))⟩
      case round =>
       obtain ⟨k, hk, rfl, hu, hbw, hbx⟩ := hrel
       have sw := hbw.size
       by_cases hlt : k < v.pre.length
       · obtain ⟨b, off, rfl, hb, hc⟩ := H.out.sl.strAt (by omega)
         have c1 : wr.cell? ⟨b, off + k, none⟩ = some (.string v.pre[k]) := by rw [hbw.cell (p := ⟨b, off + k, none⟩) hb]; exact hc k hlt
         have sz := H.out.ss _ (List.getElem_mem hlt)
         obtain ⟨g1, g2⟩ := Pl.preAt_drop hlt hu.out
         clear hc
         generalize v.pre[k] = x at *
         cases hi : Pl.identB (Pl.bsl x) with
         | true =>
           have E := Hd (g1 hi)
           clear g1 g2
           go_wp2_with fail
           refine (identifier_any _ _ sz).mono ?_
           rintro e w1 ⟨rfl, b1⟩
           have B1 := bcall hbw b1 hbw.size
           have hx1 := Hd (hbx.out.below b1 hbx.out.lt)
           clear b1 c1
           go_wp2_with fail
           go_roundw
           case rel => exact ⟨k + 1, hlt, by go_num, E, B1, hx1⟩
           case measure => simp [intOf]; omega
         | false =>
           have E := Hd (g2 hi)
           clear g1 g2 hu
           go_wp2_with fail
           refine (identifier_any _ _ sz).mono ?_
           rintro e w1 ⟨rfl, b1⟩
           have B1 := bcall hbw b1 hbw.size
           obtain ⟨x0, x1, f0, f1, l1⟩ := hbx.out.below b1 hbx.out.lt
           clear b1 c1
           go_wp2_with fail
           have RB := (Box2.mk x0 x1 f0 f1 l1).set (.int .i64 5) (.int .i64 k)
           obtain ⟨RB0, RB1, -, -, -⟩ := RB
           refine bodyPost_ret (v := .agg #[.int .i64 5, .int .i64 k]) (by simp [results, Tryz.results53, go_sem, RB0, RB1]) rfl ⟨by rw [E.out], by go_grown⟩
       · have E := Hd (Pl.preAt_last (by omega) hu.out)
         obtain ⟨x0, x1, f0, f1, l1⟩ := hbx.out
         clear hu
         go_wp2_with fail
         have RB := (Box2.mk x0 x1 f0 f1 l1).set (.int .i64 0) (.int .i64 0)
         obtain ⟨RB0, RB1, -, -, -⟩ := RB
         refine bodyPost_ret (v := .agg #[.int .i64 0, .int .i64 0]) (by simp [results, Tryz.results53, go_sem, RB0, RB1]) rfl ⟨by rw [E.out], by go_grown⟩
end
section
open Go.RowKit
namespace Pl
theorem vc1 {a b : Ver} (h : a.maj ≠ b.maj) : verCmp a b = sgn a.maj b.maj := by
 rw [verCmp_eq, if_neg (fun e => h (sgn_zero.1 e))]
theorem vc2 {a b : Ver} (h1 : a.maj = b.maj) (h : a.min ≠ b.min) : verCmp a b = sgn a.min b.min := by
 rw [verCmp_eq, if_pos (sgn_zero.2 h1), if_neg (fun e => h (sgn_zero.1 e))]
theorem vc3 {a b : Ver} (h1 : a.maj = b.maj) (h2 : a.min = b.min) (h : a.pat ≠ b.pat) : verCmp a b = sgn a.pat b.pat := by
 rw [verCmp_eq, if_pos (sgn_zero.2 h1), if_pos (sgn_zero.2 h2), if_neg (fun e => h (sgn_zero.1 e))]
theorem vc4 {a b : Ver} (h1 : a.maj = b.maj) (h2 : a.min = b.min) (h3 : a.pat = b.pat) : verCmp a b = if a.pre.length = 0 ∨ b.pre.length = 0 then sgn (b.pre.length : Int) (a.pre.length : Int) else lexL idc a.pre b.pre := by
 rw [verCmp_eq, if_pos (sgn_zero.2 h1), if_pos (sgn_zero.2 h2), if_pos (sgn_zero.2 h3)]
 by_cases ha : a.pre.length = 0
 · by_cases hb : b.pre.length = 0
   · rw [if_pos ha, if_pos hb, if_pos (sgn_self 1), if_pos (.inl ha), List.length_eq_zero_iff.1 ha, List.length_eq_zero_iff.1 hb]; rfl
   · rw [if_pos ha, if_neg hb, if_neg (by decide), if_pos (.inl ha), sgn_gt (show (0 : Int) < 1 by omega), sgn_gt (by omega)]
 · by_cases hb : b.pre.length = 0
   · rw [if_neg ha, if_pos hb, if_neg (by decide), if_pos (.inr hb), sgn_lt (show (0 : Int) < 1 by omega), sgn_lt (by omega)]
   · rw [if_neg ha, if_neg hb, if_pos (sgn_self 0), if_neg (by omega)]
def numC (a b : Ver) : Int := orL [sgn a.maj b.maj, sgn a.min b.min, sgn a.pat b.pat]
theorem numC_cases (a b : Ver) : numC a b ≠ 0 ∧ verCmp a b = numC a b ∨ numC a b = 0 ∧ a.maj = b.maj ∧ a.min = b.min ∧ a.pat = b.pat := by
 unfold numC
 simp only [orL]
 by_cases h1 : a.maj = b.maj
 · rw [if_pos (sgn_zero.2 h1)]
   by_cases h2 : a.min = b.min
   · rw [if_pos (sgn_zero.2 h2)]
     by_cases h3 : a.pat = b.pat
     · rw [if_pos (sgn_zero.2 h3)]; exact .inr ⟨rfl, h1, h2, h3⟩
     · rw [if_neg (fun e => h3 (sgn_zero.1 e))]; exact .inl ⟨fun e => h3 (sgn_zero.1 e), vc3 h1 h2 h3⟩
   · rw [if_neg (fun e => h2 (sgn_zero.1 e))]; exact .inl ⟨fun e => h2 (sgn_zero.1 e), vc2 h1 h2⟩
 · rw [if_neg (fun e => h1 (sgn_zero.1 e))]; exact .inl ⟨fun e => h1 (sgn_zero.1 e), vc1 h1⟩
end Pl
structure VOk (w : World) (v : Pl.Ver) (a : Option Addr) (c : Nat) : Prop where
 mem : VIn w v a c
 ok : ∀ s ∈ v.pre, Pl.identB (Pl.bsl s) = true
 n : v.pre.length ≤ 4
theorem VOk.below {w w' : World} {v : Pl.Ver} {a : Option Addr} {c : Nat} (h : VOk w v a c) {B : Nat} (hb : Below B w w') (hB : w.heap.size ≤ B) : VOk w' v a c := ⟨h.mem.below hb hB, h.ok, h.n⟩
theorem VOk.bl {w w' : World} {v : Pl.Ver} {a : Option Addr} {c : Nat} (h : VOk w v a c) (hb : Below w.heap.size w w') : VOk w' v a c := h.below hb nle
theorem VOk.al {w : World} {v : Pl.Ver} {a : Option Addr} {c : Nat} (h : VOk w v a c) (o : Obj) : VOk (w.alloc o) v a c := h.below ((Below.refl _ _).alloc nle o) nle
set_option maxHeartbeats 1000000 in
theorem Order_any (x y : Pl.Ver) (a b : Option Addr) (c d : Nat) (w : World) (hx : VOk w x a c) (hy : VOk w y b d) :
 Calls Tryz.prog 113 #[verV x a c, verV y b d] w fun e w' => e = .returned (.int .i64 (Pl.verCmp x y)) ∧ Below w.heap.size w w' := by
 have lx := hx.mem.len
 have ly := hy.mem.len
 have HX := Hd hx
 have HY := Hd hy
 clear hx hy
 obtain ⟨N, hN⟩ : ∃ N, Pl.numC x y = N := ⟨_, rfl⟩
 have hcs := Pl.numC_cases x y
 rw [hN] at hcs
 have HN := Hd hN
 have HC := Hd hcs
 clear hN hcs
 go_enter Tryz.func113, Tryz.ntmps113
 go_wp2_with fail
 refine wp_region_ord [0, 1, 2, 3, 5, 6, 7, 8, 10, 11, 12, 13, 4, 9, 14, 15, 16, 17] (by kernel_rfl) (by kernel_rfl) ?_
 repeat (refine wpI_rd rfl rfl ?_; go_big_quiet_step (fail); refine wpQuiet_nil ?_)
 refine wpI_call (f := 144) (args := #[.int .i64 x.maj, .int .i64 y.maj]) rfl rfl rfl (by simp [go_sem]) ?_
 refine (cmpInt_any _ _ _).mono ?_
 rintro e w' ⟨rfl, rfl⟩
 refine ⟨_, rfl, Below.refl _ _, ?_⟩
 try simp only [pts]
 refine wpI_call (f := 144) (args := #[.int .i64 x.min, .int .i64 y.min]) rfl rfl rfl (by simp [go_sem]) ?_
 refine (cmpInt_any _ _ _).mono ?_
 rintro e w' ⟨rfl, rfl⟩
 refine ⟨_, rfl, Below.refl _ _, ?_⟩
 try simp only [pts]
 refine wpI_call (f := 144) (args := #[.int .i64 x.pat, .int .i64 y.pat]) rfl rfl rfl (by simp [go_sem]) ?_
 refine (cmpInt_any _ _ _).mono ?_
 rintro e w' ⟨rfl, rfl⟩
 refine ⟨_, rfl, Below.refl _ _, ?_⟩
 try simp only [pts]
 refine wpI_add rfl rfl rfl (u := .slice (some ⟨w.heap.size + 2, 0, none⟩) 3 3) (w' := (((w.alloc (.cells #[.int .i64 x.maj, .int .i64 x.min, .int .i64 x.pat, .slice a x.pre.length c] 24)).alloc (.cells #[.int .i64 y.maj, .int .i64 y.min, .int .i64 y.pat, .slice b y.pre.length d] 24)).drew.alloc (.cells #[.int .i64 (Pl.sgn x.maj y.maj), .int .i64 (Pl.sgn x.min y.min), .int .i64 (Pl.sgn x.pat y.pat)] 3))) (by simp [go_sem]) (Below.ext ((Below.refl _ _).alloc nle _)) ?_
 try simp only [pts]
 refine wpI_call (f := 143) (args := #[.slice (some ⟨w.heap.size + 2, 0, none⟩) 3 3]) rfl rfl rfl (by simp [go_sem]) ?_
 refine (Or_any [Pl.sgn x.maj y.maj, Pl.sgn x.min y.min, Pl.sgn x.pat y.pat] _ _ _ (Sl.fresh (C := intVals [Pl.sgn x.maj y.maj, Pl.sgn x.min y.min, Pl.sgn x.pat y.pat]) (by simp) rfl nle (by unfold maxLen; simp)) (by simp)).mono ?_
 rintro e w' ⟨rfl, rfl⟩
 refine ⟨_, rfl, Below.refl _ _, ?_⟩
 rw [show Pl.orL [Pl.sgn x.maj y.maj, Pl.sgn x.min y.min, Pl.sgn x.pat y.pat] = N from HN.out]
 try simp only [pts]
 repeat (refine wpI_rd rfl rfl ?_; go_big_quiet_step (fail); refine wpQuiet_nil ?_)
 refine wpI_nil ?_
 try simp only [pts]
 rcases HC.out with ⟨h0, E⟩ | ⟨h0, e1, e2, e3⟩
 · have t1 := bneT h0
   have t2 := beqF h0
   replace E := Hd E
   clear h0
   go_wp2_with fail
   go_ret
   exact ⟨ret_int E.out.symm, by go_grown⟩
 · have t1 := bneF h0
   have t2 := beqT h0
   have E := Hd (Pl.vc4 e1 e2 e3)
   clear h0 e1 e2 e3
   by_cases p1 : x.pre.length = 0 <;> by_cases p2 : y.pre.length = 0
   · have q1 : ((x.pre.length : Int) == 0) = true := beqT (by omega)
     have q2 : ((y.pre.length : Int) == 0) = true := beqT (by omega)
     have E2 := Hd (show Pl.lexL Pl.idc x.pre y.pre = Pl.verCmp x y by rw [E.out, if_pos (.inl p1), p1, p2, List.length_eq_zero_iff.1 p1, List.length_eq_zero_iff.1 p2]; rfl)
     clear p1 p2
     go_wp2_with fail
     refine (CompareFunc_any x.pre y.pre a b c d _ (HX.out.mem.sl.bl (by go_grown)) (HY.out.mem.sl.bl (by go_grown)) lx ly (fun s hs => ⟨Pl.ident_ascii (HX.out.ok s hs), HX.out.mem.ss s hs⟩) (fun s hs => ⟨Pl.ident_ascii (HY.out.ok s hs), HY.out.mem.ss s hs⟩)).mono ?_
     rintro e w1 ⟨rfl, b1⟩
     have B1 := bcm w b1
     clear b1
     go_wp2_with fail
     go_ret
     exact ⟨ret_int E2.out, B1⟩
   · have q1 : ((x.pre.length : Int) == 0) = true := beqT (by omega)
     have q2 : ((y.pre.length : Int) == 0) = false := beqF (by omega)
     have E2 := Hd (show Pl.sgn (y.pre.length : Int) (x.pre.length : Int) = Pl.verCmp x y by rw [E.out, if_pos (.inl p1)])
     clear p1 p2
     go_wp2_with (go_at_call 144; refine (cmpInt_any _ _ _).mono ?_; rintro e w' ⟨rfl, rfl⟩)
     go_ret
     exact ⟨ret_int E2.out, by go_grown⟩
   · have q1 : ((x.pre.length : Int) == 0) = false := beqF (by omega)
     have q2 : ((y.pre.length : Int) == 0) = true := beqT (by omega)
     have E2 := Hd (show Pl.sgn (y.pre.length : Int) (x.pre.length : Int) = Pl.verCmp x y by rw [E.out, if_pos (.inr p2)])
     clear p1 p2
     go_wp2_with (go_at_call 144; refine (cmpInt_any _ _ _).mono ?_; rintro e w' ⟨rfl, rfl⟩)
     go_ret
     exact ⟨ret_int E2.out, by go_grown⟩
   · have q1 : ((x.pre.length : Int) == 0) = false := beqF (by omega)
     have q2 : ((y.pre.length : Int) == 0) = false := beqF (by omega)
     have E2 := Hd (show Pl.lexL Pl.idc x.pre y.pre = Pl.verCmp x y by rw [E.out, if_neg (by omega)])
     clear p1 p2
     go_wp2_with fail
     refine (CompareFunc_any x.pre y.pre a b c d _ (HX.out.mem.sl.bl (by go_grown)) (HY.out.mem.sl.bl (by go_grown)) lx ly (fun s hs => ⟨Pl.ident_ascii (HX.out.ok s hs), HX.out.mem.ss s hs⟩) (fun s hs => ⟨Pl.ident_ascii (HY.out.ok s hs), HY.out.mem.ss s hs⟩)).mono ?_
     rintro e w1 ⟨rfl, b1⟩
     have B1 := bcm w b1
     clear b1
     go_wp2_with fail
     go_ret
     exact ⟨ret_int E2.out, B1⟩
namespace Pl
theorem vc_ref {a b : Ver} (h1 : a.maj = b.maj) (h2 : a.min = b.min) (h3 : a.pat = b.pat) (h : a.pre.length = 0 ∨ b.pre.length = 0) : sgn (b.pre.length : Int) (a.pre.length : Int) * sgn ((a.pre.length : Int) + (b.pre.length : Int)) 0 = verCmp a b := by
 rw [vc4 h1 h2 h3, if_pos h]
 by_cases h0 : (a.pre.length : Int) + (b.pre.length : Int) = 0
 · rw [sgn_zero.2 h0, sgn_zero.2 (show (b.pre.length : Int) = (a.pre.length : Int) by omega)]; rfl
 · rw [sgn_gt (show (0 : Int) < (a.pre.length : Int) + (b.pre.length : Int) by omega), Int.mul_one]
theorem sgn_rng (x y : Int) : -1 ≤ sgn x y ∧ sgn x y ≤ 1 := by unfold sgn; repeat' split <;> omega
end Pl
set_option maxRecDepth 100000 in
set_option maxHeartbeats 2000000 in
theorem VersionOrder_any (x y : Pl.Ver) (a b : Option Addr) (c d : Nat) (w : World) (hx : VOk w x a c) (hy : VOk w y b d) :
 Calls Tryz.prog 77 #[verV x a c, verV y b d] w fun e w' => e = .returned (.int .i64 (Pl.verCmp x y)) ∧ Below w.heap.size w w' := by
 have lx := hx.n
 have ly := hy.n
 have HX := Hd hx
 have HY := Hd hy
 by_cases h1 : x.maj = y.maj
 · by_cases h2 : x.min = y.min
   · by_cases h3 : x.pat = y.pat
     · have t1 := bneF h1
       have t2 := bneF h2
       have t3 := bneF h3
       have E := Hd (Pl.vc4 h1 h2 h3)
       have E4 := Hd (fun h => Pl.vc_ref h1 h2 h3 h)
       clear h1 h2 h3 hx hy
       by_cases p1 : x.pre.length = 0
       · have q1 : ((x.pre.length : Int) == 0) = true := beqT (by omega)
         have E2 := Hd (E4.out (.inl p1))
         have r1 := Pl.sgn_rng (y.pre.length : Int) (x.pre.length : Int)
         have r2 := Pl.sgn_rng ((x.pre.length : Int) + (y.pre.length : Int)) 0
         clear p1
         go_enter Tryz.func77, Tryz.ntmps77
         go_wp2_with fail
         go_quiet ((go_at_call 119; exact quiet_eq (Sign3_any _ _ _)))
         go_wp2_with fail
         go_ret
         have R := Pl.verCmp_TO.rng x y
         exact ⟨ret_int (by rw [IntWalk.wrap64_in _ (by rw [E2.out]; omega)]; exact E2.out), below_drewN' (by go_grown) _⟩
       · have q1 : ((x.pre.length : Int) == 0) = false := beqF (by omega)
         by_cases p2 : y.pre.length = 0
         · have q2 : ((y.pre.length : Int) == 0) = true := beqT (by omega)
           have E2 := Hd (E4.out (.inr p2))
           have r1 := Pl.sgn_rng (y.pre.length : Int) (x.pre.length : Int)
           have r2 := Pl.sgn_rng ((x.pre.length : Int) + (y.pre.length : Int)) 0
           clear p1 p2
           go_enter Tryz.func77, Tryz.ntmps77
           go_wp2_with fail
           go_quiet ((go_at_call 119; exact quiet_eq (Sign3_any _ _ _)))
           go_wp2_with fail
           go_ret
           have R := Pl.verCmp_TO.rng x y
           exact ⟨ret_int (by rw [IntWalk.wrap64_in _ (by rw [E2.out]; omega)]; exact E2.out), below_drewN' (by go_grown) _⟩
         · have q2 : ((y.pre.length : Int) == 0) = false := beqF (by omega)
           have E2 := Hd (show Pl.lexL Pl.idc x.pre y.pre = Pl.verCmp x y by rw [E.out, if_neg (by omega)])
           obtain ⟨ba, offa, rfl, hla, hca⟩ := HX.out.mem.sl.strAt (by omega)
           obtain ⟨bb, offb, rfl, hlb, hcb⟩ := HY.out.mem.sl.strAt (by omega)
           have HCA := Hd hca
           have HCB := Hd hcb
           clear p1 p2 hca hcb E4 E
           go_enter Tryz.func77, Tryz.ntmps77
           go_wp2_with fail
           go_loopw [5] (fun i wr => ∃ k : Nat, k ≤ x.pre.length ∧ k ≤ y.pre.length ∧ i = .int .i64 k ∧ Hid (Pl.EqTo Pl.idc x.pre y.pre k) ∧ ∃ q, wr = ((w.alloc (.cells #[.int .i64 x.maj, .int .i64 x.min, .int .i64 x.pat, .slice (some ⟨ba, offa, none⟩) x.pre.length c] 24)).alloc (.cells #[.int .i64 y.maj, .int .i64 y.min, .int .i64 y.pat, .slice (some ⟨bb, offb, none⟩) y.pre.length d] 24)).drewN q) (fun i _ => x.pre.length - (intOf i).toNat)
           case atStart => exact ⟨0, Nat.zero_le _, Nat.zero_le _, rfl, Pl.EqTo.zero _ _ _, 0, rfl⟩
           case round =>
            obtain ⟨k, hk, hkb, rfl, hu, q, rfl⟩ := hrel
            by_cases hlt : k < x.pre.length
            · by_cases hlt2 : k < y.pre.length
              · have c1 := HCA.out k hlt
                have c2 := HCB.out k hlt2
                have v1 := Hd (HX.out.ok _ (List.getElem_mem hlt))
                have v2 := Hd (HY.out.ok _ (List.getElem_mem hlt2))
                have st := Hd (fun h => hu.out.succ hlt hlt2 h)
                have en := Hd (fun h => Pl.lexL_at hu.out hlt hlt2 h)
                generalize x.pre[k] = X at *
                generalize y.pre[k] = Y at *
                by_cases hz : Pl.idc X Y = 0
                · have u1 := bneF hz
                  have u2 := beqT hz
                  have st := Hd (st.out hz)
                  clear en hz
                  go_wp2_with fail
                  go_quiet ((go_at_call 120; exact quiet_add_q (identifiers_any X Y _ v1.out v2.out)))
                  go_wp2_with fail
                  go_roundw
                  case rel => exact ⟨k + 1, hlt, hlt2, by go_num, st, _, by first | rfl | rw [World.drewN_drewN]⟩
                  case measure => simp [intOf]; omega
                · have u1 := bneT hz
                  have u2 := beqF hz
                  have en := Hd ((en.out hz).symm.trans E2.out)
                  clear st hz
                  go_wp2_with fail
                  go_quiet ((go_at_call 120; exact quiet_add_q (identifiers_any X Y _ v1.out v2.out)))
                  go_wp2_with fail
                  go_ret
                  exact ⟨ret_int en.out, below_drewN' (by go_grown) _⟩
              · have en := Hd ((Pl.lexL_end hu.out hk hkb (by omega)).symm.trans E2.out)
                go_wp2_with (go_at_call 119; refine (Sign3_any _ _ _).mono ?_; rintro e w' ⟨rfl, rfl⟩)
                go_ret
                exact ⟨ret_int en.out, below_drewN' (by go_grown) _⟩
            · have en := Hd ((Pl.lexL_end hu.out hk hkb (by omega)).symm.trans E2.out)
              go_wp2_with (go_at_call 119; refine (Sign3_any _ _ _).mono ?_; rintro e w' ⟨rfl, rfl⟩)
              go_ret
              exact ⟨ret_int en.out, below_drewN' (by go_grown) _⟩
     · have t1 := bneF h1
       have t2 := bneF h2
       have t3 := bneT h3
       have E := Hd (Pl.vc3 h1 h2 h3)
       clear h1 h2 h3 hx hy
       go_enter Tryz.func77, Tryz.ntmps77
       go_wp2_with (go_at_call 119; refine (Sign3_any _ _ _).mono ?_; rintro e w' ⟨rfl, rfl⟩)
       go_ret
       exact ⟨ret_int E.out.symm, by go_grown⟩
   · have t1 := bneF h1
     have t2 := bneT h2
     have E := Hd (Pl.vc2 h1 h2)
     clear h1 h2 hx hy
     go_enter Tryz.func77, Tryz.ntmps77
     go_wp2_with (go_at_call 119; refine (Sign3_any _ _ _).mono ?_; rintro e w' ⟨rfl, rfl⟩)
     go_ret
     exact ⟨ret_int E.out.symm, by go_grown⟩
 · have t1 := bneT h1
   have E := Hd (Pl.vc1 h1)
   clear h1 hx hy
   go_enter Tryz.func77, Tryz.ntmps77
   go_wp2_with (go_at_call 119; refine (Sign3_any _ _ _).mono ?_; rintro e w' ⟨rfl, rfl⟩)
   go_ret
   exact ⟨ret_int E.out.symm, by go_grown⟩
end
section
open Go.RowKit
theorem ba_toList (s : ByteArray) : s.toList = s.data.toList := by
 have loop : ∀ (n i : Nat) (r : List UInt8), s.size - i = n → ByteArray.toList.loop s i r = r.reverse ++ s.data.toList.drop i := by
  intro n
  induction n with
  | zero =>
    intro i r h
    rw [ByteArray.toList.loop]
    have hs : s.size = s.data.toList.length := rfl
    rw [if_neg (by omega), List.drop_of_length_le (by omega), List.append_nil]
  | succ n ih =>
    intro i r h
    have hs : s.size = s.data.toList.length := rfl
    rw [ByteArray.toList.loop, if_pos (by omega), ih (i + 1) _ (by omega), List.reverse_cons, List.append_assoc]
    congr 1
    rw [List.drop_eq_getElem_cons (show i < s.data.toList.length by omega)]
    show s.get! i :: _ = _
    congr 1
    show s.data[i]! = _
    rw [getElem!_pos s.data i (by have : s.data.size = s.size := rfl; omega)]
    rfl
 unfold ByteArray.toList
 rw [loop s.size 0 [] rfl]
 rfl
namespace Pl
end Pl
end
section
open Go.RowKit
namespace Pl
def sameB (x y : Ver) : Bool := decide (x.maj = y.maj) && decide (x.min = y.min) && decide (x.pat = y.pat) && (x.pre.map bsl == y.pre.map bsl)
theorem map_bsl_inj : ∀ {a b : List ByteArray}, a.map bsl = b.map bsl → a = b
 | [], [], _ => rfl
 | [], _ :: _, h => by simp at h
 | _ :: _, [], h => by simp at h
 | x :: a, y :: b, h => by
   simp only [List.map_cons, List.cons.injEq] at h
   rw [bsl_inj h.1, map_bsl_inj h.2]
theorem sameB_iff {x y : Ver} : sameB x y = true ↔ x = y := by
 unfold sameB
 simp only [Bool.and_eq_true, decide_eq_true_eq, beq_iff_eq]
 constructor
 · rintro ⟨⟨⟨h1, h2⟩, h3⟩, h4⟩
   exact Ver.ext' h1 h2 h3 (map_bsl_inj h4)
 · rintro rfl
   exact ⟨⟨⟨rfl, rfl⟩, rfl⟩, rfl⟩
theorem sameB_false {x y : Ver} (h : x ≠ y) : sameB x y = false := by rw [← Bool.not_eq_true, sameB_iff]; exact h
def SameTo (a b : List ByteArray) (k : Nat) : Prop := ∀ j (h1 : j < a.length) (h2 : j < b.length), j < k → a[j] = b[j]
theorem SameTo.zero (a b : List ByteArray) : SameTo a b 0 := fun _ _ _ h => absurd h (by omega)
theorem SameTo.succ {a b : List ByteArray} {k : Nat} (h : SameTo a b k) (h1 : k < a.length) (h2 : k < b.length) (e : a[k] = b[k]) : SameTo a b (k + 1) := fun j j1 j2 hj => by
 by_cases hk : j = k
 · subst hk; exact e
 · exact h j j1 j2 (by omega)
theorem SameTo.all {a b : List ByteArray} {k : Nat} (h : SameTo a b k) (h1 : a.length ≤ k) (h2 : a.length = b.length) : a = b := List.ext_getElem h2 fun j j1 j2 => h j j1 j2 (by omega)
theorem toList_eq {s t : ByteArray} : s.toList = t.toList ↔ s = t := by
 rw [ba_toList, ba_toList]
 exact ⟨fun h => bsl_inj h, fun h => by rw [h]⟩
end Pl
set_option maxRecDepth 100000 in
set_option maxHeartbeats 2000000 in
theorem SameVersion_any (x y : Pl.Ver) (a b : Option Addr) (c d : Nat) (w : World) (hx : VIn w x a c) (hy : VIn w y b d) :
 Calls Tryz.prog 18 #[verV x a c, verV y b d] w fun e w' => e = .returned (.bool (Pl.sameB x y)) ∧ Below w.heap.size w w' := by
 have lx := hx.len
 have ly := hy.len
 have HX := Hd hx
 have HY := Hd hy
 clear hx hy
 by_cases h1 : x.maj = y.maj
 · by_cases h2 : x.min = y.min
   · by_cases h3 : x.pat = y.pat
     · by_cases h4 : x.pre.length = y.pre.length
       · have u1 := bneF h1
         have u2 := bneF h2
         have u3 := bneF h3
         have u4 := bneF (show (x.pre.length : Int) = (y.pre.length : Int) by omega)
         have EY := Hd (fun h : x.pre = y.pre => Pl.sameB_iff.2 (Pl.Ver.ext' h1 h2 h3 h))
         have EN := Hd (fun h : x.pre ≠ y.pre => Pl.sameB_false (x := x) (y := y) (fun e => h (congrArg Pl.Ver.pre e)))
         have H4 := Hd h4
         clear h1 h2 h3 h4
         by_cases p1 : x.pre.length = 0
         · have E := Hd (EY.out (by rw [List.length_eq_zero_iff.1 p1, List.length_eq_zero_iff.1 (H4.out.symm.trans p1)]))
           have p2 : x.pre.length < 1 := by omega
           clear p1
           go_enter Tryz.func18, Tryz.ntmps18
           go_wp2_with fail
           go_rounds 1
           go_ret
           exact ⟨ret_bool E.out.symm, by go_grown⟩
         · obtain ⟨ba, offa, rfl, hla, hca⟩ := HX.out.sl.strAt (by omega)
           obtain ⟨bb, offb, rfl, hlb, hcb⟩ := HY.out.sl.strAt (by have := H4.out; omega)
           have HCA := Hd hca
           have HCB := Hd hcb
           clear p1 hca hcb
           go_enter Tryz.func18, Tryz.ntmps18
           go_wp2_with fail
           go_loopw [5] (fun i wr => ∃ k : Nat, k ≤ x.pre.length ∧ i = .int .i64 k ∧ Hid (Pl.SameTo x.pre y.pre k) ∧ ∃ q, wr = ((w.alloc (.cells #[.int .i64 x.maj, .int .i64 x.min, .int .i64 x.pat, .slice (some ⟨ba, offa, none⟩) x.pre.length c] 24)).alloc (.cells #[.int .i64 y.maj, .int .i64 y.min, .int .i64 y.pat, .slice (some ⟨bb, offb, none⟩) y.pre.length d] 24)).drewN q) (fun i _ => x.pre.length - (intOf i).toNat)
           case atStart => exact ⟨0, Nat.zero_le _, rfl, Pl.SameTo.zero _ _, 0, rfl⟩
           case round =>
            obtain ⟨k, hk, rfl, hu, q, rfl⟩ := hrel
            by_cases hlt : k < x.pre.length
            · have hlt2 : k < y.pre.length := by have := H4.out; omega
              have c1 := HCA.out k hlt
              have c2 := HCB.out k hlt2
              have st := Hd (fun h => hu.out.succ hlt hlt2 h)
              have en := Hd (show x.pre[k] ≠ y.pre[k] → x.pre ≠ y.pre from fun h e => h (by congr 1))
              generalize x.pre[k] = X at *
              generalize y.pre[k] = Y at *
              by_cases hz : X = Y
              · have v1 : (X.toList == Y.toList) = true := by rw [hz]; simp
                have v2 : (X.toList != Y.toList) = false := by rw [hz]; simp
                have st := Hd (st.out hz)
                clear en hz
                go_wp2_with fail
                go_quiet (fail)
                go_wp2_with fail
                go_roundw
                case rel => exact ⟨k + 1, hlt, by go_num, st, _, by first | rfl | rw [World.drewN_drewN]⟩
                case measure => simp [intOf]; omega
              · have v1 : (X.toList == Y.toList) = false := by simpa [Pl.toList_eq] using hz
                have v2 : (X.toList != Y.toList) = true := by simpa [Pl.toList_eq] using hz
                have E := Hd (EN.out (en.out hz))
                clear st hz
                go_wp2_with fail
                go_quiet (fail)
                go_wp2_with fail
                go_ret
                exact ⟨ret_bool E.out.symm, below_drewN' (below_drewN' (by go_grown) _) _⟩
            · have E := Hd (EY.out (hu.out.all (by omega) H4.out))
              go_wp2_with fail
              go_ret
              exact ⟨ret_bool E.out.symm, below_drewN' (by go_grown) _⟩
       · have u1 := bneF h1
         have u2 := bneF h2
         have u3 := bneF h3
         have u4 := bneT (show (x.pre.length : Int) ≠ (y.pre.length : Int) by omega)
         have E := Hd (Pl.sameB_false (x := x) (y := y) (fun e => h4 (by rw [e])))
         clear h1 h2 h3 h4
         go_enter Tryz.func18, Tryz.ntmps18
         go_wp2_with fail
         go_ret
         exact ⟨ret_bool E.out.symm, by go_grown⟩
     · have u1 := bneF h1
       have u2 := bneF h2
       have u3 := bneT h3
       have E := Hd (Pl.sameB_false (x := x) (y := y) (fun e => h3 (by rw [e])))
       clear h1 h2 h3
       go_enter Tryz.func18, Tryz.ntmps18
       go_wp2_with fail
       go_ret
       exact ⟨ret_bool E.out.symm, by go_grown⟩
   · have u1 := bneF h1
     have u2 := bneT h2
     have E := Hd (Pl.sameB_false (x := x) (y := y) (fun e => h2 (by rw [e])))
     clear h1 h2
     go_enter Tryz.func18, Tryz.ntmps18
     go_wp2_with fail
     go_ret
     exact ⟨ret_bool E.out.symm, by go_grown⟩
 · have u1 := bneT h1
   have E := Hd (Pl.sameB_false (x := x) (y := y) (fun e => h1 (by rw [e])))
   clear h1
   go_enter Tryz.func18, Tryz.ntmps18
   go_wp2_with fail
   go_ret
   exact ⟨ret_bool E.out.symm, by go_grown⟩
theorem VOk.of {w : World} {v : Pl.Ver} {a : Option Addr} {c : Nat} (h : VIn w v a c) (hv : v.Ok) : VOk w v a c := ⟨h, hv.i, hv.n⟩
end
section
open Go.RowKit
set_option maxRecDepth 100000 in
theorem Tryz.tStrs : ElemT Tryz.prog 22 9 1 16 := ⟨Tryz.underlying22, ⟨_, _, rfl, rfl, rfl, rfl, rfl⟩, by decide, by decide⟩
theorem ownsRow_far {w : World} {base : Nat} {e : TypeId} {size : Nat} {v : Value} {n : Nat} {xs : List Value} (h : w.ownsRow base e size v n xs) {a : Addr} (ha : a.block < base) (u : Value) : (w.setCell a u).ownsRow base e size v n xs := by
 refine ⟨h.1, ?_⟩
 rcases h.2 with hn | ⟨g, cap, cur, rfl, hbg, hgg, rest⟩
 · exact .inl hn
 · exact .inr ⟨g, cap, cur, rfl, hbg, (Below.heap_setCell _ _ _ _ (by omega)).trans hgg, rest⟩
theorem VIn.zero (w : World) : VIn w Pl.Ver.zero none 0 := ⟨⟨by simp [Pl.Ver.zero, strVals], nle, Nat.zero_le _, .inl rfl⟩, fun s hs => by cases hs⟩
def RVer (v : Pl.Ver) (w : World) (e : Ending) (w' : World) : Prop := ∃ a c, e = .returned (verV v a c) ∧ VIn w' v a c ∧ Below w.heap.size w w'
def RVerF (v : Pl.Ver) (F : Int × Int) (w : World) (e : Ending) (w' : World) : Prop := ∃ a c, e = .returned (.tuple #[verV v a c, fltV F]) ∧ VIn w' v a c ∧ Below w.heap.size w w'
theorem VIn.own {w : World} {v : Pl.Ver} {base n cap : Nat} {oa : Option Addr} (hn : v.pre.length = n) (h : w.ownsRow base 9 1 (.slice oa n cap) n (strVals v.pre)) (hs : ∀ s ∈ v.pre, s.size ≤ 9223372036854775807) : VIn w v oa cap := by
 subst hn
 exact ⟨Sl.own h, hs⟩
theorem ver_at (a b d : Int) (w : World) : Calls Tryz.prog 70 #[.int .i64 a, .int .i64 b, .int .i64 d] w fun e w' => e = .returned (verV ⟨a, b, d, []⟩ none 0) ∧ w' = w.alloc (.cells #[.int .i64 a, .int .i64 b, .int .i64 d, .slice none 0 0] 24) := by
 go_enter Tryz.func70, Tryz.ntmps70
 go_wp2
 go_returns
 exact ⟨rfl, rfl⟩
theorem pre_at (a b d : Int) (s : ByteArray) (w : World) : Calls Tryz.prog 71 #[.int .i64 a, .int .i64 b, .int .i64 d, .string s] w fun e w' => e = .returned (verV ⟨a, b, d, [s]⟩ (some ⟨w.heap.size + 1, 0, none⟩) 1) ∧ w' = (w.alloc (.cells #[.int .i64 a, .int .i64 b, .int .i64 d, .slice (some ⟨w.heap.size + 1, 0, none⟩) 1 1] 24)).alloc (.cells #[.string s] 9) := by
 go_enter Tryz.func71, Tryz.ntmps71
 go_wp2
 go_returns
 exact ⟨rfl, rfl⟩
theorem VIn.pre {w : World} {a b d : Int} {s : ByteArray} (hs : s.size ≤ 9223372036854775807) {B : Nat} {w' : World} (o : Obj) (hb : Below B ((w.alloc o).alloc (.cells #[.string s] 9)) w') (hB : w.heap.size + 2 ≤ B) : VIn w' ⟨a, b, d, [s]⟩ (some ⟨w.heap.size + 1, 0, none⟩) 1 :=
 VIn.below (w := (w.alloc o).alloc (.cells #[.string s] 9)) ⟨Sl.fresh (C := strVals [s]) (by simp) rfl nle (by unfold maxLen; simp), fun x hx => by rw [List.mem_singleton.1 hx]; exact hs⟩ hb (by simp; omega)
namespace Pl
end Pl
end
end Go.Proofs.YtolfgcoalihmgaaGreatDoor
