/- Contracts: the fault of a version, by the program and by the reference. -/
import Derived.Test.YthnhajihkdgifaaDoorBf
namespace Go.Proofs.YthnhajihkdgifaaDoor
open Go.RowKit

/-- A version as a value. -/
abbrev verV (v : Pl.Ver) (a : Option Addr) (c : Nat) : Value := .agg #[.int .i64 v.maj, .int .i64 v.min, .int .i64 v.pat, .slice a v.pre.length c]
/-- Its identifiers lie in memory. -/
structure VIn (w : World) (v : Pl.Ver) (a : Option Addr) (c : Nat) : Prop where
  sl : Sl w a v.pre.length c 1 (strVals v.pre)
  ss : ∀ s ∈ v.pre, s.size ≤ 9223372036854775807
theorem VIn.len {w : World} {v : Pl.Ver} {a : Option Addr} {c : Nat} (h : VIn w v a c) : v.pre.length ≤ 9223372036854775807 := by
  have h1 := h.sl.hcap
  have h2 := h.sl.hmax
  unfold maxLen at h2
  omega
theorem VIn.below {w w' : World} {v : Pl.Ver} {a : Option Addr} {c : Nat} (h : VIn w v a c) {B : Nat} (hb : Below B w w') (hB : w.heap.size ≤ B) : VIn w' v a c := ⟨h.sl.below hb hB, h.ss⟩

theorem Box2.newAt {w : World} {r : Nat} {x y : Value} {t : TypeId} (h : r = w.heap.size) : Box2 (w.alloc (.cells #[x, y] t)) r x y := by subst h; exact Box2.new _ _ _ _
namespace Pl
theorem vrF_m1 {v : Ver} (h : inB v.maj 0 1000000000 = false) : vrF v = (3, 0) := by unfold vrF; rw [if_pos h]
theorem vrF_m2 {v : Ver} (h1 : inB v.maj 0 1000000000 = true) (h : inB v.min 0 1000000000 = false) : vrF v = (3, 1) := by unfold vrF; rw [if_neg (by rw [h1]; decide), if_pos h]
theorem vrF_m3 {v : Ver} (h1 : inB v.maj 0 1000000000 = true) (h2 : inB v.min 0 1000000000 = true) (h : inB v.pat 0 1000000000 = false) : vrF v = (3, 2) := by unfold vrF; rw [if_neg (by rw [h1]; decide), if_neg (by rw [h2]; decide), if_pos h]
theorem vrF_n {v : Ver} (h1 : inB v.maj 0 1000000000 = true) (h2 : inB v.min 0 1000000000 = true) (h3 : inB v.pat 0 1000000000 = true) (h : 4 < v.pre.length) : vrF v = (2, -1) := by unfold vrF; rw [if_neg (by rw [h1]; decide), if_neg (by rw [h2]; decide), if_neg (by rw [h3]; decide), if_pos h]
theorem vrF_pre {v : Ver} (h1 : inB v.maj 0 1000000000 = true) (h2 : inB v.min 0 1000000000 = true) (h3 : inB v.pat 0 1000000000 = true) (h : v.pre.length ≤ 4) : vrF v = preAt v.pre 0 := by unfold vrF; rw [if_neg (by rw [h1]; decide), if_neg (by rw [h2]; decide), if_neg (by rw [h3]; decide), if_neg (by omega)]
theorem preAt_drop {l : List ByteArray} {k : Nat} {F : Int × Int} (hk : k < l.length) (h : preAt (l.drop k) k = F) : (identB (bsl l[k]) = true → preAt (l.drop (k + 1)) (k + 1) = F) ∧ (identB (bsl l[k]) = false → F = (5, (k : Int))) := by
  rw [List.drop_eq_getElem_cons hk, preAt] at h
  refine ⟨fun e => ?_, fun e => ?_⟩
  · rwa [if_pos e] at h
  · rw [if_neg (by simp [e])] at h; exact h.symm
theorem preAt_last {l : List ByteArray} {k : Nat} {F : Int × Int} (hk : l.length ≤ k) (h : preAt (l.drop k) k = F) : F = (0, 0) := by
  rw [List.drop_of_length_le hk] at h; exact h.symm
theorem inF {n : Int} (h : inB n 0 1000000000 = false) : n < 0 ∨ 1000000000 < n := by have := inB_false.1 h; omega
theorem inT {n : Int} (h : inB n 0 1000000000 = true) : 0 ≤ n ∧ n ≤ 1000000000 := inB_true.1 h
end Pl

/-- The fault of a version as a value. -/
abbrev fltV (F : Int × Int) : Value := .agg #[.int .i64 F.1, .int .i64 F.2]

theorem rfault_at (a b : Int) (w : World) : Calls Tryd.prog 27 #[.int .i64 a, .int .i64 b] w fun e w' => e = .returned (.agg #[.int .i64 a, .int .i64 b]) ∧ w' = w.alloc (.cells #[.int .i64 a, .int .i64 b] 27) := by
  go_enter Tryd.func27, Tryd.ntmps27
  go_wp2
  go_returns
  exact ⟨rfl, rfl⟩
theorem lfault_at (a b : Int) (w : World) : Calls Tryd.prog 12 #[.int .i64 a, .int .i64 b] w fun e w' => e = .returned (.agg #[.int .i64 a, .int .i64 b]) ∧ w' = w.alloc (.cells #[.int .i64 a, .int .i64 b] 27) := by
  go_enter Tryd.func12, Tryd.ntmps12
  go_wp2
  go_returns
  exact ⟨rfl, rfl⟩

set_option maxHeartbeats 1000000 in
theorem VersionFault_any (v : Pl.Ver) (a : Option Addr) (c : Nat) (w : World) (h : VIn w v a c) :
    Calls Tryd.prog 10 #[verV v a c] w fun e w' => e = .returned (fltV (Pl.vrF v)) ∧ Below w.heap.size w w' := by
  obtain ⟨F, hF⟩ : ∃ F, Pl.vrF v = F := ⟨_, rfl⟩
  rw [hF]
  have hlen := h.len
  cases h1 : Pl.inB v.maj 0 1000000000 with
  | false =>
    rw [Pl.vrF_m1 h1] at hF
    subst hF
    go_enter Tryd.func10, Tryd.ntmps10
    go_wp2_with (first | (go_at_call 26; refine (rin_any _ _ _ _).mono ?_; rintro e w' ⟨rfl, rfl⟩) | (go_at_call 27; refine (rfault_at _ _ _).mono ?_; rintro e w' ⟨rfl, rfl⟩))
    go_returns
    exact ⟨rfl, by go_grown⟩
  | true =>
    cases h2 : Pl.inB v.min 0 1000000000 with
    | false =>
      rw [Pl.vrF_m2 h1 h2] at hF
      subst hF
      go_enter Tryd.func10, Tryd.ntmps10
      go_wp2_with (first | (go_at_call 26; refine (rin_any _ _ _ _).mono ?_; rintro e w' ⟨rfl, rfl⟩) | (go_at_call 27; refine (rfault_at _ _ _).mono ?_; rintro e w' ⟨rfl, rfl⟩))
      go_returns
      exact ⟨rfl, by go_grown⟩
    | true =>
      cases h3 : Pl.inB v.pat 0 1000000000 with
      | false =>
        rw [Pl.vrF_m3 h1 h2 h3] at hF
        subst hF
        go_enter Tryd.func10, Tryd.ntmps10
        go_wp2_with (first | (go_at_call 26; refine (rin_any _ _ _ _).mono ?_; rintro e w' ⟨rfl, rfl⟩) | (go_at_call 27; refine (rfault_at _ _ _).mono ?_; rintro e w' ⟨rfl, rfl⟩))
        go_returns
        exact ⟨rfl, by go_grown⟩
      | true =>
        by_cases h4 : 4 < v.pre.length
        · rw [Pl.vrF_n h1 h2 h3 h4] at hF
          subst hF
          go_enter Tryd.func10, Tryd.ntmps10
          go_wp2_with (first | (go_at_call 26; refine (rin_any _ _ _ _).mono ?_; rintro e w' ⟨rfl, rfl⟩) | (go_at_call 27; refine (rfault_at _ _ _).mono ?_; rintro e w' ⟨rfl, rfl⟩))
          go_returns
          exact ⟨rfl, by go_grown⟩
        · rw [Pl.vrF_pre h1 h2 h3 (by omega)] at hF
          have HF := Lib.hid hF
          clear hF
          go_enter Tryd.func10, Tryd.ntmps10
          go_wp2_with (first | (go_at_call 26; refine (rin_any _ _ _ _).mono ?_; rintro e w' ⟨rfl, rfl⟩) | (go_at_call 27; refine (rfault_at _ _ _).mono ?_; rintro e w' ⟨rfl, rfl⟩))
          go_loop [3] (fun i => ∃ k : Nat, k ≤ v.pre.length ∧ i = .int .i64 k ∧ Hid (Pl.preAt (v.pre.drop k) k = F)) (fun i => v.pre.length - (intOf i).toNat)
          case atStart => exact ⟨0, Nat.zero_le _, rfl, HF⟩
          case round =>
            obtain ⟨k, hk, rfl, hu⟩ := hrel
            by_cases hlt : k < v.pre.length
            · obtain ⟨b, off, rfl, hb, hc⟩ := h.sl.strAt (by omega)
              have c1 : w.cell? ⟨b, off + k, none⟩ = some (.string v.pre[k]) := hc k hlt
              have sz := h.ss _ (List.getElem_mem hlt)
              obtain ⟨g1, g2⟩ := Pl.preAt_drop hlt hu.out
              clear hc
              generalize v.pre[k] = x at *
              cases hi : Pl.identB (Pl.bsl x) with
              | true =>
                have E := Lib.hid (g1 hi)
                clear g1 g2
                go_wp2_with (first | (go_at_call 28; refine (Identifier_any _ _ sz).mono ?_; rintro e w' ⟨rfl, rfl⟩))
                go_round
                case rel => exact ⟨k + 1, hlt, by go_num, E⟩
                case measure => simp [intOf]; omega
              | false =>
                have E := Lib.hid (g2 hi)
                clear g1 g2 hu
                go_wp2_with (first | (go_at_call 28; refine (Identifier_any _ _ sz).mono ?_; rintro e w' ⟨rfl, rfl⟩) | (go_at_call 27; refine (rfault_at _ _ _).mono ?_; rintro e w' ⟨rfl, rfl⟩))
                go_returns
                exact ⟨by rw [E.out], by go_grown⟩
            · have E := Lib.hid (Pl.preAt_last (by omega) hu.out)
              clear hu
              go_wp2_with fail
              go_returns
              exact ⟨by rw [E.out], by go_grown⟩

theorem idx3_0 (a b d : Int) (w : World) : (Instr.index 50 (.agg #[.int .i64 a, .int .i64 b, .int .i64 d]) (.int .i64 0)).run Tryd.prog w = .ok (.int .i64 a) w := by kernel_rfl
theorem idx3_1 (a b d : Int) (w : World) : (Instr.index 50 (.agg #[.int .i64 a, .int .i64 b, .int .i64 d]) (.int .i64 1)).run Tryd.prog w = .ok (.int .i64 b) w := by kernel_rfl
theorem idx3_2 (a b d : Int) (w : World) : (Instr.index 50 (.agg #[.int .i64 a, .int .i64 b, .int .i64 d]) (.int .i64 2)).run Tryd.prog w = .ok (.int .i64 d) w := by kernel_rfl
set_option maxRecDepth 100000 in
set_option maxHeartbeats 1000000 in
theorem Validate_any (v : Pl.Ver) (a : Option Addr) (c : Nat) (w : World) (h : VIn w v a c) :
    Calls Tryd.prog 11 #[verV v a c] w fun e w' => e = .returned (fltV (Pl.vrF v)) ∧ Below w.heap.size w w' := by
  obtain ⟨F, hF⟩ : ∃ F, Pl.vrF v = F := ⟨_, rfl⟩
  rw [hF]
  have HF := Lib.hid hF
  clear hF
  have hlen := h.len
  have H := Lib.hid h
  clear h
  have idx0 := idx3_0
  have idx1 := idx3_1
  have idx2 := idx3_2
  go_enter Tryd.func11, Tryd.ntmps11
  go_wp2_with fail
  go_loop [14] (fun x => ∃ j : Nat, j ≤ 3 ∧ x = .int .i64 (j : Int) ∧ (0 < j → Pl.inB v.maj 0 1000000000 = true) ∧ (1 < j → Pl.inB v.min 0 1000000000 = true) ∧ (2 < j → Pl.inB v.pat 0 1000000000 = true)) (fun x => 3 - (intOf x).toNat)
  case atStart => exact ⟨0, by decide, rfl, by omega, by omega, by omega⟩
  case round =>
    obtain ⟨j, hj, rfl, j0, j1, j2⟩ := hrel
    match j, hj with
    | 0, _ =>
      clear j0 j1 j2
      cases h1 : Pl.inB v.maj 0 1000000000 with
      | false =>
        have E := Lib.hid (HF.out.symm.trans (Pl.vrF_m1 h1))
        have b1 := Pl.inF h1
        go_wp2_with fail
        all_goals (go_returns; exact ⟨by rw [E.out], by go_grown⟩)
      | true =>
        have b1 := Pl.inT h1
        go_wp2_with fail
        go_round
        case rel => exact ⟨1, by decide, by go_num, by simp, by simp, by simp⟩
        case measure => simp [intOf]
    | 1, _ =>
      have h1 := j0 (by decide)
      clear j0 j1 j2
      cases h2 : Pl.inB v.min 0 1000000000 with
      | false =>
        have E := Lib.hid (HF.out.symm.trans (Pl.vrF_m2 h1 h2))
        have b1 := Pl.inF h2
        go_wp2_with fail
        all_goals (go_returns; exact ⟨by rw [E.out], by go_grown⟩)
      | true =>
        have b1 := Pl.inT h2
        go_wp2_with fail
        go_round
        case rel => exact ⟨2, by decide, by go_num, fun _ => h1, by simp, by simp⟩
        case measure => simp [intOf]
    | 2, _ =>
      have h1 := j0 (by decide)
      have h2 := j1 (by decide)
      clear j0 j1 j2
      cases h3 : Pl.inB v.pat 0 1000000000 with
      | false =>
        have E := Lib.hid (HF.out.symm.trans (Pl.vrF_m3 h1 h2 h3))
        have b1 := Pl.inF h3
        go_wp2_with fail
        all_goals (go_returns; exact ⟨by rw [E.out], by go_grown⟩)
      | true =>
        have b1 := Pl.inT h3
        go_wp2_with fail
        go_round
        case rel => exact ⟨3, by decide, by go_num, fun _ => h1, fun _ => h2, by simp⟩
        case measure => simp [intOf]
    | 3, _ =>
      have h1 := j0 (by decide)
      have h2 := j1 (by decide)
      have h3 := j2 (by decide)
      clear j0 j1 j2
      by_cases h4 : 4 < v.pre.length
      · have E := Lib.hid (HF.out.symm.trans (Pl.vrF_n h1 h2 h3 h4))
        clear h1 h2 h3
        go_wp2_with fail
        go_returns
        exact ⟨by rw [E.out], by go_grown⟩
      · have HP := Lib.hid ((Pl.vrF_pre h1 h2 h3 (by omega)).symm.trans HF.out)
        clear h1 h2 h3 HF
        go_wp2_with fail
        go_loopw [35] (fun i wr => ∃ k : Nat, k ≤ v.pre.length ∧ i = .int .i64 k ∧ Hid (Pl.preAt (v.pre.drop k) k = F) ∧ Below w.heap.size w wr ∧ Hid (Box2 wr (w.heap.size + 1) (.int .i64 0) (.int .i64 0))) (fun i _ => v.pre.length - (intOf i).toNat)
        case atStart => exact ⟨0, Nat.zero_le _, rfl, HP, by go_grown, Lib.hid (Box2.newAt (by simp))⟩
        case round =>
          obtain ⟨k, hk, rfl, hu, hbw, hbx⟩ := hrel
          have sw := hbw.size
          by_cases hlt : k < v.pre.length
          · obtain ⟨b, off, rfl, hb, hc⟩ := H.out.sl.strAt (by omega)
            have c1 : wr.cell? ⟨b, off + k, none⟩ = some (.string v.pre[k]) := by rw [hbw.cell (p := ⟨b, off + k, none⟩) hb]; exact hc k hlt
            have sz := H.out.ss _ (List.getElem_mem hlt)
            obtain ⟨g1, g2⟩ := Pl.preAt_drop hlt hu.out
            clear hc
            generalize v.pre[k] = x at *
            cases hi : Pl.identB (Pl.bsl x) with
            | true =>
              have E := Lib.hid (g1 hi)
              clear g1 g2
              go_wp2_with fail
              refine (identifier_any _ _ sz).mono ?_
              rintro e w1 ⟨rfl, b1⟩
              have B1 := bcall hbw b1 hbw.size
              have hx1 := Lib.hid (hbx.out.below b1 hbx.out.lt)
              clear b1 c1
              go_wp2_with fail
              go_roundw
              case rel => exact ⟨k + 1, hlt, by go_num, E, B1, hx1⟩
              case measure => simp [intOf]; omega
            | false =>
              have E := Lib.hid (g2 hi)
              clear g1 g2 hu
              go_wp2_with fail
              refine (identifier_any _ _ sz).mono ?_
              rintro e w1 ⟨rfl, b1⟩
              have B1 := bcall hbw b1 hbw.size
              obtain ⟨x0, x1, f0, f1, l1⟩ := hbx.out.below b1 hbx.out.lt
              clear b1 c1
              go_wp2_with fail
              have RB := (Box2.mk x0 x1 f0 f1 l1).set (.int .i64 5) (.int .i64 k)
              obtain ⟨RB0, RB1, -, -, -⟩ := RB
              refine bodyPost_ret (v := .agg #[.int .i64 5, .int .i64 k]) (by simp [results, Tryd.results11, go_sem, RB0, RB1]) rfl ⟨by rw [E.out], by go_grown⟩
          · have E := Lib.hid (Pl.preAt_last (by omega) hu.out)
            obtain ⟨x0, x1, f0, f1, l1⟩ := hbx.out
            clear hu
            go_wp2_with fail
            have RB := (Box2.mk x0 x1 f0 f1 l1).set (.int .i64 0) (.int .i64 0)
            obtain ⟨RB0, RB1, -, -, -⟩ := RB
            refine bodyPost_ret (v := .agg #[.int .i64 0, .int .i64 0]) (by simp [results, Tryd.results11, go_sem, RB0, RB1]) rfl ⟨by rw [E.out], by go_grown⟩
end Go.Proofs.YthnhajihkdgifaaDoor
