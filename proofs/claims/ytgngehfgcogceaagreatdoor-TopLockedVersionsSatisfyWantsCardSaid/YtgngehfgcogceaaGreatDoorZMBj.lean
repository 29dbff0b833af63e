/- Texts joined: Be Bf Bg Bh Km Bi Bj. -/
import Derived.Test.YtgngehfgcogceaaGreatDoorZMKb
import Derived.Test.YtgngehfgcogceaaGreatDoorZMKl
import Derived.Test.YtgngehfgcogceaaGreatDoorZMPo
section
/- Contracts: the order of identifiers, by the program and by the reference; lists of strings compared. -/
namespace Go.Proofs.YtgngehfgcogceaaGreatDoor
open Go.RowKit

def strVals (l : List ByteArray) : List Value := l.map Value.string
theorem strVals_get (l : List ByteArray) (k : Nat) (h : k < l.length) : (strVals l)[k]? = some (.string l[k]) := by simp [strVals, h]
theorem strVals_append (l m : List ByteArray) : strVals (l ++ m) = strVals l ++ strVals m := by simp [strVals]
namespace Pl
theorem idCmp_dd {a b : List UInt8} (h1 : digsB a = true) (h2 : digsB b = true) : idCmp a b = orL [sgn (a.length : Int) (b.length : Int), Lib.compareBytes a b] := by
  unfold idCmp idKey lexP
  simp only [h1, h2, if_true, sgn_self, orL]
  split
  · split <;> simp [*]
  · rfl
theorem idCmp_dn {a b : List UInt8} (h1 : digsB a = true) (h2 : digsB b = false) : idCmp a b = -1 := by
  unfold idCmp idKey lexP
  simp [h1, h2, sgn]
theorem idCmp_nd {a b : List UInt8} (h1 : digsB a = false) (h2 : digsB b = true) : idCmp a b = 1 := by
  unfold idCmp idKey lexP
  simp [h1, h2, sgn]
theorem idCmp_nn {a b : List UInt8} (h1 : digsB a = false) (h2 : digsB b = false) : idCmp a b = Lib.compareBytes a b := by
  unfold idCmp idKey lexP
  simp [h1, h2, sgn]
end Pl

theorem Compare_any (a b : ByteArray) (w : World) : Calls Tryz.prog 90 #[.string a, .string b] w fun e w' => e = .returned (.int .i64 (Lib.compareBytes (Pl.bsl a) (Pl.bsl b))) ∧ w = w' :=
  (Tryz.strings_Compare a b w).mono fun _ _ ⟨h1, h2⟩ => ⟨h1, h2.symm⟩
theorem cmpInt_any (a b : Int) (w : World) : Calls Tryz.prog 68 #[.int .i64 a, .int .i64 b] w fun e w' => e = .returned (.int .i64 (Pl.sgn a b)) ∧ w = w' :=
  (Tryz.cmp_Compare_int a b w).mono fun _ _ ⟨h1, h2⟩ => ⟨h1, h2.symm⟩

set_option maxHeartbeats 1000000 in
theorem compareIdentifiers_any (a b : ByteArray) (w : World) (ha : Pl.asciiB (Pl.bsl a) = true) (hb : Pl.asciiB (Pl.bsl b) = true) (_ : a.size ≤ 9223372036854775807) (_ : b.size ≤ 9223372036854775807) :
    Calls Tryz.prog 70 #[.string a, .string b] w fun e w' => e = .returned (.int .i64 (Pl.idc a b)) ∧ Below w.heap.size w w' := by
  have HA := Lib.hid ha
  have HB := Lib.hid hb
  clear ha hb
  have head : ∀ {P : Int}, Pl.idc a b = P → Hid (P = Pl.idc a b) := fun h => Lib.hid h.symm
  cases d1 : Pl.digsB (Pl.bsl a) <;> cases d2 : Pl.digsB (Pl.bsl b)
  · have E := head (Pl.idCmp_nn d1 d2)
    clear head
    go_enter Tryz.func70, Tryz.ntmps70
    go_wp2_with fail
    refine (numeric_any _ _ HA.out).mono ?_
    rintro e w1 ⟨rfl, b1⟩
    go_wp2_with fail
    refine (numeric_any _ _ HB.out).mono ?_
    rintro e w2 ⟨rfl, b2⟩
    go_wp2_with (go_at_call 90; refine (Compare_any _ _ _).mono ?_; rintro e w' ⟨rfl, rfl⟩)
    go_ret
    exact ⟨ret_int E.out, bcall b1 b2 b1.size⟩
  · have E := head (Pl.idCmp_nd d1 d2)
    clear head
    go_enter Tryz.func70, Tryz.ntmps70
    go_wp2_with fail
    refine (numeric_any _ _ HA.out).mono ?_
    rintro e w1 ⟨rfl, b1⟩
    go_wp2_with fail
    refine (numeric_any _ _ HB.out).mono ?_
    rintro e w2 ⟨rfl, b2⟩
    go_wp2_with fail
    go_ret
    exact ⟨ret_int E.out, bcall b1 b2 b1.size⟩
  · have E := head (Pl.idCmp_dn d1 d2)
    clear head
    go_enter Tryz.func70, Tryz.ntmps70
    go_wp2_with fail
    refine (numeric_any _ _ HA.out).mono ?_
    rintro e w1 ⟨rfl, b1⟩
    go_wp2_with fail
    refine (numeric_any _ _ HB.out).mono ?_
    rintro e w2 ⟨rfl, b2⟩
    go_wp2_with fail
    go_ret
    exact ⟨ret_int E.out, bcall b1 b2 b1.size⟩
  · have E := head (Pl.idCmp_dd d1 d2)
    clear head
    go_enter Tryz.func70, Tryz.ntmps70
    go_wp2_with fail
    refine (numeric_any _ _ HA.out).mono ?_
    rintro e w1 ⟨rfl, b1⟩
    go_wp2_with fail
    refine (numeric_any _ _ HB.out).mono ?_
    rintro e w2 ⟨rfl, b2⟩
    have B2 := bcall b1 b2 b1.size
    go_wp2_with (first | (go_at_call 90; refine (Compare_any _ _ _).mono ?_; rintro e w' ⟨rfl, rfl⟩) | (go_at_call 68; refine (cmpInt_any _ _ _).mono ?_; rintro e w' ⟨rfl, rfl⟩))
    refine (Or_any [Pl.sgn (a.size : Int) (b.size : Int), Lib.compareBytes (Pl.bsl a) (Pl.bsl b)] _ _ _ (Sl.fresh (C := intVals [Pl.sgn (a.size : Int) (b.size : Int), Lib.compareBytes (Pl.bsl a) (Pl.bsl b)]) rfl rfl (Nat.le_refl _) (by unfold maxLen; simp)) (by simp)).mono ?_
    rintro e w' ⟨rfl, rfl⟩
    go_wp2_with fail
    go_ret
    exact ⟨ret_int E.out, by have h := B2.size; exact B2.alloc h _⟩
end Go.Proofs.YtgngehfgcogceaaGreatDoor

end
section
/- Contracts: lists of identifiers compared by the library; identifiers compared by the reference. -/
namespace Go.Proofs.YtgngehfgcogceaaGreatDoor
open Go.RowKit

/-- Strings in memory, place by place. -/
theorem Sl.strAt {w : World} {oa : Option Addr} {cap : Nat} {xs : List ByteArray} (h : Sl w oa xs.length cap 1 (strVals xs)) (h0 : 0 < xs.length) : ∃ b off, oa = some ⟨b, off, none⟩ ∧ b < w.heap.size ∧ ∀ k (hk : k < xs.length), w.cell? ⟨b, off + k, none⟩ = some (.string xs[k]) := by
  rcases h.mem with h1 | ⟨b, off, h1, h2, h3⟩
  · have : xs = [] := by simpa [strVals] using h1
    subst this; simp at h0
  · exact ⟨b, off, h1, h2, fun k hk => h3 k _ (strVals_get xs k hk)⟩

set_option maxHeartbeats 1000000 in
theorem CompareFunc_any (a b : List ByteArray) (oa ob : Option Addr) (ca cb : Nat) (w : World) (ha : Sl w oa a.length ca 1 (strVals a)) (hb : Sl w ob b.length cb 1 (strVals b)) (la : a.length ≤ 9223372036854775807) (lb : b.length ≤ 9223372036854775807)
    (va : ∀ s ∈ a, Pl.asciiB (Pl.bsl s) = true ∧ s.size ≤ 9223372036854775807) (vb : ∀ s ∈ b, Pl.asciiB (Pl.bsl s) = true ∧ s.size ≤ 9223372036854775807) :
    Calls Tryz.prog 69 #[.slice oa a.length ca, .slice ob b.length cb, .func (.func 70) #[] #[]] w fun e w' => e = .returned (.int .i64 (Pl.lexL Pl.idc a b)) ∧ Below w.heap.size w w' := by
  have VA := Lib.hid va
  have VB := Lib.hid vb
  clear va vb
  go_enter Tryz.func69, Tryz.ntmps69
  go_wp2
  go_loopw [13] (fun i wr => ∃ k : Nat, k ≤ a.length ∧ k ≤ b.length ∧ i = .int .i64 k ∧ Hid (Pl.EqTo Pl.idc a b k) ∧ Below w.heap.size w wr) (fun i _ => a.length - (intOf i).toNat)
  case atStart => exact ⟨0, Nat.zero_le _, Nat.zero_le _, rfl, Pl.EqTo.zero _ _ _, Below.refl _ _⟩
  case round =>
    obtain ⟨k, hk, hkb, rfl, hu, hbw⟩ := hrel
    have sw := hbw.size
    by_cases hlt : k < a.length
    · obtain ⟨ba, offa, rfl, hla, hca⟩ := ha.strAt (by omega)
      have c1 : wr.cell? ⟨ba, offa + k, none⟩ = some (.string a[k]) := by rw [hbw.cell (p := ⟨ba, offa + k, none⟩) hla]; exact hca k hlt
      by_cases hlt2 : k < b.length
      · obtain ⟨bb, offb, rfl, hlb, hcb⟩ := hb.strAt (by omega)
        have c2 : wr.cell? ⟨bb, offb + k, none⟩ = some (.string b[k]) := by rw [hbw.cell (p := ⟨bb, offb + k, none⟩) hlb]; exact hcb k hlt2
        have v1 := Lib.hid (VA.out _ (List.getElem_mem hlt))
        have v2 := Lib.hid (VB.out _ (List.getElem_mem hlt2))
        have st := Lib.hid (fun h => hu.out.succ hlt hlt2 h)
        have en := Lib.hid (fun h => Pl.lexL_at hu.out hlt hlt2 h)
        clear hca hcb
        generalize a[k] = x at *
        generalize b[k] = y at *
        by_cases hz : Pl.idc x y = 0
        · have t1 := bneF hz
          have t2 := beqT hz
          have st := Lib.hid (st.out hz)
          clear en hz
          go_wp2_with (go_at_call 70; refine (compareIdentifiers_any x y _ v1.out.1 v2.out.1 v1.out.2 v2.out.2).mono ?_; rintro e w1 ⟨rfl, b1⟩)
          go_roundw
          case rel => exact ⟨k + 1, hlt, hlt2, by go_num, st, bcall hbw b1 hbw.size⟩
          case measure => simp [intOf]; omega
        · have t1 := bneT hz
          have t2 := beqF hz
          have en := Lib.hid (en.out hz)
          clear st hz
          go_wp2_with (go_at_call 70; refine (compareIdentifiers_any x y _ v1.out.1 v2.out.1 v1.out.2 v2.out.2).mono ?_; rintro e w1 ⟨rfl, b1⟩)
          go_ret
          exact ⟨ret_int en.out.symm, bcall hbw b1 hbw.size⟩
      · have E := Lib.hid (show Pl.lexL Pl.idc a b = 1 by
          rw [Pl.lexL_end hu.out hk hkb (by omega)]; exact Pl.sgn_gt (by omega))
        clear hca
        generalize a[k] = x at *
        go_wp2_with fail
        go_ret
        exact ⟨ret_int E.out.symm, hbw⟩
    · have E := Lib.hid (show Pl.lexL Pl.idc a b = Pl.sgn (a.length : Int) (b.length : Int) from Pl.lexL_end hu.out hk hkb (by omega))
      have hab : a.length ≤ b.length := by omega
      by_cases hl : a.length < b.length
      · rw [Pl.sgn_lt (by omega)] at E
        go_wp2_with fail
        go_ret
        exact ⟨ret_int E.out.symm, hbw⟩
      · rw [Pl.sgn_zero.2 (by omega)] at E
        go_wp2_with fail
        go_ret
        exact ⟨ret_int E.out.symm, hbw⟩

namespace Pl
end Pl

end Go.Proofs.YtgngehfgcogceaaGreatDoor

end
section
/- Contracts: the fault of a version, by the program and by the reference. -/
namespace Go.Proofs.YtgngehfgcogceaaGreatDoor
open Go.RowKit

/-- A version as a value. -/
abbrev verV (v : Pl.Ver) (a : Option Addr) (c : Nat) : Value := .agg #[.int .i64 v.maj, .int .i64 v.min, .int .i64 v.pat, .slice a v.pre.length c]
/-- Its identifiers lie in memory. -/
structure VIn (w : World) (v : Pl.Ver) (a : Option Addr) (c : Nat) : Prop where
  sl : Sl w a v.pre.length c 1 (strVals v.pre)
  ss : ∀ s ∈ v.pre, s.size ≤ 9223372036854775807
theorem VIn.len {w : World} {v : Pl.Ver} {a : Option Addr} {c : Nat} (h : VIn w v a c) : v.pre.length ≤ 9223372036854775807 := by
  have h1 := h.sl.hcap
  have h2 := h.sl.hmax
  unfold maxLen at h2
  omega
theorem VIn.below {w w' : World} {v : Pl.Ver} {a : Option Addr} {c : Nat} (h : VIn w v a c) {B : Nat} (hb : Below B w w') (hB : w.heap.size ≤ B) : VIn w' v a c := ⟨h.sl.below hb hB, h.ss⟩

theorem Box2.newAt {w : World} {r : Nat} {x y : Value} {t : TypeId} (h : r = w.heap.size) : Box2 (w.alloc (.cells #[x, y] t)) r x y := by subst h; exact Box2.new _ _ _ _
namespace Pl
theorem vrF_m1 {v : Ver} (h : inB v.maj 0 1000000000 = false) : vrF v = (3, 0) := by unfold vrF; rw [if_pos h]
theorem vrF_m2 {v : Ver} (h1 : inB v.maj 0 1000000000 = true) (h : inB v.min 0 1000000000 = false) : vrF v = (3, 1) := by unfold vrF; rw [if_neg (by rw [h1]; decide), if_pos h]
theorem vrF_m3 {v : Ver} (h1 : inB v.maj 0 1000000000 = true) (h2 : inB v.min 0 1000000000 = true) (h : inB v.pat 0 1000000000 = false) : vrF v = (3, 2) := by unfold vrF; rw [if_neg (by rw [h1]; decide), if_neg (by rw [h2]; decide), if_pos h]
theorem vrF_n {v : Ver} (h1 : inB v.maj 0 1000000000 = true) (h2 : inB v.min 0 1000000000 = true) (h3 : inB v.pat 0 1000000000 = true) (h : 4 < v.pre.length) : vrF v = (2, -1) := by unfold vrF; rw [if_neg (by rw [h1]; decide), if_neg (by rw [h2]; decide), if_neg (by rw [h3]; decide), if_pos h]
theorem vrF_pre {v : Ver} (h1 : inB v.maj 0 1000000000 = true) (h2 : inB v.min 0 1000000000 = true) (h3 : inB v.pat 0 1000000000 = true) (h : v.pre.length ≤ 4) : vrF v = preAt v.pre 0 := by unfold vrF; rw [if_neg (by rw [h1]; decide), if_neg (by rw [h2]; decide), if_neg (by rw [h3]; decide), if_neg (by omega)]
theorem preAt_drop {l : List ByteArray} {k : Nat} {F : Int × Int} (hk : k < l.length) (h : preAt (l.drop k) k = F) : (identB (bsl l[k]) = true → preAt (l.drop (k + 1)) (k + 1) = F) ∧ (identB (bsl l[k]) = false → F = (5, (k : Int))) := by
  rw [List.drop_eq_getElem_cons hk, preAt] at h
  refine ⟨fun e => ?_, fun e => ?_⟩
  · rwa [if_pos e] at h
  · rw [if_neg (by simp [e])] at h; exact h.symm
theorem preAt_last {l : List ByteArray} {k : Nat} {F : Int × Int} (hk : l.length ≤ k) (h : preAt (l.drop k) k = F) : F = (0, 0) := by
  rw [List.drop_of_length_le hk] at h; exact h.symm
theorem inF {n : Int} (h : inB n 0 1000000000 = false) : n < 0 ∨ 1000000000 < n := by have := inB_false.1 h; omega
theorem inT {n : Int} (h : inB n 0 1000000000 = true) : 0 ≤ n ∧ n ≤ 1000000000 := inB_true.1 h
end Pl

/-- The fault of a version as a value. -/
abbrev fltV (F : Int × Int) : Value := .agg #[.int .i64 F.1, .int .i64 F.2]

theorem idx3_0 (a b d : Int) (w : World) : (Instr.index 106 (.agg #[.int .i64 a, .int .i64 b, .int .i64 d]) (.int .i64 0)).run Tryz.prog w = .ok (.int .i64 a) w := by kernel_rfl
theorem idx3_1 (a b d : Int) (w : World) : (Instr.index 106 (.agg #[.int .i64 a, .int .i64 b, .int .i64 d]) (.int .i64 1)).run Tryz.prog w = .ok (.int .i64 b) w := by kernel_rfl
theorem idx3_2 (a b d : Int) (w : World) : (Instr.index 106 (.agg #[.int .i64 a, .int .i64 b, .int .i64 d]) (.int .i64 2)).run Tryz.prog w = .ok (.int .i64 d) w := by kernel_rfl
set_option maxRecDepth 100000 in
set_option maxHeartbeats 1000000 in
theorem Validate_any (v : Pl.Ver) (a : Option Addr) (c : Nat) (w : World) (h : VIn w v a c) :
    Calls Tryz.prog 26 #[verV v a c] w fun e w' => e = .returned (fltV (Pl.vrF v)) ∧ Below w.heap.size w w' := by
  obtain ⟨F, hF⟩ : ∃ F, Pl.vrF v = F := ⟨_, rfl⟩
  rw [hF]
  have HF := Lib.hid hF
  clear hF
  have hlen := h.len
  have H := Lib.hid h
  clear h
  have idx0 := idx3_0
  have idx1 := idx3_1
  have idx2 := idx3_2
  go_enter Tryz.func26, Tryz.ntmps26
  go_wp2_with fail
  go_loop [14] (fun x => ∃ j : Nat, j ≤ 3 ∧ x = .int .i64 (j : Int) ∧ (0 < j → Pl.inB v.maj 0 1000000000 = true) ∧ (1 < j → Pl.inB v.min 0 1000000000 = true) ∧ (2 < j → Pl.inB v.pat 0 1000000000 = true)) (fun x => 3 - (intOf x).toNat)
  case atStart => exact ⟨0, by decide, rfl, by omega, by omega, by omega⟩
  case round =>
    obtain ⟨j, hj, rfl, j0, j1, j2⟩ := hrel
    match j, hj with
    | 0, _ =>
      clear j0 j1 j2
      cases h1 : Pl.inB v.maj 0 1000000000 with
      | false =>
        have E := Lib.hid (HF.out.symm.trans (Pl.vrF_m1 h1))
        have b1 := Pl.inF h1
        go_wp2_with fail
        all_goals (go_returns; exact ⟨by rw [E.out], by go_grown⟩)
      | true =>
        have b1 := Pl.inT h1
        go_wp2_with fail
        go_round
        case rel => exact ⟨1, by decide, by go_num, by simp, by simp, by simp⟩
        case measure => simp [intOf]
    | 1, _ =>
      have h1 := j0 (by decide)
      clear j0 j1 j2
      cases h2 : Pl.inB v.min 0 1000000000 with
      | false =>
        have E := Lib.hid (HF.out.symm.trans (Pl.vrF_m2 h1 h2))
        have b1 := Pl.inF h2
        go_wp2_with fail
        all_goals (go_returns; exact ⟨by rw [E.out], by go_grown⟩)
      | true =>
        have b1 := Pl.inT h2
        go_wp2_with fail
        go_round
        case rel => exact ⟨2, by decide, by go_num, fun _ => h1, by simp, by simp⟩
        case measure => simp [intOf]
    | 2, _ =>
      have h1 := j0 (by decide)
      have h2 := j1 (by decide)
      clear j0 j1 j2
      cases h3 : Pl.inB v.pat 0 1000000000 with
      | false =>
        have E := Lib.hid (HF.out.symm.trans (Pl.vrF_m3 h1 h2 h3))
        have b1 := Pl.inF h3
        go_wp2_with fail
        all_goals (go_returns; exact ⟨by rw [E.out], by go_grown⟩)
      | true =>
        have b1 := Pl.inT h3
        go_wp2_with fail
        go_round
        case rel => exact ⟨3, by decide, by go_num, fun _ => h1, fun _ => h2, by simp⟩
        case measure => simp [intOf]
    | 3, _ =>
      have h1 := j0 (by decide)
      have h2 := j1 (by decide)
      have h3 := j2 (by decide)
      clear j0 j1 j2
      by_cases h4 : 4 < v.pre.length
      · have E := Lib.hid (HF.out.symm.trans (Pl.vrF_n h1 h2 h3 h4))
        clear h1 h2 h3
        go_wp2_with fail
        go_returns
        exact ⟨by rw [E.out], by go_grown⟩
      · have HP := Lib.hid ((Pl.vrF_pre h1 h2 h3 (by omega)).symm.trans HF.out)
        clear h1 h2 h3 HF
        go_wp2_with fail
        go_loopw [35] (fun i wr => ∃ k : Nat, k ≤ v.pre.length ∧ i = .int .i64 k ∧ Hid (Pl.preAt (v.pre.drop k) k = F) ∧ Below w.heap.size w wr ∧ Hid (Box2 wr (w.heap.size + 1) (.int .i64 0) (.int .i64 0))) (fun i _ => v.pre.length - (intOf i).toNat)
        case atStart => exact ⟨0, Nat.zero_le _, rfl, HP, by go_grown, Lib.hid (Box2.newAt (by simp))⟩
        case round =>
          obtain ⟨k, hk, rfl, hu, hbw, hbx⟩ := hrel
          have sw := hbw.size
          by_cases hlt : k < v.pre.length
          · obtain ⟨b, off, rfl, hb, hc⟩ := H.out.sl.strAt (by omega)
            have c1 : wr.cell? ⟨b, off + k, none⟩ = some (.string v.pre[k]) := by rw [hbw.cell (p := ⟨b, off + k, none⟩) hb]; exact hc k hlt
            have sz := H.out.ss _ (List.getElem_mem hlt)
            obtain ⟨g1, g2⟩ := Pl.preAt_drop hlt hu.out
            clear hc
            generalize v.pre[k] = x at *
            cases hi : Pl.identB (Pl.bsl x) with
            | true =>
              have E := Lib.hid (g1 hi)
              clear g1 g2
              go_wp2_with fail
              refine (identifier_any _ _ sz).mono ?_
              rintro e w1 ⟨rfl, b1⟩
              have B1 := bcall hbw b1 hbw.size
              have hx1 := Lib.hid (hbx.out.below b1 hbx.out.lt)
              clear b1 c1
              go_wp2_with fail
              go_roundw
              case rel => exact ⟨k + 1, hlt, by go_num, E, B1, hx1⟩
              case measure => simp [intOf]; omega
            | false =>
              have E := Lib.hid (g2 hi)
              clear g1 g2 hu
              go_wp2_with fail
              refine (identifier_any _ _ sz).mono ?_
              rintro e w1 ⟨rfl, b1⟩
              have B1 := bcall hbw b1 hbw.size
              obtain ⟨x0, x1, f0, f1, l1⟩ := hbx.out.below b1 hbx.out.lt
              clear b1 c1
              go_wp2_with fail
              have RB := (Box2.mk x0 x1 f0 f1 l1).set (.int .i64 5) (.int .i64 k)
              obtain ⟨RB0, RB1, -, -, -⟩ := RB
              refine bodyPost_ret (v := .agg #[.int .i64 5, .int .i64 k]) (by simp [results, Tryz.results26, go_sem, RB0, RB1]) rfl ⟨by rw [E.out], by go_grown⟩
          · have E := Lib.hid (Pl.preAt_last (by omega) hu.out)
            obtain ⟨x0, x1, f0, f1, l1⟩ := hbx.out
            clear hu
            go_wp2_with fail
            have RB := (Box2.mk x0 x1 f0 f1 l1).set (.int .i64 0) (.int .i64 0)
            obtain ⟨RB0, RB1, -, -, -⟩ := RB
            refine bodyPost_ret (v := .agg #[.int .i64 0, .int .i64 0]) (by simp [results, Tryz.results26, go_sem, RB0, RB1]) rfl ⟨by rw [E.out], by go_grown⟩
end Go.Proofs.YtgngehfgcogceaaGreatDoor

end
section
/- Contracts: the order of versions, by the program and by the reference. -/
namespace Go.Proofs.YtgngehfgcogceaaGreatDoor
open Go.RowKit

namespace Pl
theorem vc1 {a b : Ver} (h : a.maj ≠ b.maj) : verCmp a b = sgn a.maj b.maj := by
  rw [verCmp_eq, if_neg (fun e => h (sgn_zero.1 e))]
theorem vc2 {a b : Ver} (h1 : a.maj = b.maj) (h : a.min ≠ b.min) : verCmp a b = sgn a.min b.min := by
  rw [verCmp_eq, if_pos (sgn_zero.2 h1), if_neg (fun e => h (sgn_zero.1 e))]
theorem vc3 {a b : Ver} (h1 : a.maj = b.maj) (h2 : a.min = b.min) (h : a.pat ≠ b.pat) : verCmp a b = sgn a.pat b.pat := by
  rw [verCmp_eq, if_pos (sgn_zero.2 h1), if_pos (sgn_zero.2 h2), if_neg (fun e => h (sgn_zero.1 e))]
theorem vc4 {a b : Ver} (h1 : a.maj = b.maj) (h2 : a.min = b.min) (h3 : a.pat = b.pat) : verCmp a b = if a.pre.length = 0 ∨ b.pre.length = 0 then sgn (b.pre.length : Int) (a.pre.length : Int) else lexL idc a.pre b.pre := by
  rw [verCmp_eq, if_pos (sgn_zero.2 h1), if_pos (sgn_zero.2 h2), if_pos (sgn_zero.2 h3)]
  by_cases ha : a.pre.length = 0
  · by_cases hb : b.pre.length = 0
    · rw [if_pos ha, if_pos hb, if_pos (sgn_self 1), if_pos (.inl ha), List.length_eq_zero_iff.1 ha, List.length_eq_zero_iff.1 hb]; rfl
    · rw [if_pos ha, if_neg hb, if_neg (by decide), if_pos (.inl ha), sgn_gt (show (0 : Int) < 1 by omega), sgn_gt (by omega)]
  · by_cases hb : b.pre.length = 0
    · rw [if_neg ha, if_pos hb, if_neg (by decide), if_pos (.inr hb), sgn_lt (show (0 : Int) < 1 by omega), sgn_lt (by omega)]
    · rw [if_neg ha, if_neg hb, if_pos (sgn_self 0), if_neg (by omega)]
/-- The three numbers, compared one after the other. -/
def numC (a b : Ver) : Int := orL [sgn a.maj b.maj, sgn a.min b.min, sgn a.pat b.pat]
theorem numC_cases (a b : Ver) : numC a b ≠ 0 ∧ verCmp a b = numC a b ∨ numC a b = 0 ∧ a.maj = b.maj ∧ a.min = b.min ∧ a.pat = b.pat := by
  unfold numC
  simp only [orL]
  by_cases h1 : a.maj = b.maj
  · rw [if_pos (sgn_zero.2 h1)]
    by_cases h2 : a.min = b.min
    · rw [if_pos (sgn_zero.2 h2)]
      by_cases h3 : a.pat = b.pat
      · rw [if_pos (sgn_zero.2 h3)]; exact .inr ⟨rfl, h1, h2, h3⟩
      · rw [if_neg (fun e => h3 (sgn_zero.1 e))]; exact .inl ⟨fun e => h3 (sgn_zero.1 e), vc3 h1 h2 h3⟩
    · rw [if_neg (fun e => h2 (sgn_zero.1 e))]; exact .inl ⟨fun e => h2 (sgn_zero.1 e), vc2 h1 h2⟩
  · rw [if_neg (fun e => h1 (sgn_zero.1 e))]; exact .inl ⟨fun e => h1 (sgn_zero.1 e), vc1 h1⟩
end Pl

/-- The identifiers of a version in memory are identifiers. -/
structure VOk (w : World) (v : Pl.Ver) (a : Option Addr) (c : Nat) : Prop where
  mem : VIn w v a c
  ok : ∀ s ∈ v.pre, Pl.identB (Pl.bsl s) = true
  n : v.pre.length ≤ 4
theorem VOk.below {w w' : World} {v : Pl.Ver} {a : Option Addr} {c : Nat} (h : VOk w v a c) {B : Nat} (hb : Below B w w') (hB : w.heap.size ≤ B) : VOk w' v a c := ⟨h.mem.below hb hB, h.ok, h.n⟩

set_option maxHeartbeats 1000000 in
theorem Order_any (x y : Pl.Ver) (a b : Option Addr) (c d : Nat) (w : World) (hx : VOk w x a c) (hy : VOk w y b d) :
    Calls Tryz.prog 46 #[verV x a c, verV y b d] w fun e w' => e = .returned (.int .i64 (Pl.verCmp x y)) ∧ Below w.heap.size w w' := by
  have lx := hx.mem.len
  have ly := hy.mem.len
  have HX := Lib.hid hx
  have HY := Lib.hid hy
  clear hx hy
  obtain ⟨N, hN⟩ : ∃ N, Pl.numC x y = N := ⟨_, rfl⟩
  have hcs := Pl.numC_cases x y
  rw [hN] at hcs
  have HN := Lib.hid hN
  have HC := Lib.hid hcs
  clear hN hcs
  go_enter Tryz.func46, Tryz.ntmps46
  go_wp2_with fail
  refine wp_region_ord [0, 1, 2, 3, 5, 6, 7, 8, 10, 11, 12, 13, 4, 9, 14, 15, 16, 17] (by kernel_rfl) (by kernel_rfl) ?_
  repeat (refine wpI_rd rfl rfl ?_; go_big_quiet_step (fail); refine wpQuiet_nil ?_)
  refine wpI_call (f := 68) (args := #[.int .i64 x.maj, .int .i64 y.maj]) rfl rfl rfl (by simp [go_sem]) ?_
  refine (cmpInt_any _ _ _).mono ?_
  rintro e w' ⟨rfl, rfl⟩
  refine ⟨_, rfl, Below.refl _ _, ?_⟩
  try simp only [Act.put, List.setIfInBounds_toArray, List.set_cons_zero, List.set_cons_succ]
  refine wpI_call (f := 68) (args := #[.int .i64 x.min, .int .i64 y.min]) rfl rfl rfl (by simp [go_sem]) ?_
  refine (cmpInt_any _ _ _).mono ?_
  rintro e w' ⟨rfl, rfl⟩
  refine ⟨_, rfl, Below.refl _ _, ?_⟩
  try simp only [Act.put, List.setIfInBounds_toArray, List.set_cons_zero, List.set_cons_succ]
  refine wpI_call (f := 68) (args := #[.int .i64 x.pat, .int .i64 y.pat]) rfl rfl rfl (by simp [go_sem]) ?_
  refine (cmpInt_any _ _ _).mono ?_
  rintro e w' ⟨rfl, rfl⟩
  refine ⟨_, rfl, Below.refl _ _, ?_⟩
  try simp only [Act.put, List.setIfInBounds_toArray, List.set_cons_zero, List.set_cons_succ]
  refine wpI_add rfl rfl rfl (u := .slice (some ⟨w.heap.size + 2, 0, none⟩) 3 3) (w' := (((w.alloc (.cells #[.int .i64 x.maj, .int .i64 x.min, .int .i64 x.pat, .slice a x.pre.length c] 48)).alloc (.cells #[.int .i64 y.maj, .int .i64 y.min, .int .i64 y.pat, .slice b y.pre.length d] 48)).drew.alloc (.cells #[.int .i64 (Pl.sgn x.maj y.maj), .int .i64 (Pl.sgn x.min y.min), .int .i64 (Pl.sgn x.pat y.pat)] 3))) (by simp [go_sem]) (Below.ext ((Below.refl _ _).alloc (Nat.le_refl _) _)) ?_
  try simp only [Act.put, List.setIfInBounds_toArray, List.set_cons_zero, List.set_cons_succ]
  refine wpI_call (f := 67) (args := #[.slice (some ⟨w.heap.size + 2, 0, none⟩) 3 3]) rfl rfl rfl (by simp [go_sem]) ?_
  refine (Or_any [Pl.sgn x.maj y.maj, Pl.sgn x.min y.min, Pl.sgn x.pat y.pat] _ _ _ (Sl.fresh (C := intVals [Pl.sgn x.maj y.maj, Pl.sgn x.min y.min, Pl.sgn x.pat y.pat]) (by simp) rfl (Nat.le_refl _) (by unfold maxLen; simp)) (by simp)).mono ?_
  rintro e w' ⟨rfl, rfl⟩
  refine ⟨_, rfl, Below.refl _ _, ?_⟩
  rw [show Pl.orL [Pl.sgn x.maj y.maj, Pl.sgn x.min y.min, Pl.sgn x.pat y.pat] = N from HN.out]
  try simp only [Act.put, List.setIfInBounds_toArray, List.set_cons_zero, List.set_cons_succ]
  repeat (refine wpI_rd rfl rfl ?_; go_big_quiet_step (fail); refine wpQuiet_nil ?_)
  refine wpI_nil ?_
  try simp only [Act.put, List.setIfInBounds_toArray, List.set_cons_zero, List.set_cons_succ]
  rcases HC.out with ⟨h0, E⟩ | ⟨h0, e1, e2, e3⟩
  · have t1 := bneT h0
    have t2 := beqF h0
    replace E := Lib.hid E
    clear h0
    go_wp2_with fail
    go_ret
    exact ⟨ret_int E.out.symm, by go_grown⟩
  · have t1 := bneF h0
    have t2 := beqT h0
    have E := Lib.hid (Pl.vc4 e1 e2 e3)
    clear h0 e1 e2 e3
    by_cases p1 : x.pre.length = 0 <;> by_cases p2 : y.pre.length = 0
    · have q1 : ((x.pre.length : Int) == 0) = true := beqT (by omega)
      have q2 : ((y.pre.length : Int) == 0) = true := beqT (by omega)
      have E2 := Lib.hid (show Pl.lexL Pl.idc x.pre y.pre = Pl.verCmp x y by rw [E.out, if_pos (.inl p1), p1, p2, List.length_eq_zero_iff.1 p1, List.length_eq_zero_iff.1 p2]; rfl)
      clear p1 p2
      go_wp2_with fail
      refine (CompareFunc_any x.pre y.pre a b c d _ (HX.out.mem.sl.below (by go_grown) (Nat.le_refl _)) (HY.out.mem.sl.below (by go_grown) (Nat.le_refl _)) lx ly (fun s hs => ⟨Pl.ident_ascii (HX.out.ok s hs), HX.out.mem.ss s hs⟩) (fun s hs => ⟨Pl.ident_ascii (HY.out.ok s hs), HY.out.mem.ss s hs⟩)).mono ?_
      rintro e w1 ⟨rfl, b1⟩
      have B1 : Below w.heap.size w w1 := bcall (by go_grown) b1 (by go_size)
      clear b1
      go_wp2_with fail
      go_ret
      exact ⟨ret_int E2.out, B1⟩
    · have q1 : ((x.pre.length : Int) == 0) = true := beqT (by omega)
      have q2 : ((y.pre.length : Int) == 0) = false := beqF (by omega)
      have E2 := Lib.hid (show Pl.sgn (y.pre.length : Int) (x.pre.length : Int) = Pl.verCmp x y by rw [E.out, if_pos (.inl p1)])
      clear p1 p2
      go_wp2_with (go_at_call 68; refine (cmpInt_any _ _ _).mono ?_; rintro e w' ⟨rfl, rfl⟩)
      go_ret
      exact ⟨ret_int E2.out, by go_grown⟩
    · have q1 : ((x.pre.length : Int) == 0) = false := beqF (by omega)
      have q2 : ((y.pre.length : Int) == 0) = true := beqT (by omega)
      have E2 := Lib.hid (show Pl.sgn (y.pre.length : Int) (x.pre.length : Int) = Pl.verCmp x y by rw [E.out, if_pos (.inr p2)])
      clear p1 p2
      go_wp2_with (go_at_call 68; refine (cmpInt_any _ _ _).mono ?_; rintro e w' ⟨rfl, rfl⟩)
      go_ret
      exact ⟨ret_int E2.out, by go_grown⟩
    · have q1 : ((x.pre.length : Int) == 0) = false := beqF (by omega)
      have q2 : ((y.pre.length : Int) == 0) = false := beqF (by omega)
      have E2 := Lib.hid (show Pl.lexL Pl.idc x.pre y.pre = Pl.verCmp x y by rw [E.out, if_neg (by omega)])
      clear p1 p2
      go_wp2_with fail
      refine (CompareFunc_any x.pre y.pre a b c d _ (HX.out.mem.sl.below (by go_grown) (Nat.le_refl _)) (HY.out.mem.sl.below (by go_grown) (Nat.le_refl _)) lx ly (fun s hs => ⟨Pl.ident_ascii (HX.out.ok s hs), HX.out.mem.ss s hs⟩) (fun s hs => ⟨Pl.ident_ascii (HY.out.ok s hs), HY.out.mem.ss s hs⟩)).mono ?_
      rintro e w1 ⟨rfl, b1⟩
      have B1 : Below w.heap.size w w1 := bcall (by go_grown) b1 (by go_size)
      clear b1
      go_wp2_with fail
      go_ret
      exact ⟨ret_int E2.out, B1⟩
namespace Pl
end Pl

end Go.Proofs.YtgngehfgcogceaaGreatDoor

end
section
/- The bytes of a string, and none. No program in sight. -/
namespace Go.Proofs.YtgngehfgcogceaaGreatDoor
open Go.RowKit

theorem ba_toList (s : ByteArray) : s.toList = s.data.toList := by
  have loop : ∀ (n i : Nat) (r : List UInt8), s.size - i = n → ByteArray.toList.loop s i r = r.reverse ++ s.data.toList.drop i := by
    intro n
    induction n with
    | zero =>
      intro i r h
      rw [ByteArray.toList.loop]
      have hs : s.size = s.data.toList.length := rfl
      rw [if_neg (by omega), List.drop_of_length_le (by omega), List.append_nil]
    | succ n ih =>
      intro i r h
      have hs : s.size = s.data.toList.length := rfl
      rw [ByteArray.toList.loop, if_pos (by omega), ih (i + 1) _ (by omega), List.reverse_cons, List.append_assoc]
      congr 1
      rw [List.drop_eq_getElem_cons (show i < s.data.toList.length by omega)]
      show s.get! i :: _ = _
      congr 1
      show s.data[i]! = _
      rw [getElem!_pos s.data i (by have : s.data.size = s.size := rfl; omega)]
      rfl
  unfold ByteArray.toList
  rw [loop s.size 0 [] rfl]
  rfl
namespace Pl
end Pl
end Go.Proofs.YtgngehfgcogceaaGreatDoor

end
section
/- Contracts: versions that are the same; versions compared with their faults. -/
namespace Go.Proofs.YtgngehfgcogceaaGreatDoor
open Go.RowKit

namespace Pl
theorem map_bsl_inj : ∀ {a b : List ByteArray}, a.map bsl = b.map bsl → a = b
  | [], [], _ => rfl
  | [], _ :: _, h => by simp at h
  | _ :: _, [], h => by simp at h
  | x :: a, y :: b, h => by
    simp only [List.map_cons, List.cons.injEq] at h
    rw [bsl_inj h.1, map_bsl_inj h.2]
/-- The first k places are the same. -/
def SameTo (a b : List ByteArray) (k : Nat) : Prop := ∀ j (h1 : j < a.length) (h2 : j < b.length), j < k → a[j] = b[j]
theorem SameTo.zero (a b : List ByteArray) : SameTo a b 0 := fun _ _ _ h => absurd h (by omega)
theorem SameTo.succ {a b : List ByteArray} {k : Nat} (h : SameTo a b k) (h1 : k < a.length) (h2 : k < b.length) (e : a[k] = b[k]) : SameTo a b (k + 1) := fun j j1 j2 hj => by
  by_cases hk : j = k
  · subst hk; exact e
  · exact h j j1 j2 (by omega)
theorem SameTo.all {a b : List ByteArray} {k : Nat} (h : SameTo a b k) (h1 : a.length ≤ k) (h2 : a.length = b.length) : a = b := List.ext_getElem h2 fun j j1 j2 => h j j1 j2 (by omega)
theorem toList_eq {s t : ByteArray} : s.toList = t.toList ↔ s = t := by
  rw [ba_toList, ba_toList]
  exact ⟨fun h => bsl_inj h, fun h => by rw [h]⟩
end Pl
theorem VOk.of {w : World} {v : Pl.Ver} {a : Option Addr} {c : Nat} (h : VIn w v a c) (hv : v.Ok) : VOk w v a c := ⟨h, hv.i, hv.n⟩

end Go.Proofs.YtgngehfgcogceaaGreatDoor

end
section
/- Contracts: the next version, by the reference; small helpers of the laws. -/
namespace Go.Proofs.YtgngehfgcogceaaGreatDoor
open Go.RowKit

set_option maxRecDepth 100000 in
theorem Tryz.tStrs : ElemT Tryz.prog 36 9 1 16 := ⟨Tryz.underlying36, ⟨_, _, rfl, rfl, rfl, rfl, rfl⟩, by decide, by decide⟩
theorem ownsRow_far {w : World} {base : Nat} {e : TypeId} {size : Nat} {v : Value} {n : Nat} {xs : List Value} (h : w.ownsRow base e size v n xs) {a : Addr} (ha : a.block < base) (u : Value) : (w.setCell a u).ownsRow base e size v n xs := by
  refine ⟨h.1, ?_⟩
  rcases h.2 with hn | ⟨g, cap, cur, rfl, hbg, hgg, rest⟩
  · exact .inl hn
  · exact .inr ⟨g, cap, cur, rfl, hbg, (Below.heap_setCell _ _ _ _ (by omega)).trans hgg, rest⟩
theorem VIn.zero (w : World) : VIn w Pl.Ver.zero none 0 := ⟨⟨by simp [Pl.Ver.zero, strVals], Nat.le_refl _, Nat.zero_le _, .inl rfl⟩, fun s hs => by cases hs⟩
/-- A version is handed back, its identifiers lie in memory. -/
def RVer (v : Pl.Ver) (w : World) (e : Ending) (w' : World) : Prop := ∃ a c, e = .returned (verV v a c) ∧ VIn w' v a c ∧ Below w.heap.size w w'
def RVerF (v : Pl.Ver) (F : Int × Int) (w : World) (e : Ending) (w' : World) : Prop := ∃ a c, e = .returned (.tuple #[verV v a c, fltV F]) ∧ VIn w' v a c ∧ Below w.heap.size w w'
theorem VIn.own {w : World} {v : Pl.Ver} {base n cap : Nat} {oa : Option Addr} (hn : v.pre.length = n) (h : w.ownsRow base 9 1 (.slice oa n cap) n (strVals v.pre)) (hs : ∀ s ∈ v.pre, s.size ≤ 9223372036854775807) : VIn w v oa cap := by
  subst hn
  exact ⟨Sl.own h, hs⟩

theorem VIn.pre {w : World} {a b d : Int} {s : ByteArray} (hs : s.size ≤ 9223372036854775807) {B : Nat} {w' : World} (o : Obj) (hb : Below B ((w.alloc o).alloc (.cells #[.string s] 9)) w') (hB : w.heap.size + 2 ≤ B) : VIn w' ⟨a, b, d, [s]⟩ (some ⟨w.heap.size + 1, 0, none⟩) 1 :=
  VIn.below (w := (w.alloc o).alloc (.cells #[.string s] 9)) ⟨Sl.fresh (C := strVals [s]) (by simp) rfl (Nat.le_refl _) (by unfold maxLen; simp), fun x hx => by rw [List.mem_singleton.1 hx]; exact hs⟩ hb (by simp; omega)

namespace Pl
theorem next_len (v : Ver) : (verNext v).pre.length = v.pre.length + 1 := by unfold verNext; simp
theorem next_ss {v : Ver} (h : ∀ s ∈ v.pre, s.size ≤ 9223372036854775807) : ∀ s ∈ (verNext v).pre, s.size ≤ 9223372036854775807 := fun s hs => by
  rcases List.mem_append.1 hs with h1 | h1
  · exact h s h1
  · rw [List.mem_singleton.1 h1]; decide
end Pl

end Go.Proofs.YtgngehfgcogceaaGreatDoor

end
