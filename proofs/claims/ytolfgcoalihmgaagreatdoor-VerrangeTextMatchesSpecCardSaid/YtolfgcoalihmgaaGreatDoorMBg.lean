/- Texts joined. -/
import Derived.Test.YtolfgcoalihmgaaGreatDoorMBe
namespace Go.Proofs.YtolfgcoalihmgaaGreatDoor
section
open Go.RowKit
theorem Sl.strAt {w : World} {oa : Option Addr} {cap : Nat} {xs : List ByteArray} (h : Sl w oa xs.length cap 1 (strVals xs)) (h0 : 0 < xs.length) : ∃ b off, oa = some ⟨b, off, none⟩ ∧ b < w.heap.size ∧ ∀ k (hk : k < xs.length), w.cell? ⟨b, off + k, none⟩ = some (.string xs[k]) := by
 rcases h.mem with h1 | ⟨b, off, h1, h2, h3⟩
 · have : xs = [] := by simpa [strVals] using h1
   subst this; simp at h0
 · exact ⟨b, off, h1, h2, fun k hk => h3 k _ (strVals_get xs k hk)⟩
set_option maxHeartbeats 1000000 in
theorem CompareFunc_any (a b : List ByteArray) (oa ob : Option Addr) (ca cb : Nat) (w : World) (ha : Sl w oa a.length ca 1 (strVals a)) (hb : Sl w ob b.length cb 1 (strVals b)) (la : a.length ≤ 9223372036854775807) (lb : b.length ≤ 9223372036854775807)
 (va : ∀ s ∈ a, Pl.asciiB (Pl.bsl s) = true ∧ s.size ≤ 9223372036854775807) (vb : ∀ s ∈ b, Pl.asciiB (Pl.bsl s) = true ∧ s.size ≤ 9223372036854775807) :
 Calls Tryz.prog 145 #[.slice oa a.length ca, .slice ob b.length cb, .func (.func 146) #[] #[]] w fun e w' => e = .returned (.int .i64 (Pl.lexL Pl.idc a b)) ∧ Below w.heap.size w w' := by
 have VA := Hd va
 have VB := Hd vb
 clear va vb
 go_enter Tryz.func145, Tryz.ntmps145
 go_wp2
 go_loopw [13] (fun i wr => ∃ k : Nat, k ≤ a.length ∧ k ≤ b.length ∧ i = .int .i64 k ∧ Hid (Pl.EqTo Pl.idc a b k) ∧ Below w.heap.size w wr) (fun i _ => a.length - (intOf i).toNat)
 case atStart => exact ⟨0, Nat.zero_le _, Nat.zero_le _, rfl, Pl.EqTo.zero _ _ _, Below.refl _ _⟩
 case round =>
  obtain ⟨k, hk, hkb, rfl, hu, hbw⟩ := hrel
  have sw := hbw.size
  by_cases hlt : k < a.length
  · obtain ⟨ba, offa, rfl, hla, hca⟩ := ha.strAt (by omega)
    have c1 : wr.cell? ⟨ba, offa + k, none⟩ = some (.string a[k]) := by rw [hbw.cell (p := ⟨ba, offa + k, none⟩) hla]; exact hca k hlt
    by_cases hlt2 : k < b.length
    · obtain ⟨bb, offb, rfl, hlb, hcb⟩ := hb.strAt (by omega)
      have c2 : wr.cell? ⟨bb, offb + k, none⟩ = some (.string b[k]) := by rw [hbw.cell (p := ⟨bb, offb + k, none⟩) hlb]; exact hcb k hlt2
      have v1 := Hd (VA.out _ (List.getElem_mem hlt))
      have v2 := Hd (VB.out _ (List.getElem_mem hlt2))
      have st := Hd (fun h => hu.out.succ hlt hlt2 h)
      have en := Hd (fun h => Pl.lexL_at hu.out hlt hlt2 h)
      clear hca hcb
      generalize a[k] = x at *
      generalize b[k] = y at *
      by_cases hz : Pl.idc x y = 0
      · have t1 := bneF hz
        have t2 := beqT hz
        have st := Hd (st.out hz)
        clear en hz
        go_wp2_with (go_at_call 146; refine (compareIdentifiers_any x y _ v1.out.1 v2.out.1 v1.out.2 v2.out.2).mono ?_; rintro e w1 ⟨rfl, b1⟩)
        go_roundw
        case rel => exact ⟨k + 1, hlt, hlt2, by go_num, st, bcall hbw b1 hbw.size⟩
        case measure => simp [intOf]; omega
      · have t1 := bneT hz
        have t2 := beqF hz
        have en := Hd (en.out hz)
        clear st hz
        go_wp2_with (go_at_call 146; refine (compareIdentifiers_any x y _ v1.out.1 v2.out.1 v1.out.2 v2.out.2).mono ?_; rintro e w1 ⟨rfl, b1⟩)
        go_ret
        exact ⟨ret_int en.out.symm, bcall hbw b1 hbw.size⟩
    · have E := Hd (show Pl.lexL Pl.idc a b = 1 by
       rw [Pl.lexL_end hu.out hk hkb (by omega)]; exact Pl.sgn_gt (by omega))
      clear hca
      generalize a[k] = x at *
      go_wp2_with fail
      go_ret
      exact ⟨ret_int E.out.symm, hbw⟩
  · have E := Hd (show Pl.lexL Pl.idc a b = Pl.sgn (a.length : Int) (b.length : Int) from Pl.lexL_end hu.out hk hkb (by omega))
    have hab : a.length ≤ b.length := by omega
    by_cases hl : a.length < b.length
    · rw [Pl.sgn_lt (by omega)] at E
      go_wp2_with fail
      go_ret
      exact ⟨ret_int E.out.symm, hbw⟩
    · rw [Pl.sgn_zero.2 (by omega)] at E
      go_wp2_with fail
      go_ret
      exact ⟨ret_int E.out.symm, hbw⟩
theorem quiet_add_left {P : Program} {f : FuncId} {args : Array Value} {w : World} {a n : Nat} {v : Value}
 (h : Calls P f args (w.drewN (a + n)) fun e w' => e = .returned v ∧ w.drewN (a + n) = w') : Calls P f args (w.drewN (a + n)) fun e w'' => e = .returned v ∧ ∃ m, w'' = w.drewN (a + m) :=
 h.mono fun _ _ ⟨he, hm⟩ => ⟨he, n, hm.symm⟩
theorem quiet_q {P : Program} {f : FuncId} {args : Array Value} {w : World} {n : Nat} {v : Value}
 (h : Calls P f args (w.drewN n) fun e w' => e = .returned v ∧ ∃ q, w' = (w.drewN n).drewN q) : Calls P f args (w.drewN n) fun e w'' => e = .returned v ∧ ∃ m, w'' = w.drewN m :=
 h.mono fun _ _ ⟨he, m, hm⟩ => ⟨he, n + m, by rw [hm, World.drewN_drewN]⟩
theorem quiet_add_q {P : Program} {f : FuncId} {args : Array Value} {w : World} {a n : Nat} {v : Value}
 (h : Calls P f args (w.drewN (a + n)) fun e w' => e = .returned v ∧ ∃ q, w' = (w.drewN (a + n)).drewN q) : Calls P f args (w.drewN (a + n)) fun e w'' => e = .returned v ∧ ∃ m, w'' = w.drewN (a + m) :=
 h.mono fun _ _ ⟨he, m, hm⟩ => ⟨he, n + m, by rw [hm, World.drewN_drewN, Nat.add_assoc]⟩
namespace Pl
def byteC (a b : UInt8) : Int := sgn a.toNat b.toNat
theorem cmpB_lex (a b : List UInt8) : Lib.compareBytes a b = lexL byteC a b := compareBytes_lex a b
theorem bytes_at {a b : ByteArray} {k : Nat} (h : EqTo byteC (bsl a) (bsl b) k) (h1 : k < a.size) (h2 : k < b.size) :
 ((a[k].toNat : Int) = (b[k].toNat : Int) → EqTo byteC (bsl a) (bsl b) (k + 1)) ∧ ((a[k].toNat : Int) ≠ (b[k].toNat : Int) → Lib.compareBytes (bsl a) (bsl b) = sgn (a[k].toNat : Int) (b[k].toNat : Int)) := by
 refine ⟨fun e => h.succ h1 h2 ?_, fun e => ?_⟩
 · show sgn _ _ = 0
   exact sgn_zero.2 e
 · rw [cmpB_lex, lexL_at h h1 h2 (fun e2 => e (sgn_zero.1 e2))]; rfl
theorem bytes_end {a b : ByteArray} {k : Nat} (h : EqTo byteC (bsl a) (bsl b) k) (h1 : k ≤ a.size) (h2 : k ≤ b.size) (h3 : k = a.size ∨ k = b.size) : Lib.compareBytes (bsl a) (bsl b) = sgn (a.size : Int) (b.size : Int) := by
 rw [cmpB_lex]; exact lexL_end h h1 h2 h3
end Pl
set_option maxHeartbeats 1000000 in
theorem identifiers_any (a b : ByteArray) (w : World) (ha : Pl.identB (Pl.bsl a) = true) (hb : Pl.identB (Pl.bsl b) = true) :
 Calls Tryz.prog 120 #[.string a, .string b] w fun e w' => e = .returned (.int .i64 (Pl.idc a b)) ∧ ∃ q, w' = w.drewN q := by
 obtain ⟨a1, a2, -, -⟩ := Pl.identB_iff.1 ha
 obtain ⟨b1, b2, -, -⟩ := Pl.identB_iff.1 hb
 rw [Pl.bsl_len] at a1 a2 b1 b2
 have sa : a.size ≤ 9223372036854775807 := by omega
 have sb : b.size ≤ 9223372036854775807 := by omega
 have na : Pl.numB (Pl.bsl a) = Pl.digsB (Pl.bsl a) := by unfold Pl.numB; rw [Pl.bsl_len, decide_eq_true (by omega), Bool.and_true]
 have nb : Pl.numB (Pl.bsl b) = Pl.digsB (Pl.bsl b) := by unfold Pl.numB; rw [Pl.bsl_len, decide_eq_true (by omega), Bool.and_true]
 have HR := Pl.idRef_eq ha hb
 unfold Pl.idRef at HR
 clear ha hb
 cases d1 : Pl.digsB (Pl.bsl a)
 · cases d2 : Pl.digsB (Pl.bsl b)
   · rw [d1, d2] at HR
     rw [d1] at na
     rw [d2] at nb
     have E := Hd (show Lib.compareBytes (Pl.bsl a) (Pl.bsl b) = Pl.idc a b by rw [show Pl.idc a b = Pl.idCmp (Pl.bsl a) (Pl.bsl b) from rfl, ← HR]; simp)
     clear HR d1 d2
     go_enter Tryz.func120, Tryz.ntmps120
     go_wp2_with (go_at_call 104; refine (Numeric_any _ _ (by assumption)).mono ?_; rintro e w' ⟨rfl, rfl⟩)
     go_loopw [5] (fun i wr => ∃ k : Nat, k ≤ a.size ∧ k ≤ b.size ∧ i = .int .i64 k ∧ Hid (Pl.EqTo Pl.byteC (Pl.bsl a) (Pl.bsl b) k) ∧ ∃ q, wr = w.drewN q) (fun i _ => a.size - (intOf i).toNat)
     case atStart => exact ⟨0, Nat.zero_le _, Nat.zero_le _, rfl, Pl.EqTo.zero _ _ _, 0, rfl⟩
     case round =>
      obtain ⟨k, hk, hkb, rfl, hu, q, rfl⟩ := hrel
      by_cases hlt : k < a.size
      · by_cases hlt2 : k < b.size
        · obtain ⟨g1, g2⟩ := Pl.bytes_at hu.out hlt hlt2
          by_cases he : (a[k].toNat : Int) = (b[k].toNat : Int)
          · have t1 := bneF he
            have t2 := beqT he
            have st := Hd (g1 he)
            clear g1 g2 he
            go_wp2_with fail
            go_quiet (fail)
            go_wp2_with fail
            go_roundw
            case rel => exact ⟨k + 1, hlt, hlt2, by go_num, st, _, rfl⟩
            case measure => simp [intOf]; omega
          · have t1 := bneT he
            have t2 := beqF he
            have e2 := Hd ((g2 he).symm.trans E.out)
            have h255 : (a[k].toNat : Int) ≤ 255 := by have := a[k].toNat_lt; omega
            have g255 : (b[k].toNat : Int) ≤ 255 := by have := b[k].toNat_lt; omega
            clear g1 g2 he
            go_wp2_with fail
            go_quiet (fail)
            go_wp2_with fail
            go_quiet ((go_at_call 119; exact quiet_add_left (Sign3_any _ _ _)))
            go_wp2_with fail
            go_ret
            exact ⟨ret_int e2.out, _, by rw [World.drewN_drewN, World.drewN_drewN]⟩
        · have e2 := Hd ((Pl.bytes_end hu.out hk hkb (by omega)).symm.trans E.out)
          go_wp2_with (go_at_call 119; refine (Sign3_any _ _ _).mono ?_; rintro e w' ⟨rfl, rfl⟩)
          go_ret
          exact ⟨ret_int e2.out, q, rfl⟩
      · have e2 := Hd ((Pl.bytes_end hu.out hk hkb (by omega)).symm.trans E.out)
        go_wp2_with (go_at_call 119; refine (Sign3_any _ _ _).mono ?_; rintro e w' ⟨rfl, rfl⟩)
        go_ret
        exact ⟨ret_int e2.out, q, rfl⟩
   · rw [d1, d2] at HR
     rw [d1] at na
     rw [d2] at nb
     have E := Hd (show 1 = Pl.idc a b by rw [show Pl.idc a b = Pl.idCmp (Pl.bsl a) (Pl.bsl b) from rfl, ← HR]; simp)
     clear HR d1 d2
     go_enter Tryz.func120, Tryz.ntmps120
     go_wp2_with (go_at_call 104; refine (Numeric_any _ _ (by assumption)).mono ?_; rintro e w' ⟨rfl, rfl⟩)
     go_ret
     exact ⟨ret_int E.out, 0, rfl⟩
 · cases d2 : Pl.digsB (Pl.bsl b)
   · rw [d1, d2] at HR
     rw [d1] at na
     rw [d2] at nb
     have E := Hd (show -1 = Pl.idc a b by rw [show Pl.idc a b = Pl.idCmp (Pl.bsl a) (Pl.bsl b) from rfl, ← HR]; simp)
     clear HR d1 d2
     go_enter Tryz.func120, Tryz.ntmps120
     go_wp2_with (go_at_call 104; refine (Numeric_any _ _ (by assumption)).mono ?_; rintro e w' ⟨rfl, rfl⟩)
     go_ret
     exact ⟨ret_int E.out, 0, rfl⟩
   · rw [d1, d2] at HR
     rw [d1] at na
     rw [d2] at nb
     have E := Hd (show Pl.sgn (Pl.valL (Pl.bsl a)) (Pl.valL (Pl.bsl b)) = Pl.idc a b by rw [show Pl.idc a b = Pl.idCmp (Pl.bsl a) (Pl.bsl b) from rfl, ← HR]; simp)
     have D1 := Hd d1
     have D2 := Hd d2
     clear HR d1 d2
     go_enter Tryz.func120, Tryz.ntmps120
     go_wp2_with (first | (go_at_call 104; refine (Numeric_any _ _ (by assumption)).mono ?_; rintro e w' ⟨rfl, rfl⟩) | (go_at_call 149; refine (value_any _ _ (by assumption) (by first | exact D1.out | exact D2.out)).mono ?_; rintro e w' ⟨rfl, rfl⟩) | (go_at_call 119; refine (Sign3_any _ _ _).mono ?_; rintro e w' ⟨rfl, rfl⟩))
     go_ret
     exact ⟨ret_int E.out, 0, rfl⟩
end
section
open Go.RowKit
abbrev verV (v : Pl.Ver) (a : Option Addr) (c : Nat) : Value := .agg #[.int .i64 v.maj, .int .i64 v.min, .int .i64 v.pat, .slice a v.pre.length c]
structure VIn (w : World) (v : Pl.Ver) (a : Option Addr) (c : Nat) : Prop where
 sl : Sl w a v.pre.length c 1 (strVals v.pre)
 ss : ∀ s ∈ v.pre, s.size ≤ 9223372036854775807
theorem VIn.len {w : World} {v : Pl.Ver} {a : Option Addr} {c : Nat} (h : VIn w v a c) : v.pre.length ≤ 9223372036854775807 := by
 have h1 := h.sl.hcap
 have h2 := h.sl.hmax
 unfold maxLen at h2
 omega
theorem VIn.below {w w' : World} {v : Pl.Ver} {a : Option Addr} {c : Nat} (h : VIn w v a c) {B : Nat} (hb : Below B w w') (hB : w.heap.size ≤ B) : VIn w' v a c := ⟨h.sl.below hb hB, h.ss⟩
theorem VIn.bl {w w' : World} {v : Pl.Ver} {a : Option Addr} {c : Nat} (h : VIn w v a c) (hb : Below w.heap.size w w') : VIn w' v a c := h.below hb nle
theorem VIn.al {w : World} {v : Pl.Ver} {a : Option Addr} {c : Nat} (h : VIn w v a c) (o : Obj) : VIn (w.alloc o) v a c := h.below ((Below.refl _ _).alloc nle o) nle
theorem Box2.newAt {w : World} {r : Nat} {x y : Value} {t : TypeId} (h : r = w.heap.size) : Box2 (w.alloc (.cells #[x, y] t)) r x y := by subst h; exact Box2.new _ _ _ _
namespace Pl
theorem vrF_m1 {v : Ver} (h : inB v.maj 0 1000000000 = false) : vrF v = (3, 0) := by unfold vrF; rw [if_pos h]
theorem vrF_m2 {v : Ver} (h1 : inB v.maj 0 1000000000 = true) (h : inB v.min 0 1000000000 = false) : vrF v = (3, 1) := by unfold vrF; rw [if_neg (by rw [h1]; decide), if_pos h]
theorem vrF_m3 {v : Ver} (h1 : inB v.maj 0 1000000000 = true) (h2 : inB v.min 0 1000000000 = true) (h : inB v.pat 0 1000000000 = false) : vrF v = (3, 2) := by unfold vrF; rw [if_neg (by rw [h1]; decide), if_neg (by rw [h2]; decide), if_pos h]
theorem vrF_n {v : Ver} (h1 : inB v.maj 0 1000000000 = true) (h2 : inB v.min 0 1000000000 = true) (h3 : inB v.pat 0 1000000000 = true) (h : 4 < v.pre.length) : vrF v = (2, -1) := by unfold vrF; rw [if_neg (by rw [h1]; decide), if_neg (by rw [h2]; decide), if_neg (by rw [h3]; decide), if_pos h]
theorem vrF_pre {v : Ver} (h1 : inB v.maj 0 1000000000 = true) (h2 : inB v.min 0 1000000000 = true) (h3 : inB v.pat 0 1000000000 = true) (h : v.pre.length ≤ 4) : vrF v = preAt v.pre 0 := by unfold vrF; rw [if_neg (by rw [h1]; decide), if_neg (by rw [h2]; decide), if_neg (by rw [h3]; decide), if_neg (by omega)]
theorem preAt_drop {l : List ByteArray} {k : Nat} {F : Int × Int} (hk : k < l.length) (h : preAt (l.drop k) k = F) : (identB (bsl l[k]) = true → preAt (l.drop (k + 1)) (k + 1) = F) ∧ (identB (bsl l[k]) = false → F = (5, (k : Int))) := by
 rw [List.drop_eq_getElem_cons hk, preAt] at h
 refine ⟨fun e => ?_, fun e => ?_⟩
 · rwa [if_pos e] at h
 · rw [if_neg (by simp [e])] at h; exact h.symm
theorem preAt_last {l : List ByteArray} {k : Nat} {F : Int × Int} (hk : l.length ≤ k) (h : preAt (l.drop k) k = F) : F = (0, 0) := by
 rw [List.drop_of_length_le hk] at h; exact h.symm
theorem inF {n : Int} (h : inB n 0 1000000000 = false) : n < 0 ∨ 1000000000 < n := by have := inB_false.1 h; omega
theorem inT {n : Int} (h : inB n 0 1000000000 = true) : 0 ≤ n ∧ n ≤ 1000000000 := inB_true.1 h
end Pl
abbrev fltV (F : Int × Int) : Value := .agg #[.int .i64 F.1, .int .i64 F.2]
theorem rfault_at (a b : Int) (w : World) : Calls Tryz.prog 57 #[.int .i64 a, .int .i64 b] w fun e w' => e = .returned (.agg #[.int .i64 a, .int .i64 b]) ∧ w' = w.alloc (.cells #[.int .i64 a, .int .i64 b] 27) := by
 go_enter Tryz.func57, Tryz.ntmps57
 go_wp2
 go_returns
 exact ⟨rfl, rfl⟩
theorem lfault_at (a b : Int) (w : World) : Calls Tryz.prog 33 #[.int .i64 a, .int .i64 b] w fun e w' => e = .returned (.agg #[.int .i64 a, .int .i64 b]) ∧ w' = w.alloc (.cells #[.int .i64 a, .int .i64 b] 27) := by
 go_enter Tryz.func33, Tryz.ntmps33
 go_wp2
 go_returns
 exact ⟨rfl, rfl⟩
set_option maxHeartbeats 1000000 in
theorem VersionFault_any (v : Pl.Ver) (a : Option Addr) (c : Nat) (w : World) (h : VIn w v a c) :
 Calls Tryz.prog 14 #[verV v a c] w fun e w' => e = .returned (fltV (Pl.vrF v)) ∧ Below w.heap.size w w' := by
 obtain ⟨F, hF⟩ : ∃ F, Pl.vrF v = F := ⟨_, rfl⟩
 rw [hF]
 have hlen := h.len
 cases h1 : Pl.inB v.maj 0 1000000000 with
 | false =>
   rw [Pl.vrF_m1 h1] at hF
   subst hF
   go_enter Tryz.func14, Tryz.ntmps14
   go_wp2_with (first | (go_at_call 56; refine (rin_any _ _ _ _).mono ?_; rintro e w' ⟨rfl, rfl⟩) | (go_at_call 57; refine (rfault_at _ _ _).mono ?_; rintro e w' ⟨rfl, rfl⟩))
   go_returns
   exact ⟨rfl, by go_grown⟩
 | true =>
   cases h2 : Pl.inB v.min 0 1000000000 with
   | false =>
     rw [Pl.vrF_m2 h1 h2] at hF
     subst hF
     go_enter Tryz.func14, Tryz.ntmps14
     go_wp2_with (first | (go_at_call 56; refine (rin_any _ _ _ _).mono ?_; rintro e w' ⟨rfl, rfl⟩) | (go_at_call 57; refine (rfault_at _ _ _).mono ?_; rintro e w' ⟨rfl, rfl⟩))
     go_returns
     exact ⟨rfl, by go_grown⟩
   | true =>
     cases h3 : Pl.inB v.pat 0 1000000000 with
     | false =>
       rw [Pl.vrF_m3 h1 h2 h3] at hF
       subst hF
       go_enter Tryz.func14, Tryz.ntmps14
       go_wp2_with (first | (go_at_call 56; refine (rin_any _ _ _ _).mono ?_; rintro e w' ⟨rfl, rfl⟩) | (go_at_call 57; refine (rfault_at _ _ _).mono ?_; rintro e w' ⟨rfl, rfl⟩))
       go_returns
       exact ⟨rfl, by go_grown⟩
     | true =>
       by_cases h4 : 4 < v.pre.length
       · rw [Pl.vrF_n h1 h2 h3 h4] at hF
         subst hF
         go_enter Tryz.func14, Tryz.ntmps14
         go_wp2_with (first | (go_at_call 56; refine (rin_any _ _ _ _).mono ?_; rintro e w' ⟨rfl, rfl⟩) | (go_at_call 57; refine (rfault_at _ _ _).mono ?_; rintro e w' ⟨rfl, rfl⟩))
         go_returns
         exact ⟨rfl, by go_grown⟩
       · rw [Pl.vrF_pre h1 h2 h3 (by omega)] at hF
         have HF := Hd hF
         clear hF
         go_enter Tryz.func14, Tryz.ntmps14
         go_wp2_with (first | (go_at_call 56; refine (rin_any _ _ _ _).mono ?_; rintro e w' ⟨rfl, rfl⟩) | (go_at_call 57; refine (rfault_at _ _ _).mono ?_; rintro e w' ⟨rfl, rfl⟩))
         go_loop [3] (fun i => ∃ k : Nat, k ≤ v.pre.length ∧ i = .int .i64 k ∧ Hid (Pl.preAt (v.pre.drop k) k = F)) (fun i => v.pre.length - (intOf i).toNat)
         case atStart => exact ⟨0, Nat.zero_le _, rfl, HF⟩
         case round =>
          obtain ⟨k, hk, rfl, hu⟩ := hrel
          by_cases hlt : k < v.pre.length
          · obtain ⟨b, off, rfl, hb, hc⟩ := h.sl.strAt (by omega)
            have c1 : w.cell? ⟨b, off + k, none⟩ = some (.string v.pre[k]) := hc k hlt
            have sz := h.ss _ (List.getElem_mem hlt)
            obtain ⟨g1, g2⟩ := Pl.preAt_drop hlt hu.out
            clear hc
            generalize v.pre[k] = x at *
            cases hi : Pl.identB (Pl.bsl x) with
            | true =>
              have E := Hd (g1 hi)
              clear g1 g2
              go_wp2_with (first | (go_at_call 58; refine (Identifier_any _ _ sz).mono ?_; rintro e w' ⟨rfl, rfl⟩))
              go_round
              case rel => exact ⟨k + 1, hlt, by go_num, E⟩
              case measure => simp [intOf]; omega
            | false =>
              have E := Hd (g2 hi)
              clear g1 g2 hu
              go_wp2_with (first | (go_at_call 58; refine (Identifier_any _ _ sz).mono ?_; rintro e w' ⟨rfl, rfl⟩) | (go_at_call 57; refine (rfault_at _ _ _).mono ?_; rintro e w' ⟨rfl, rfl⟩))
              go_returns
              exact ⟨by rw [E.out], by go_grown⟩
          · have E := Hd (Pl.preAt_last (by omega) hu.out)
            clear hu
            go_wp2_with fail
            go_returns
            exact ⟨by rw [E.out], by go_grown⟩
theorem idx3_0 (a b d : Int) (w : World) : (Instr.index 129 (.agg #[.int .i64 a, .int .i64 b, .int .i64 d]) (.int .i64 0)).run Tryz.prog w = .ok (.int .i64 a) w := by kernel_rfl
theorem idx3_1 (a b d : Int) (w : World) : (Instr.index 129 (.agg #[.int .i64 a, .int .i64 b, .int .i64 d]) (.int .i64 1)).run Tryz.prog w = .ok (.int .i64 b) w := by kernel_rfl
theorem idx3_2 (a b d : Int) (w : World) : (Instr.index 129 (.agg #[.int .i64 a, .int .i64 b, .int .i64 d]) (.int .i64 2)).run Tryz.prog w = .ok (.int .i64 d) w := by kernel_rfl
set_option maxRecDepth 100000 in
set_option maxHeartbeats 1000000 in
theorem Validate_any (v : Pl.Ver) (a : Option Addr) (c : Nat) (w : World) (h : VIn w v a c) :
 Calls Tryz.prog 53 #[verV v a c] w fun e w' => e = .returned (fltV (Pl.vrF v)) ∧ Below w.heap.size w w' := by
 obtain ⟨F, hF⟩ : ∃ F, Pl.vrF v = F := ⟨_, rfl⟩
 rw [hF]
 have HF := Hd hF
 clear hF
 have hlen := h.len
 have H := Hd h
 clear h
 have idx0 := idx3_0
 have idx1 := idx3_1
 have idx2 := idx3_2
 go_enter Tryz.func53, Tryz.ntmps53
 go_wp2_with fail
 go_loop [14] (fun x => ∃ j : Nat, j ≤ 3 ∧ x = .int .i64 (j : Int) ∧ (0 < j → Pl.inB v.maj 0 1000000000 = true) ∧ (1 < j → Pl.inB v.min 0 1000000000 = true) ∧ (2 < j → Pl.inB v.pat 0 1000000000 = true)) (fun x => 3 - (intOf x).toNat)
 case atStart => exact ⟨0, by decide, rfl, by omega, by omega, by omega⟩
 case round =>
  obtain ⟨j, hj, rfl, j0, j1, j2⟩ := hrel
  match j, hj with
  | 0, _ =>
    clear j0 j1 j2
    cases h1 : Pl.inB v.maj 0 1000000000 with
    | false =>
      have E := Hd (HF.out.symm.trans (Pl.vrF_m1 h1))
      have b1 := Pl.inF h1
      go_wp2_with fail
      all_goals (go_returns; exact ⟨by rw [E.out], by go_grown⟩)
    | true =>
      have b1 := Pl.inT h1
      go_wp2_with fail
      go_round
      case rel => exact ⟨1, by decide, by go_num, by simp, by simp, by simp⟩
      case measure => simp [intOf]
  | 1, _ =>
    have h1 := j0 (by decide)
    clear j0 j1 j2
    cases h2 : Pl.inB v.min 0 1000000000 with
    | false =>
      have E := Hd (HF.out.symm.trans (Pl.vrF_m2 h1 h2))
      have b1 := Pl.inF h2
      go_wp2_with fail
      all_goals (go_returns; exact ⟨by rw [E.out], by go_grown⟩)
    | true =>
      have b1 := Pl.inT h2
      go_wp2_with fail
      go_round
      case rel => exact ⟨2, by decide, by go_num, fun _ => h1, by simp, by simp⟩
      case measure => simp [intOf]
  | 2, _ =>
    have h1 := j0 (by decide)
    have h2 := j1 (by decide)
    clear j0 j1 j2
    cases h3 : Pl.inB v.pat 0 1000000000 with
    | false =>
      have E := Hd (HF.out.symm.trans (Pl.vrF_m3 h1 h2 h3))
      have b1 := Pl.inF h3
      go_wp2_with fail
      all_goals (go_returns; exact ⟨by rw [E.out], by go_grown⟩)
    | true =>
      have b1 := Pl.inT h3
      go_wp2_with fail
      go_round
      case rel => exact ⟨3, by decide, by go_num, fun _ => h1, fun _ => h2, by simp⟩
      case measure => simp [intOf]
  | 3, _ =>
    have h1 := j0 (by decide)
    have h2 := j1 (by decide)
    have h3 := j2 (by decide)
    clear j0 j1 j2
    by_cases h4 : 4 < v.pre.length
    · have E := Hd (HF.out.symm.trans (Pl.vrF_n h1 h2 h3 h4))
      clear h1 h2 h3
      go_wp2_with fail
      go_returns
      exact ⟨by rw [E.out], by go_grown⟩
    · have HP := Hd ((Pl.vrF_pre h1 h2 h3 (by omega)).symm.trans HF.out)
      clear h1 h2 h3 HF
      go_wp2_with fail
      go_loopw [35] (fun i wr => ∃ k : Nat, k ≤ v.pre.length ∧ i = .int .i64 k ∧ Hid (Pl.preAt (v.pre.drop k) k = F) ∧ Below w.heap.size w wr ∧ Hid (Box2 wr (w.heap.size + 1) (.int .i64 0) (.int .i64 0))) (fun i _ => v.pre.length - (intOf i).toNat)
      case atStart => exact ⟨0, Nat.zero_le _, rfl, HP, by go_grown, Hd (Box2.newAt (by simp))⟩
      case round =>
       obtain ⟨k, hk, rfl, hu, hbw, hbx⟩ := hrel
       have sw := hbw.size
       by_cases hlt : k < v.pre.length
       · obtain ⟨b, off, rfl, hb, hc⟩ := H.out.sl.strAt (by omega)
         have c1 : wr.cell? ⟨b, off + k, none⟩ = some (.string v.pre[k]) := by rw [hbw.cell (p := ⟨b, off + k, none⟩) hb]; exact hc k hlt
         have sz := H.out.ss _ (List.getElem_mem hlt)
         obtain ⟨g1, g2⟩ := Pl.preAt_drop hlt hu.out
         clear hc
         generalize v.pre[k] = x at *
         cases hi : Pl.identB (Pl.bsl x) with
         | true =>
           have E := Hd (g1 hi)
           clear g1 g2
           go_wp2_with fail
           refine (identifier_any _ _ sz).mono ?_
           rintro e w1 ⟨rfl, b1⟩
           have B1 := bcall hbw b1 hbw.size
           have hx1 := Hd (hbx.out.below b1 hbx.out.lt)
           clear b1 c1
           go_wp2_with fail
           go_roundw
           case rel => exact ⟨k + 1, hlt, by go_num, E, B1, hx1⟩
           case measure => simp [intOf]; omega
         | false =>
           have E := Hd (g2 hi)
           clear g1 g2 hu
           go_wp2_with fail
           refine (identifier_any _ _ sz).mono ?_
           rintro e w1 ⟨rfl, b1⟩
           have B1 := bcall hbw b1 hbw.size
           obtain ⟨x0, x1, f0, f1, l1⟩ := hbx.out.below b1 hbx.out.lt
           clear b1 c1
           go_wp2_with fail
           have RB := (Box2.mk x0 x1 f0 f1 l1).set (.int .i64 5) (.int .i64 k)
           obtain ⟨RB0, RB1, -, -, -⟩ := RB
           refine bodyPost_ret (v := .agg #[.int .i64 5, .int .i64 k]) (by simp [results, Tryz.results53, go_sem, RB0, RB1]) rfl ⟨by rw [E.out], by go_grown⟩
       · have E := Hd (Pl.preAt_last (by omega) hu.out)
         obtain ⟨x0, x1, f0, f1, l1⟩ := hbx.out
         clear hu
         go_wp2_with fail
         have RB := (Box2.mk x0 x1 f0 f1 l1).set (.int .i64 0) (.int .i64 0)
         obtain ⟨RB0, RB1, -, -, -⟩ := RB
         refine bodyPost_ret (v := .agg #[.int .i64 0, .int .i64 0]) (by simp [results, Tryz.results53, go_sem, RB0, RB1]) rfl ⟨by rw [E.out], by go_grown⟩
end
end Go.Proofs.YtolfgcoalihmgaaGreatDoor
