/- Texts joined: Db Sd Di. -/
import Derived.Test.YtgngehfgcogceaaGreatDoorZMBj
import Derived.Shelf.GgClosure.StringsRunes
import Derived.Shelf.SlSortCmp.WholeK
import Derived.Ground.SlsfProg
import Derived.Test.YtgngehfgcogceaaGreatDoorProg
import Derived.Test.YtgngehfgcogceaaGreatDoorZDh
import Derived.Lib.QuietBelow
section
/- Contracts: the order of versions once more, with the count of draws, which only grows. -/
namespace Go.Proofs.YtgngehfgcogceaaGreatDoor
open Go.RowKit

set_option maxHeartbeats 2000000 in
set_option maxRecDepth 1000000 in
theorem indexFuncD (s : ByteArray) (w : World) :
    Calls Tryz.prog 137 #[.string s, .func (.func 92) #[] #[], .bool true] w fun e w' => e = .returned (.int .i64 (Lib.idxFunc Pl.notDig true s)) ∧ Below w.heap.size w w' ∧ w.drawn ≤ w'.drawn := by
  have hp := isDig_gives w
  go_enter Tryz.func137, Tryz.ntmps137
  go_wp2
  go_loopg [] s.size (fun gf wx => ∃ pos : Nat, wx.heap[w.heap.size]? = some (.stringIter s pos) ∧ Below w.heap.size w wx ∧ w.drawn ≤ wx.drawn ∧ Lib.idxFuncFrom Pl.notDig true s gf pos = Lib.idxFunc Pl.notDig true s ∧ s.size ≤ pos + gf)
  case atStart => exact ⟨0, World.iter_heap w s 0, (Below.refl _ w).alloc (Nat.le_refl _) _, Nat.le_refl _, rfl, by omega⟩
  case round =>
    obtain ⟨pos, hit, hbw, hdr, hleft, hfu⟩ := hrel
    by_cases hps : pos < s.size
    · obtain ⟨g', rfl⟩ : ∃ g', gk = g' + 1 := ⟨gk - 1, by omega⟩
      have hnx : ∀ ty, (Instr.next (.pointer (some ⟨w.heap.size, 0, none⟩)) true ty).run Tryz.prog wr = _ := fun ty => Lib.run_next_any_at wr w.heap.size s pos ty hit hps
      have hwd := Lib.width_pos s pos
      obtain ⟨R, hR⟩ : ∃ R, (Utf8.decode s pos).1 = R := ⟨_, rfl⟩
      obtain ⟨K, hK⟩ : ∃ K, (Utf8.decode s pos).2 = K := ⟨_, rfl⟩
      simp only [Lib.idxFuncFrom, hps, if_true, hR, hK] at hleft
      rw [hR, hK] at hnx
      rw [hK] at hwd
      have hit2 := Lib.iterAt_heap wr w.heap.size s pos (pos + K) hit
      have hbw2 := Lib.below_iterAt hbw (k := w.heap.size) (Nat.le_refl _) s (pos + K)
      have hdr2 : w.drawn ≤ (wr.iterAt w.heap.size s (pos + K)).drawn := hdr
      obtain ⟨W, hWd⟩ : ∃ W, wr.iterAt w.heap.size s (pos + K) = W := ⟨_, rfl⟩
      rw [hWd] at hnx hit2 hbw2 hdr2
      have cS : Calls Tryz.prog 92 #[.int .i32 (R : Int)] W _ := hp W R (by rw [← hR]; exact Lib.rune_le s pos) hbw2
      clear hp
      cases hsp : Pl.notDig R <;> rw [hsp] at cS <;> simp only [hsp, if_true, Bool.false_eq_true, if_false] at hleft
      · go_wp2_with (go_at_call 92; refine cS.mono ?_; rintro e W' ⟨rfl, q, rfl⟩)
        go_roundg g'
        case measure => omega
        case rel => exact ⟨pos + K, hit2, below_drewN' hbw2 q, Nat.le_trans hdr2 (Nat.le_add_right _ _), hleft, by omega⟩
      · go_wp2_with (go_at_call 92; refine cS.mono ?_; rintro e W' ⟨rfl, q, rfl⟩)
        go_ret
        exact ⟨by rw [← hleft] <;> rfl, below_drewN' hbw2 q, Nat.le_trans hdr2 (Nat.le_add_right _ _)⟩
    · have hnx : ∀ ty, (Instr.next (.pointer (some ⟨w.heap.size, 0, none⟩)) true ty).run Tryz.prog wr = _ := fun ty => Lib.run_next_end_at wr w.heap.size s pos ty hit hps
      rw [Lib.idxFuncFrom_end Pl.notDig true s gk pos hps] at hleft
      go_wp2
      go_ret
      exact ⟨by rw [← hleft] <;> rfl, hbw, hdr⟩
theorem IndexFuncD (s : ByteArray) (w : World) :
    Calls Tryz.prog 120 #[.string s, .func (.func 92) #[] #[]] w fun e w' => e = .returned (.int .i64 (Lib.idxFunc Pl.notDig true s)) ∧ Below w.heap.size w w' ∧ w.drawn ≤ w'.drawn := by
  have c := indexFuncD s w
  obtain ⟨I, hI⟩ : ∃ I, Lib.idxFunc Pl.notDig true s = I := ⟨_, rfl⟩
  rw [hI] at c ⊢
  clear hI
  go_enter Tryz.func120, Tryz.ntmps120
  go_wp2_with (go_at_call 137; refine c.mono ?_; rintro e w' ⟨rfl, hb⟩)
  go_ret
  exact ⟨rfl, hb⟩
theorem ContainsFuncD (s : ByteArray) (w : World) :
    Calls Tryz.prog 91 #[.string s, .func (.func 92) #[] #[]] w fun e w' => e = .returned (.bool (decide (0 ≤ Lib.idxFunc Pl.notDig true s))) ∧ Below w.heap.size w w' ∧ w.drawn ≤ w'.drawn := by
  have c := IndexFuncD s w
  obtain ⟨I, hI⟩ : ∃ I, Lib.idxFunc Pl.notDig true s = I := ⟨_, rfl⟩
  rw [hI] at c ⊢
  clear hI
  go_enter Tryz.func91, Tryz.ntmps91
  go_wp2_with (go_at_call 120; refine c.mono ?_; rintro e w' ⟨rfl, hb⟩)
  go_ret
  exact ⟨rfl, hb⟩
theorem numericD (s : ByteArray) (w : World) (ha : Pl.asciiB (Pl.bsl s) = true) :
    Calls Tryz.prog 71 #[.string s] w fun e w' => e = .returned (.bool (Pl.digsB (Pl.bsl s))) ∧ Below w.heap.size w w' ∧ w.drawn ≤ w'.drawn := by
  have E := Lib.hid (show (!decide (0 ≤ Lib.idxFunc Pl.notDig true s)) = Pl.digsB (Pl.bsl s) by rw [Pl.idx_any ha, Pl.notDig_any, Bool.not_not])
  clear ha
  go_enter Tryz.func71, Tryz.ntmps71
  go_wp2_with (go_at_call 91; refine (ContainsFuncD s _).mono ?_; rintro e w' ⟨rfl, hb⟩)
  go_ret
  exact ⟨ret_bool E.out, hb⟩
set_option maxHeartbeats 1000000 in
theorem compareIdentifiersD (a b : ByteArray) (w : World) (ha : Pl.asciiB (Pl.bsl a) = true) (hb : Pl.asciiB (Pl.bsl b) = true) (_ : a.size ≤ 9223372036854775807) (_ : b.size ≤ 9223372036854775807) :
    Calls Tryz.prog 70 #[.string a, .string b] w fun e w' => e = .returned (.int .i64 (Pl.idc a b)) ∧ Below w.heap.size w w' ∧ w.drawn ≤ w'.drawn := by
  have HA := Lib.hid ha
  have HB := Lib.hid hb
  clear ha hb
  have head : ∀ {P : Int}, Pl.idc a b = P → Hid (P = Pl.idc a b) := fun h => Lib.hid h.symm
  cases d1 : Pl.digsB (Pl.bsl a) <;> cases d2 : Pl.digsB (Pl.bsl b)
  · have E := head (Pl.idCmp_nn d1 d2)
    clear head
    go_enter Tryz.func70, Tryz.ntmps70
    go_wp2_with fail
    refine (numericD _ _ HA.out).mono ?_
    rintro e w1 ⟨rfl, b1, d1'⟩
    go_wp2_with fail
    refine (numericD _ _ HB.out).mono ?_
    rintro e w2 ⟨rfl, b2, d2'⟩
    go_wp2_with (go_at_call 90; refine (Compare_any _ _ _).mono ?_; rintro e w' ⟨rfl, rfl⟩)
    go_ret
    exact ⟨ret_int E.out, bcall b1 b2 b1.size, Nat.le_trans d1' d2'⟩
  · have E := head (Pl.idCmp_nd d1 d2)
    clear head
    go_enter Tryz.func70, Tryz.ntmps70
    go_wp2_with fail
    refine (numericD _ _ HA.out).mono ?_
    rintro e w1 ⟨rfl, b1, d1'⟩
    go_wp2_with fail
    refine (numericD _ _ HB.out).mono ?_
    rintro e w2 ⟨rfl, b2, d2'⟩
    go_wp2_with fail
    go_ret
    exact ⟨ret_int E.out, bcall b1 b2 b1.size, Nat.le_trans d1' d2'⟩
  · have E := head (Pl.idCmp_dn d1 d2)
    clear head
    go_enter Tryz.func70, Tryz.ntmps70
    go_wp2_with fail
    refine (numericD _ _ HA.out).mono ?_
    rintro e w1 ⟨rfl, b1, d1'⟩
    go_wp2_with fail
    refine (numericD _ _ HB.out).mono ?_
    rintro e w2 ⟨rfl, b2, d2'⟩
    go_wp2_with fail
    go_ret
    exact ⟨ret_int E.out, bcall b1 b2 b1.size, Nat.le_trans d1' d2'⟩
  · have E := head (Pl.idCmp_dd d1 d2)
    clear head
    go_enter Tryz.func70, Tryz.ntmps70
    go_wp2_with fail
    refine (numericD _ _ HA.out).mono ?_
    rintro e w1 ⟨rfl, b1, d1'⟩
    go_wp2_with fail
    refine (numericD _ _ HB.out).mono ?_
    rintro e w2 ⟨rfl, b2, d2'⟩
    have B2 := bcall b1 b2 b1.size
    go_wp2_with (first | (go_at_call 90; refine (Compare_any _ _ _).mono ?_; rintro e w' ⟨rfl, rfl⟩) | (go_at_call 68; refine (cmpInt_any _ _ _).mono ?_; rintro e w' ⟨rfl, rfl⟩))
    refine (Or_any [Pl.sgn (a.size : Int) (b.size : Int), Lib.compareBytes (Pl.bsl a) (Pl.bsl b)] _ _ _ (Sl.fresh (C := intVals [Pl.sgn (a.size : Int) (b.size : Int), Lib.compareBytes (Pl.bsl a) (Pl.bsl b)]) rfl rfl (Nat.le_refl _) (by unfold maxLen; simp)) (by simp)).mono ?_
    rintro e w' ⟨rfl, rfl⟩
    go_wp2_with fail
    go_ret
    exact ⟨ret_int E.out, by have h := B2.size; exact B2.alloc h _, Nat.le_trans d1' d2'⟩
set_option maxHeartbeats 1000000 in
theorem CompareFuncD (a b : List ByteArray) (oa ob : Option Addr) (ca cb : Nat) (w : World) (ha : Sl w oa a.length ca 1 (strVals a)) (hb : Sl w ob b.length cb 1 (strVals b)) (la : a.length ≤ 9223372036854775807) (lb : b.length ≤ 9223372036854775807)
    (va : ∀ s ∈ a, Pl.asciiB (Pl.bsl s) = true ∧ s.size ≤ 9223372036854775807) (vb : ∀ s ∈ b, Pl.asciiB (Pl.bsl s) = true ∧ s.size ≤ 9223372036854775807) :
    Calls Tryz.prog 69 #[.slice oa a.length ca, .slice ob b.length cb, .func (.func 70) #[] #[]] w fun e w' => e = .returned (.int .i64 (Pl.lexL Pl.idc a b)) ∧ Below w.heap.size w w' ∧ w.drawn ≤ w'.drawn := by
  have VA := Lib.hid va
  have VB := Lib.hid vb
  clear va vb
  go_enter Tryz.func69, Tryz.ntmps69
  go_wp2
  go_loopw [13] (fun i wr => ∃ k : Nat, k ≤ a.length ∧ k ≤ b.length ∧ i = .int .i64 k ∧ Hid (Pl.EqTo Pl.idc a b k) ∧ Below w.heap.size w wr ∧ w.drawn ≤ wr.drawn) (fun i _ => a.length - (intOf i).toNat)
  case atStart => exact ⟨0, Nat.zero_le _, Nat.zero_le _, rfl, Pl.EqTo.zero _ _ _, Below.refl _ _, Nat.le_refl _⟩
  case round =>
    obtain ⟨k, hk, hkb, rfl, hu, hbw, hdw⟩ := hrel
    have sw := hbw.size
    by_cases hlt : k < a.length
    · obtain ⟨ba, offa, rfl, hla, hca⟩ := ha.strAt (by omega)
      have c1 : wr.cell? ⟨ba, offa + k, none⟩ = some (.string a[k]) := by rw [hbw.cell (p := ⟨ba, offa + k, none⟩) hla]; exact hca k hlt
      by_cases hlt2 : k < b.length
      · obtain ⟨bb, offb, rfl, hlb, hcb⟩ := hb.strAt (by omega)
        have c2 : wr.cell? ⟨bb, offb + k, none⟩ = some (.string b[k]) := by rw [hbw.cell (p := ⟨bb, offb + k, none⟩) hlb]; exact hcb k hlt2
        have v1 := Lib.hid (VA.out _ (List.getElem_mem hlt))
        have v2 := Lib.hid (VB.out _ (List.getElem_mem hlt2))
        have st := Lib.hid (fun h => hu.out.succ hlt hlt2 h)
        have en := Lib.hid (fun h => Pl.lexL_at hu.out hlt hlt2 h)
        clear hca hcb
        generalize a[k] = x at *
        generalize b[k] = y at *
        by_cases hz : Pl.idc x y = 0
        · have t1 := bneF hz
          have t2 := beqT hz
          have st := Lib.hid (st.out hz)
          clear en hz
          go_wp2_with (go_at_call 70; refine (compareIdentifiersD x y _ v1.out.1 v2.out.1 v1.out.2 v2.out.2).mono ?_; rintro e w1 ⟨rfl, b1, d1⟩)
          go_roundw
          case rel => exact ⟨k + 1, hlt, hlt2, by go_num, st, bcall hbw b1 hbw.size, Nat.le_trans hdw d1⟩
          case measure => simp [intOf]; omega
        · have t1 := bneT hz
          have t2 := beqF hz
          have en := Lib.hid (en.out hz)
          clear st hz
          go_wp2_with (go_at_call 70; refine (compareIdentifiersD x y _ v1.out.1 v2.out.1 v1.out.2 v2.out.2).mono ?_; rintro e w1 ⟨rfl, b1, d1⟩)
          go_ret
          exact ⟨ret_int en.out.symm, bcall hbw b1 hbw.size, Nat.le_trans hdw d1⟩
      · have E := Lib.hid (show Pl.lexL Pl.idc a b = 1 by
          rw [Pl.lexL_end hu.out hk hkb (by omega)]; exact Pl.sgn_gt (by omega))
        clear hca
        generalize a[k] = x at *
        go_wp2_with fail
        go_ret
        exact ⟨ret_int E.out.symm, hbw, hdw⟩
    · have E := Lib.hid (show Pl.lexL Pl.idc a b = Pl.sgn (a.length : Int) (b.length : Int) from Pl.lexL_end hu.out hk hkb (by omega))
      have hab : a.length ≤ b.length := by omega
      by_cases hl : a.length < b.length
      · rw [Pl.sgn_lt (by omega)] at E
        go_wp2_with fail
        go_ret
        exact ⟨ret_int E.out.symm, hbw, hdw⟩
      · rw [Pl.sgn_zero.2 (by omega)] at E
        go_wp2_with fail
        go_ret
        exact ⟨ret_int E.out.symm, hbw, hdw⟩

set_option maxHeartbeats 1000000 in
theorem OrderD (x y : Pl.Ver) (a b : Option Addr) (c d : Nat) (w : World) (hx : VOk w x a c) (hy : VOk w y b d) :
    Calls Tryz.prog 46 #[verV x a c, verV y b d] w fun e w' => e = .returned (.int .i64 (Pl.verCmp x y)) ∧ Below w.heap.size w w' ∧ w.drawn ≤ w'.drawn := by
  have lx := hx.mem.len
  have ly := hy.mem.len
  have HX := Lib.hid hx
  have HY := Lib.hid hy
  clear hx hy
  obtain ⟨N, hN⟩ : ∃ N, Pl.numC x y = N := ⟨_, rfl⟩
  have hcs := Pl.numC_cases x y
  rw [hN] at hcs
  have HN := Lib.hid hN
  have HC := Lib.hid hcs
  clear hN hcs
  go_enter Tryz.func46, Tryz.ntmps46
  go_wp2_with fail
  refine wp_region_ord [0, 1, 2, 3, 5, 6, 7, 8, 10, 11, 12, 13, 4, 9, 14, 15, 16, 17] (by kernel_rfl) (by kernel_rfl) ?_
  repeat (refine wpI_rd rfl rfl ?_; go_big_quiet_step (fail); refine wpQuiet_nil ?_)
  refine wpI_call (f := 68) (args := #[.int .i64 x.maj, .int .i64 y.maj]) rfl rfl rfl (by simp [go_sem]) ?_
  refine (cmpInt_any _ _ _).mono ?_
  rintro e w' ⟨rfl, rfl⟩
  refine ⟨_, rfl, Below.refl _ _, ?_⟩
  try simp only [Act.put, List.setIfInBounds_toArray, List.set_cons_zero, List.set_cons_succ]
  refine wpI_call (f := 68) (args := #[.int .i64 x.min, .int .i64 y.min]) rfl rfl rfl (by simp [go_sem]) ?_
  refine (cmpInt_any _ _ _).mono ?_
  rintro e w' ⟨rfl, rfl⟩
  refine ⟨_, rfl, Below.refl _ _, ?_⟩
  try simp only [Act.put, List.setIfInBounds_toArray, List.set_cons_zero, List.set_cons_succ]
  refine wpI_call (f := 68) (args := #[.int .i64 x.pat, .int .i64 y.pat]) rfl rfl rfl (by simp [go_sem]) ?_
  refine (cmpInt_any _ _ _).mono ?_
  rintro e w' ⟨rfl, rfl⟩
  refine ⟨_, rfl, Below.refl _ _, ?_⟩
  try simp only [Act.put, List.setIfInBounds_toArray, List.set_cons_zero, List.set_cons_succ]
  refine wpI_add rfl rfl rfl (u := .slice (some ⟨w.heap.size + 2, 0, none⟩) 3 3) (w' := (((w.alloc (.cells #[.int .i64 x.maj, .int .i64 x.min, .int .i64 x.pat, .slice a x.pre.length c] 48)).alloc (.cells #[.int .i64 y.maj, .int .i64 y.min, .int .i64 y.pat, .slice b y.pre.length d] 48)).drew.alloc (.cells #[.int .i64 (Pl.sgn x.maj y.maj), .int .i64 (Pl.sgn x.min y.min), .int .i64 (Pl.sgn x.pat y.pat)] 3))) (by simp [go_sem]) (Below.ext ((Below.refl _ _).alloc (Nat.le_refl _) _)) ?_
  try simp only [Act.put, List.setIfInBounds_toArray, List.set_cons_zero, List.set_cons_succ]
  refine wpI_call (f := 67) (args := #[.slice (some ⟨w.heap.size + 2, 0, none⟩) 3 3]) rfl rfl rfl (by simp [go_sem]) ?_
  refine (Or_any [Pl.sgn x.maj y.maj, Pl.sgn x.min y.min, Pl.sgn x.pat y.pat] _ _ _ (Sl.fresh (C := intVals [Pl.sgn x.maj y.maj, Pl.sgn x.min y.min, Pl.sgn x.pat y.pat]) (by simp) rfl (Nat.le_refl _) (by unfold maxLen; simp)) (by simp)).mono ?_
  rintro e w' ⟨rfl, rfl⟩
  refine ⟨_, rfl, Below.refl _ _, ?_⟩
  rw [show Pl.orL [Pl.sgn x.maj y.maj, Pl.sgn x.min y.min, Pl.sgn x.pat y.pat] = N from HN.out]
  try simp only [Act.put, List.setIfInBounds_toArray, List.set_cons_zero, List.set_cons_succ]
  repeat (refine wpI_rd rfl rfl ?_; go_big_quiet_step (fail); refine wpQuiet_nil ?_)
  refine wpI_nil ?_
  try simp only [Act.put, List.setIfInBounds_toArray, List.set_cons_zero, List.set_cons_succ]
  rcases HC.out with ⟨h0, E⟩ | ⟨h0, e1, e2, e3⟩
  · have t1 := bneT h0
    have t2 := beqF h0
    replace E := Lib.hid E
    clear h0
    go_wp2_with fail
    go_ret
    exact ⟨ret_int E.out.symm, by go_grown, by first | exact Nat.le_refl _ | exact Nat.le_succ _⟩
  · have t1 := bneF h0
    have t2 := beqT h0
    have E := Lib.hid (Pl.vc4 e1 e2 e3)
    clear h0 e1 e2 e3
    by_cases p1 : x.pre.length = 0 <;> by_cases p2 : y.pre.length = 0
    · have q1 : ((x.pre.length : Int) == 0) = true := beqT (by omega)
      have q2 : ((y.pre.length : Int) == 0) = true := beqT (by omega)
      have E2 := Lib.hid (show Pl.lexL Pl.idc x.pre y.pre = Pl.verCmp x y by rw [E.out, if_pos (.inl p1), p1, p2, List.length_eq_zero_iff.1 p1, List.length_eq_zero_iff.1 p2]; rfl)
      clear p1 p2
      go_wp2_with fail
      refine (CompareFuncD x.pre y.pre a b c d _ (HX.out.mem.sl.below (by go_grown) (Nat.le_refl _)) (HY.out.mem.sl.below (by go_grown) (Nat.le_refl _)) lx ly (fun s hs => ⟨Pl.ident_ascii (HX.out.ok s hs), HX.out.mem.ss s hs⟩) (fun s hs => ⟨Pl.ident_ascii (HY.out.ok s hs), HY.out.mem.ss s hs⟩)).mono ?_
      rintro e w1 ⟨rfl, b1, d1⟩
      have B1 : Below w.heap.size w w1 := bcall (by go_grown) b1 (by go_size)
      clear b1
      go_wp2_with fail
      go_ret
      exact ⟨ret_int E2.out, B1, Nat.le_trans (by first | exact Nat.le_refl _ | exact Nat.le_succ _ | (simp [World.drew, World.alloc]; done)) d1⟩
    · have q1 : ((x.pre.length : Int) == 0) = true := beqT (by omega)
      have q2 : ((y.pre.length : Int) == 0) = false := beqF (by omega)
      have E2 := Lib.hid (show Pl.sgn (y.pre.length : Int) (x.pre.length : Int) = Pl.verCmp x y by rw [E.out, if_pos (.inl p1)])
      clear p1 p2
      go_wp2_with (go_at_call 68; refine (cmpInt_any _ _ _).mono ?_; rintro e w' ⟨rfl, rfl⟩)
      go_ret
      exact ⟨ret_int E2.out, by go_grown, by first | exact Nat.le_refl _ | exact Nat.le_succ _⟩
    · have q1 : ((x.pre.length : Int) == 0) = false := beqF (by omega)
      have q2 : ((y.pre.length : Int) == 0) = true := beqT (by omega)
      have E2 := Lib.hid (show Pl.sgn (y.pre.length : Int) (x.pre.length : Int) = Pl.verCmp x y by rw [E.out, if_pos (.inr p2)])
      clear p1 p2
      go_wp2_with (go_at_call 68; refine (cmpInt_any _ _ _).mono ?_; rintro e w' ⟨rfl, rfl⟩)
      go_ret
      exact ⟨ret_int E2.out, by go_grown, by first | exact Nat.le_refl _ | exact Nat.le_succ _⟩
    · have q1 : ((x.pre.length : Int) == 0) = false := beqF (by omega)
      have q2 : ((y.pre.length : Int) == 0) = false := beqF (by omega)
      have E2 := Lib.hid (show Pl.lexL Pl.idc x.pre y.pre = Pl.verCmp x y by rw [E.out, if_neg (by omega)])
      clear p1 p2
      go_wp2_with fail
      refine (CompareFuncD x.pre y.pre a b c d _ (HX.out.mem.sl.below (by go_grown) (Nat.le_refl _)) (HY.out.mem.sl.below (by go_grown) (Nat.le_refl _)) lx ly (fun s hs => ⟨Pl.ident_ascii (HX.out.ok s hs), HX.out.mem.ss s hs⟩) (fun s hs => ⟨Pl.ident_ascii (HY.out.ok s hs), HY.out.mem.ss s hs⟩)).mono ?_
      rintro e w1 ⟨rfl, b1, d1⟩
      have B1 : Below w.heap.size w w1 := bcall (by go_grown) b1 (by go_size)
      clear b1
      go_wp2_with fail
      go_ret
      exact ⟨ret_int E2.out, B1, Nat.le_trans (by first | exact Nat.le_refl _ | exact Nat.le_succ _ | (simp [World.drew, World.alloc]; done)) d1⟩
end Go.Proofs.YtgngehfgcogceaaGreatDoor

end
section
/- Library contract at this program: sorting intervals by a function. -/
namespace Go.Proofs
open Go.Shelf
def Tryz.sortIv_ren : Go.Shelf.Ren := ⟨fun | 6 => 57 | 15 => 78 | 14 => 77 | 28 => 106 | 29 => 107 | 20 => 98 | 21 => 99 | 22 => 100 | 23 => 101 | 24 => 102 | 25 => 103 | 26 => 104 | 27 => 105 | 46 => 126 | 47 => 127 | 48 => 128 | 49 => 129 | 50 => 130 | 57 => 140 | n => n, fun | 22 => 42 | 24 => 103 | 25 => 119 | 3 => 3 | 39 => 147 | 0 => 0 | 53 => 171 | 55 => 150 | 4 => 4 | 46 => 165 | 45 => 164 | 50 => 100 | 5 => 5 | 9 => 9 | 66 => 186 | 70 => 136 | 76 => 204 | 77 => 205 | n => n, fun | n => n⟩
theorem Tryz.sortIv : Go.Proofs.SlLaysF0.n6 Tryz.prog Tryz.sortIv_ren := {
  mixed := by kernel_rfl
  f6 := ⟨Tryz.f57.name, by decide, Tryz.func57.trans (congrArg some (by kernel_rfl))⟩
  f14 := ⟨Tryz.f77.name, by decide, Tryz.func77.trans (congrArg some (by kernel_rfl))⟩
  f15 := Tryz.func78.trans (congrArg some (by kernel_rfl))
  f20 := ⟨Tryz.f98.name, by decide, Tryz.func98.trans (congrArg some (by kernel_rfl))⟩
  f21 := ⟨Tryz.f99.name, by decide, Tryz.func99.trans (congrArg some (by kernel_rfl))⟩
  f22 := ⟨Tryz.f100.name, by decide, Tryz.func100.trans (congrArg some (by kernel_rfl))⟩
  f23 := ⟨Tryz.f101.name, by decide, Tryz.func101.trans (congrArg some (by kernel_rfl))⟩
  f24 := ⟨Tryz.f102.name, by decide, Tryz.func102.trans (congrArg some (by kernel_rfl))⟩
  f25 := ⟨Tryz.f103.name, by decide, Tryz.func103.trans (congrArg some (by kernel_rfl))⟩
  f26 := ⟨Tryz.f104.name, by decide, Tryz.func104.trans (congrArg some (by kernel_rfl))⟩
  f27 := ⟨Tryz.f105.name, by decide, Tryz.func105.trans (congrArg some (by kernel_rfl))⟩
  f28 := Tryz.func106.trans (congrArg some (by kernel_rfl))
  f29 := Tryz.func107.trans (congrArg some (by kernel_rfl))
  f46 := ⟨Tryz.f126.name, by decide, Tryz.func126.trans (congrArg some (by kernel_rfl))⟩
  f47 := Tryz.func127.trans (congrArg some (by kernel_rfl))
  f48 := Tryz.func128.trans (congrArg some (by kernel_rfl))
  f49 := ⟨Tryz.f129.name, by decide, Tryz.func129.trans (congrArg some (by kernel_rfl))⟩
  f50 := ⟨Tryz.f130.name, by decide, Tryz.func130.trans (congrArg some (by kernel_rfl))⟩
  f57 := ⟨Tryz.f140.name, by decide, Tryz.func140.trans (congrArg some (by kernel_rfl))⟩
  t0 := Tryz.underlying0
  a0 := Tryz.isAgg0
  z0 := Tryz.sizeOf0
  v0 := Tryz.zeroValue0
  t3 := Tryz.underlying3
  a3 := Tryz.isAgg3
  z3 := Tryz.sizeOf3
  v3 := Tryz.zeroValue3
  t4 := Tryz.underlying4
  a4 := Tryz.isAgg4
  z4 := Tryz.sizeOf4
  v4 := Tryz.zeroValue4
  t5 := Tryz.underlying5
  a5 := Tryz.isAgg5
  z5 := Tryz.sizeOf5
  v5 := Tryz.zeroValue5
  t9 := Tryz.underlying9
  a9 := Tryz.isAgg9
  z9 := Tryz.sizeOf9
  v9 := Tryz.zeroValue9
  t22 := Tryz.underlying42
  a22 := Tryz.isAgg42
  z22 := Tryz.sizeOf42
  v22 := Tryz.zeroValue42
  t25 := Tryz.underlying119
  a25 := Tryz.isAgg119
  z25 := Tryz.sizeOf119
  v25 := Tryz.zeroValue119
  t39 := Tryz.underlying147
  a39 := Tryz.isAgg147
  z39 := Tryz.sizeOf147
  v39 := Tryz.zeroValue147
  t45 := Tryz.underlying164
  a45 := Tryz.isAgg164
  z45 := Tryz.sizeOf164
  v45 := Tryz.zeroValue164
  t46 := Tryz.underlying165
  a46 := Tryz.isAgg165
  z46 := Tryz.sizeOf165
  v46 := Tryz.zeroValue165
  t50 := Tryz.underlying100
  a50 := Tryz.isAgg100
  z50 := Tryz.sizeOf100
  v50 := Tryz.zeroValue100
  t53 := Tryz.underlying171
  a53 := Tryz.isAgg171
  z53 := Tryz.sizeOf171
  v53 := Tryz.zeroValue171
  t55 := Tryz.underlying150
  a55 := Tryz.isAgg150
  z55 := Tryz.sizeOf150
  v55 := Tryz.zeroValue150
  t66 := Tryz.underlying186
  a66 := Tryz.isAgg186
  z66 := Tryz.sizeOf186
  v66 := Tryz.zeroValue186
  t70 := Tryz.underlying136
  a70 := Tryz.isAgg136
  z70 := Tryz.sizeOf136
  v70 := Tryz.zeroValue136
  t76 := Tryz.underlying204
  a76 := Tryz.isAgg204
  z76 := Tryz.sizeOf204
  v76 := Tryz.zeroValue204
  t77 := Tryz.underlying205
  a77 := Tryz.isAgg205
  z77 := Tryz.sizeOf205
  v77 := Tryz.zeroValue205 }
end Go.Proofs

end
section
/- Contract: intervals sorted by their lower bounds. -/
namespace Go.Proofs.YtgngehfgcogceaaGreatDoor
open Go.RowKit Go.Sort
open Go.Shelf

theorem isortNone (p : Option Addr) (cap : Nat) (fv : Value) (w : World) :
    Calls Tryz.prog 98 #[.slice p 0 cap, .int .i64 0, .int .i64 0, fv] w fun e w' => e = .returned (.tuple #[]) ∧ w = w' := by
  go_enter Tryz.func98, Tryz.ntmps98
  go_wp2
  refine wp_loop_rounds 1 ?_
  rw [rounds_succ]
  go_wp2
  go_end0
  exact ⟨rfl, rfl⟩
theorem pdqNone (p : Option Addr) (cap : Nat) (lim : Int) (fv : Value) (w : World) :
    Calls Tryz.prog 77 #[.slice p 0 cap, .int .i64 0, .int .i64 0, .int .i64 lim, fv] w fun e w' => e = .returned (.tuple #[]) ∧ w = w' := by
  go_enter Tryz.func77, Tryz.ntmps77
  go_wp2
  refine wp_loop_rounds 1 ?_
  rw [rounds_succ]
  go_wp2_with (go_at_call 98; refine (isortNone _ _ _ _).mono ?_; rintro e w' ⟨rfl, rfl⟩)
  (try simp only [Exit.inBlock, Exit.then]); refine bodyPost_ret (results_none rfl _ _ _) rfl ?_
  exact ⟨rfl, rfl⟩
theorem sortNone (p : Option Addr) (cap : Nat) (fv : Value) (w : World) :
    Calls Tryz.prog 57 #[.slice p 0 cap, fv] w fun e w' => e = .returned (.tuple #[]) ∧ w = w' := by
  have hl : ∀ W, Calls Tryz.prog 78 #[.int .u64 0] W fun e w' => e = .returned (.int .i64 (Lib.bitLen 0 : Nat)) ∧ w' = W := fun W => by
    have h := Any.bits_Len (SlLaysF0.n15.bits (P := Tryz.prog) (ρ := Tryz.sortIv_ren) { Tryz.sortIv with }) 0 W (by omega) (by omega)
    exact h
  go_enter Tryz.func57, Tryz.ntmps57
  go_wp2_with (first | (go_at_call 78; refine (hl _).mono ?_; rintro e w' ⟨rfl, rfl⟩) | (go_at_call 77; refine (pdqNone _ _ _ _ _).mono ?_; rintro e w' ⟨rfl, rfl⟩))
  go_end0
  exact ⟨rfl, rfl⟩

/-- An interval and where its identifiers lie. -/
structure IvA where
  x : Pl.Ivl
  a : Option Addr
  b : Option Addr
  c : Nat
  d : Nat
def IvA.enc (y : IvA) : List Value := ivC y.x y.a y.b y.c y.d
structure IvA.Good (w : World) (blk : Nat) (y : IvA) : Prop where
  ok : y.x.Ok
  lo : VIn w y.x.lo y.a y.c
  hi : VIn w y.x.hi y.b y.d
  ql : SlQ (fun b => some b ≠ some blk) y.a y.x.lo.pre.length
  qh : SlQ (fun b => some b ≠ some blk) y.b y.x.hi.pre.length
abbrev IvG (w : World) (blk : Nat) := {y : IvA // IvA.Good w blk y}
instance (w : World) (blk : Nat) : Inhabited (IvG w blk) := ⟨⟨⟨⟨Pl.Ver.zero, Pl.Ver.zero, true⟩, none, none, 0, 0⟩, ⟨Pl.zero_ok, Pl.zero_ok, fun _ => rfl, fun h => Bool.noConfusion h⟩, VIn.zero w, VIn.zero w, .inl rfl, .inl rfl⟩⟩
def encG {w : World} {blk : Nat} (y : IvG w blk) : List Value := y.1.enc
def cmpG {w : World} {blk : Nat} (x y : IvG w blk) : Int := Pl.verCmp x.1.x.lo y.1.x.lo
theorem sortWorld_grown {α : Type} [Inhabited α] (enc : α → List Value) (k : Nat) (w : World) (blk off m : Nat) (dk : Array α) (os : Array Obj) : w.grownBy (sortWorldK enc k w blk off m dk os) (some blk) := by
  refine ⟨rfl, rfl, rfl, ?_, fun b hb hr => ?_⟩
  · simp [sortWorldK, grow, putRowK, putRow, mapBlock]
  · have hne : b ≠ blk := fun e => hr (by rw [e])
    simp only [sortWorldK, grow, putRowK, putRow, mapBlock]
    rw [Array.getElem?_append_left (by simpa using hb), Array.getElem?_modify, if_neg (fun e => hne e.symm)]
    rfl
theorem grow_form {w w' : World} (h : Below w.heap.size w w') (hd : w.drawn ≤ w'.drawn) : ∃ q os, w' = grow (w.drewN q) os := by
  obtain ⟨⟨d, os⟩, rfl⟩ := regrown_of_below h
  refine ⟨d - w.drawn, os, ?_⟩
  have e : w.drawn + (d - w.drawn) = d := by
    have h2 : w.drawn ≤ d := hd
    omega
  simp only [World.drewN, redrawn, e]
set_option maxHeartbeats 1000000 in
theorem join1_any (x y : Pl.Ivl) (a1 b1 a2 b2 : Option Addr) (c1 d1 c2 d2 : Nat) (w : World) (h1 : VIn w x.lo a1 c1) (h2 : VIn w y.lo a2 c2) (okx : x.Ok) (oky : y.Ok) :
    Calls Tryz.prog 58 #[ivV x a1 b1 c1 d1, ivV y a2 b2 c2 d2] w fun e w' => e = .returned (.int .i64 (Pl.verCmp x.lo y.lo)) ∧ Below w.heap.size w w' ∧ w.drawn ≤ w'.drawn := by
  obtain ⟨k, hk⟩ : ∃ k, Pl.verCmp x.lo y.lo = k := ⟨_, rfl⟩
  have CO := Lib.hid (fun (W : World) (g1 : VIn W x.lo a1 c1) (g2 : VIn W y.lo a2 c2) => OrderD x.lo y.lo a1 a2 c1 c2 W (VOk.of g1 okx.lo) (VOk.of g2 oky.lo))
  rw [hk] at CO ⊢
  have L := Lib.hid h1
  have R := Lib.hid h2
  clear h1 h2 okx oky hk
  go_enter Tryz.func58, Tryz.ntmps58
  have B0 : Below w.heap.size w w := Below.refl _ _
  go_wp2_with fail
  refine (CO.out _ (L.out.below (by go_grown) (Nat.le_refl _)) (R.out.below (by go_grown) (Nat.le_refl _))).mono ?_
  rintro e w1 ⟨rfl, hb, hd⟩
  have B1 : Below w.heap.size w w1 := bcall (by go_grown) hb (by go_size)
  have D1 : w.drawn ≤ w1.drawn := hd
  clear hb hd
  go_wp2_with fail
  go_ret
  exact ⟨rfl, B1, D1⟩
theorem cmpLays {w : World} {blk : Nat} (off size : Nat) : CmpLays Tryz.prog 58 #[] (encG (w := w) (blk := blk)) 9 cmpG blk off size w := fun m os dk _ x y => by
  have hg := sortWorld_grown (encG (w := w) (blk := blk)) 9 w blk off m dk os
  refine (join1_any x.1.x y.1.x x.1.a x.1.b y.1.a y.1.b x.1.c x.1.d y.1.c y.1.d _ (x.2.lo.grown hg x.2.ql) (y.2.lo.grown hg y.2.ql) x.2.ok y.2.ok).mono ?_
  rintro e w' ⟨rfl, hb, hd⟩
  exact ⟨rfl, grow_form hb hd⟩
theorem cmpG_swo {w : World} {blk : Nat} : SWO (ltOf (cmpG (w := w) (blk := blk))) where
  irrefl x := by unfold ltOf cmpG; rw [Pl.vc_self]; rfl
  trans x y z h1 h2 := by
    unfold ltOf cmpG at *
    rw [decide_eq_true_eq] at *
    exact Pl.vc_lt h1 (by omega)
  ntrans x y z h1 h2 := by
    unfold ltOf cmpG at *
    rw [decide_eq_false_iff_not] at *
    exact fun h => (Pl.vc_nlt (Pl.vc_tr (Pl.vc_le h2) (Pl.vc_le h1))) h
/-- The intervals of a row as they lie. -/
theorem ivg_list {w : World} {B B0 : Nat} {r : List Pl.Ivl} {n g c : Nat} (h : ROwn w B B0 r (.slice (some ⟨g, 0, none⟩) n c) n) (ok : ∀ x ∈ r, x.Ok) : ∃ ys : List (IvG w g), ys.map (fun y => y.1.x) = r ∧ ∀ j (hj : j < ys.length), ∀ i u, (encG ys[j])[i]? = some u → w.cell? ⟨g, j * 9 + i, none⟩ = some u := by
  obtain ⟨cs, h1, h2⟩ := h.mem
  have hc : ∀ j u, cs[j]? = some u → w.cell? ⟨g, 0 + j, none⟩ = some u := fun j u hu => by
    have := h1.cells (g := g) rfl j u hu
    rwa [addr_add] at this
  have key := h2.cells (off := 0) hc
  clear h1 h2 hc
  have : ∀ (k : Nat), k ≤ r.length → ∃ ys : List (IvG w g), ys.map (fun y => y.1.x) = r.take k ∧ ∀ j (hj : j < ys.length), ∀ i u, (encG ys[j])[i]? = some u → w.cell? ⟨g, j * 9 + i, none⟩ = some u := by
    intro k
    induction k with
    | zero => intro _; exact ⟨[], by simp, fun j hj => absurd hj (by simp)⟩
    | succ k ih =>
      intro hk
      obtain ⟨ys, e, hy⟩ := ih (by omega)
      obtain ⟨es, ⟨a1, b1, c1, d1, rfl, v1, v2, q1, q2⟩, hes⟩ := key k (by omega)
      have hl : ys.length = k := by have := congrArg List.length e; simp at this; omega
      refine ⟨ys ++ [⟨⟨r[k], a1, b1, c1, d1⟩, ok _ (List.getElem_mem _), v1, v2, q1.mono fun _ h => h.2, q2.mono fun _ h => h.2⟩], ?_, fun j hj i u hu => ?_⟩
      · rw [List.map_append, e, List.take_succ_eq_append_getElem (show k < r.length by omega)]; rfl
      · by_cases hjk : j < ys.length
        · rw [List.getElem_append_left hjk] at hu
          exact hy j hjk i u hu
        · have ej : j = k := by simp at hj; omega
          subst ej
          rw [List.getElem_append_right (by omega)] at hu
          have := hes i u (by simpa [encG, IvA.enc] using hu)
          rwa [Nat.zero_add] at this
  obtain ⟨ys, e, hy⟩ := this r.length (Nat.le_refl _)
  exact ⟨ys, by rw [e, List.take_length], hy⟩
theorem encG_len {w : World} {blk : Nat} (y : IvG w blk) : (encG y).length = 9 := rfl
theorem encG_one {w : World} {blk : Nat} (y : IvG w blk) : ∀ v ∈ encG y, v.oneCell' = true := List.all_eq_true.1 rfl
set_option maxHeartbeats 1000000 in
theorem sortI_any (r : List Pl.Ivl) (oa : Option Addr) (n c B B0 : Nat) (w : World) (h : ROwn w B B0 r (.slice oa n c) n) (ok : ∀ x ∈ r, x.Ok) (hn : n ≤ 2000010) :
    Calls Tryz.prog 57 #[.slice oa n c, .func (.func 58) #[] #[]] w fun e w' => e = .returned (.tuple #[]) ∧ ∃ s, (∀ x, x ∈ s ↔ x ∈ r) ∧ s.length = n ∧ s.Pairwise Pl.LoLe ∧ RIn w' s oa c ∧ Below B w w' := by
  by_cases h0 : n = 0
  · subst h0
    refine (sortNone oa c _ w).mono ?_
    rintro e w' ⟨rfl, rfl⟩
    have hr : r = [] := List.length_eq_zero_iff.1 h.len
    exact ⟨rfl, r, fun x => Iff.rfl, h.len, by rw [hr]; exact List.Pairwise.nil, h.rin, Below.refl _ _⟩
  · obtain ⟨cs0, own, -⟩ := h.mem
    rcases own.2 with ⟨-, e⟩ | ⟨g, cap, cur, hv, hbg, hgg, hcap, hmax, -, -⟩
    · exact absurd e h0
    · injection hv with e1 e2 e3
      subst e1 e3
      have hlt := (Array.getElem?_eq_some_iff.1 hgg).1
      obtain ⟨ys, hys, hcell⟩ := ivg_list h ok
      have hyl : ys.length = n := by have := congrArg List.length hys; rw [List.length_map, h.len] at this; exact this
      have hH : HoldsK (encG (w := w) (blk := g)) 9 w g 0 ys.toArray := fun j hj => by
        have hj' : j < ys.toArray.size * 9 := by simpa using hj
        rw [get_flatK _ _ _ _ hj']
        have hq : j / 9 < ys.length := by simp at hj'; omega
        refine ⟨?_, ?_⟩
        · have e1 : ys.toArray[j / 9]! = ys[j / 9] := by rw [getElem!_pos _ _ (by simpa using hq)]; simp
          have e2 : j % 9 < (encG ys[j / 9]).length := by rw [encG_len]; omega
          have := hcell (j / 9) hq (j % 9) _ (List.getElem?_eq_getElem e2)
          rw [e1, getElem!_pos (encG ys[j / 9]) (j % 9) e2]
          rw [show j / 9 * 9 + j % 9 = 0 + j by omega] at this
          exact this
        · simp only [World.frozen?, hgg]
          simp
      have C := AnyQ.slices_SortFunc Tryz.sortIv 9 Tryz.isAgg103 Tryz.sizeOf103 encG encG_len encG_one cmpG cmpG_swo 58 #[] g 0 c ys.toArray w (enters_of Tryz.func58 (by kernel_rfl) rfl) (cmpLays 0 _) hH hlt (by simp; omega)
      rw [show ys.toArray.size = n by simpa using hyl] at C
      refine C.mono ?_
      rintro e w' ⟨rfl, d', m, os, ⟨hs, -, hperm⟩, hsort, rfl⟩
      have hds : d'.size = n := by rw [hs]; simpa using hyl
      have hg := sortWorld_grown (encG (w := w) (blk := g)) 9 w g 0 m d' os
      have hP : d'.toList.Perm ys := by
        have e1 : d'.extract 0 n = d' := by rw [← hds]; simp
        have e2 : ys.toArray.extract 0 n = ys.toArray := by rw [← hyl]; simp
        rw [e1, e2] at hperm
        simpa using hperm
      have hHK := holdsK_sortWorldK_c (encG (w := w) (blk := g)) 9 w g 0 ys.toArray d' m os hH hlt (by rw [hs])
      refine ⟨rfl, d'.toList.map (fun y => y.1.x), fun x => ?_, by simpa using hds, List.pairwise_iff_getElem.2 fun i j hi hj hij => ?_, ?_, (Below.refl B w).grown hg (by omega) fun k hk => by cases hk; exact hbg⟩
      · rw [← hys, (hP.map _).mem_iff]
      · have hi' : i < d'.size := by simpa using hi
        have hj' : j < d'.size := by simpa using hj
        have := hsort i j (Nat.zero_le _) hij (by omega)
        unfold ltOf cmpG at this
        rw [decide_eq_false_iff_not, getElem!_pos d' j hj', getElem!_pos d' i hi'] at this
        unfold Pl.LoLe
        simp only [List.getElem_map, Array.getElem_toList]
        exact Pl.vc_le this
      · obtain ⟨cs, hE, hc⟩ := Elems.of (P := IvIs (sortWorldK (encG (w := w) (blk := g)) 9 w g 0 m d' os)) (fun _ _ h => h.len) (w := sortWorldK (encG (w := w) (blk := g)) 9 w g 0 m d' os) (b := g) (d'.toList.map (fun y => y.1.x)) 0 fun i hi => by
          have hi' : i < d'.size := by simpa using hi
          refine ⟨encG d'[i], ?_, fun j u hu => ?_⟩
          · simp only [List.getElem_map, Array.getElem_toList]
            exact ⟨_, _, _, _, rfl, d'[i].2.lo.grown hg d'[i].2.ql, d'[i].2.hi.grown hg d'[i].2.qh⟩
          · have hj : j < 9 := by have := (List.getElem?_eq_some_iff.1 hu).1; rwa [encG_len] at this
            have := (hHK (i * 9 + j) (by simp; omega)).1
            rw [get_flatK _ _ _ _ (by omega), show (i * 9 + j) / 9 = i by omega, show (i * 9 + j) % 9 = j by omega, getElem!_pos d' i hi', getElem!_pos (encG d'[i]) j (by rw [encG_len]; exact hj)] at this
            rw [show 0 + i * 9 + j = 0 + (i * 9 + j) by omega, this]
            rw [List.getElem?_eq_getElem (by rw [encG_len]; exact hj)] at hu
            exact hu
        exact ⟨cs, ⟨hE.len, by simpa [hds] using hcap, hmax, .inr ⟨g, 0, rfl, Nat.lt_of_lt_of_le hlt hg.size, hc⟩⟩, hE⟩
end Go.Proofs.YtgngehfgcogceaaGreatDoor

end
