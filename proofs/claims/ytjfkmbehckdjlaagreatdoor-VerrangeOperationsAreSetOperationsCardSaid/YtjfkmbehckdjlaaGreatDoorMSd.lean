/- Texts joined: Db Sd. -/
import Derived.Test.YtjfkmbehckdjlaaGreatDoorMBj
import Derived.Shelf.GgClosure.StringsRunes
import Derived.Shelf.SlSortCmp.WholeK
import Derived.Ground.SlsfProg
import Derived.Test.YtjfkmbehckdjlaaGreatDoorProg
section
/- Contracts: the order of versions once more, with the count of draws, which only grows. -/
namespace Go.Proofs.YtjfkmbehckdjlaaGreatDoor
open Go.RowKit

set_option maxHeartbeats 2000000 in
set_option maxRecDepth 1000000 in
theorem indexFuncD (s : ByteArray) (w : World) :
    Calls Tryz.prog 183 #[.string s, .func (.func 133) #[] #[], .bool true] w fun e w' => e = .returned (.int .i64 (Lib.idxFunc Pl.notDig true s)) ∧ Below w.heap.size w w' ∧ w.drawn ≤ w'.drawn := by
  have hp := isDig_gives w
  go_enter Tryz.func183, Tryz.ntmps183
  go_wp2
  go_loopg [] s.size (fun gf wx => ∃ pos : Nat, wx.heap[w.heap.size]? = some (.stringIter s pos) ∧ Below w.heap.size w wx ∧ w.drawn ≤ wx.drawn ∧ Lib.idxFuncFrom Pl.notDig true s gf pos = Lib.idxFunc Pl.notDig true s ∧ s.size ≤ pos + gf)
  case atStart => exact ⟨0, World.iter_heap w s 0, (Below.refl _ w).alloc (Nat.le_refl _) _, Nat.le_refl _, rfl, by omega⟩
  case round =>
    obtain ⟨pos, hit, hbw, hdr, hleft, hfu⟩ := hrel
    by_cases hps : pos < s.size
    · obtain ⟨g', rfl⟩ : ∃ g', gk = g' + 1 := ⟨gk - 1, by omega⟩
      have hnx : ∀ ty, (Instr.next (.pointer (some ⟨w.heap.size, 0, none⟩)) true ty).run Tryz.prog wr = _ := fun ty => Lib.run_next_any_at wr w.heap.size s pos ty hit hps
      have hwd := Lib.width_pos s pos
      obtain ⟨R, hR⟩ : ∃ R, (Utf8.decode s pos).1 = R := ⟨_, rfl⟩
      obtain ⟨K, hK⟩ : ∃ K, (Utf8.decode s pos).2 = K := ⟨_, rfl⟩
      simp only [Lib.idxFuncFrom, hps, if_true, hR, hK] at hleft
      rw [hR, hK] at hnx
      rw [hK] at hwd
      have hit2 := Lib.iterAt_heap wr w.heap.size s pos (pos + K) hit
      have hbw2 := Lib.below_iterAt hbw (k := w.heap.size) (Nat.le_refl _) s (pos + K)
      have hdr2 : w.drawn ≤ (wr.iterAt w.heap.size s (pos + K)).drawn := hdr
      obtain ⟨W, hWd⟩ : ∃ W, wr.iterAt w.heap.size s (pos + K) = W := ⟨_, rfl⟩
      rw [hWd] at hnx hit2 hbw2 hdr2
      have cS : Calls Tryz.prog 133 #[.int .i32 (R : Int)] W _ := hp W R (by rw [← hR]; exact Lib.rune_le s pos) hbw2
      clear hp
      cases hsp : Pl.notDig R <;> rw [hsp] at cS <;> simp only [hsp, if_true, Bool.false_eq_true, if_false] at hleft
      · go_wp2_with (go_at_call 133; refine cS.mono ?_; rintro e W' ⟨rfl, q, rfl⟩)
        go_roundg g'
        case measure => omega
        case rel => exact ⟨pos + K, hit2, below_drewN' hbw2 q, Nat.le_trans hdr2 (Nat.le_add_right _ _), hleft, by omega⟩
      · go_wp2_with (go_at_call 133; refine cS.mono ?_; rintro e W' ⟨rfl, q, rfl⟩)
        go_ret
        exact ⟨by rw [← hleft] <;> rfl, below_drewN' hbw2 q, Nat.le_trans hdr2 (Nat.le_add_right _ _)⟩
    · have hnx : ∀ ty, (Instr.next (.pointer (some ⟨w.heap.size, 0, none⟩)) true ty).run Tryz.prog wr = _ := fun ty => Lib.run_next_end_at wr w.heap.size s pos ty hit hps
      rw [Lib.idxFuncFrom_end Pl.notDig true s gk pos hps] at hleft
      go_wp2
      go_ret
      exact ⟨by rw [← hleft] <;> rfl, hbw, hdr⟩
theorem IndexFuncD (s : ByteArray) (w : World) :
    Calls Tryz.prog 161 #[.string s, .func (.func 133) #[] #[]] w fun e w' => e = .returned (.int .i64 (Lib.idxFunc Pl.notDig true s)) ∧ Below w.heap.size w w' ∧ w.drawn ≤ w'.drawn := by
  have c := indexFuncD s w
  obtain ⟨I, hI⟩ : ∃ I, Lib.idxFunc Pl.notDig true s = I := ⟨_, rfl⟩
  rw [hI] at c ⊢
  clear hI
  go_enter Tryz.func161, Tryz.ntmps161
  go_wp2_with (go_at_call 183; refine c.mono ?_; rintro e w' ⟨rfl, hb⟩)
  go_ret
  exact ⟨rfl, hb⟩
theorem ContainsFuncD (s : ByteArray) (w : World) :
    Calls Tryz.prog 132 #[.string s, .func (.func 133) #[] #[]] w fun e w' => e = .returned (.bool (decide (0 ≤ Lib.idxFunc Pl.notDig true s))) ∧ Below w.heap.size w w' ∧ w.drawn ≤ w'.drawn := by
  have c := IndexFuncD s w
  obtain ⟨I, hI⟩ : ∃ I, Lib.idxFunc Pl.notDig true s = I := ⟨_, rfl⟩
  rw [hI] at c ⊢
  clear hI
  go_enter Tryz.func132, Tryz.ntmps132
  go_wp2_with (go_at_call 161; refine c.mono ?_; rintro e w' ⟨rfl, hb⟩)
  go_ret
  exact ⟨rfl, hb⟩
theorem numericD (s : ByteArray) (w : World) (ha : Pl.asciiB (Pl.bsl s) = true) :
    Calls Tryz.prog 111 #[.string s] w fun e w' => e = .returned (.bool (Pl.digsB (Pl.bsl s))) ∧ Below w.heap.size w w' ∧ w.drawn ≤ w'.drawn := by
  have E := Lib.hid (show (!decide (0 ≤ Lib.idxFunc Pl.notDig true s)) = Pl.digsB (Pl.bsl s) by rw [Pl.idx_any ha, Pl.notDig_any, Bool.not_not])
  clear ha
  go_enter Tryz.func111, Tryz.ntmps111
  go_wp2_with (go_at_call 132; refine (ContainsFuncD s _).mono ?_; rintro e w' ⟨rfl, hb⟩)
  go_ret
  exact ⟨ret_bool E.out, hb⟩
set_option maxHeartbeats 1000000 in
theorem compareIdentifiersD (a b : ByteArray) (w : World) (ha : Pl.asciiB (Pl.bsl a) = true) (hb : Pl.asciiB (Pl.bsl b) = true) (_ : a.size ≤ 9223372036854775807) (_ : b.size ≤ 9223372036854775807) :
    Calls Tryz.prog 78 #[.string a, .string b] w fun e w' => e = .returned (.int .i64 (Pl.idc a b)) ∧ Below w.heap.size w w' ∧ w.drawn ≤ w'.drawn := by
  have HA := Lib.hid ha
  have HB := Lib.hid hb
  clear ha hb
  have head : ∀ {P : Int}, Pl.idc a b = P → Hid (P = Pl.idc a b) := fun h => Lib.hid h.symm
  cases d1 : Pl.digsB (Pl.bsl a) <;> cases d2 : Pl.digsB (Pl.bsl b)
  · have E := head (Pl.idCmp_nn d1 d2)
    clear head
    go_enter Tryz.func78, Tryz.ntmps78
    go_wp2_with fail
    refine (numericD _ _ HA.out).mono ?_
    rintro e w1 ⟨rfl, b1, d1'⟩
    go_wp2_with fail
    refine (numericD _ _ HB.out).mono ?_
    rintro e w2 ⟨rfl, b2, d2'⟩
    go_wp2_with (go_at_call 112; refine (Compare_any _ _ _).mono ?_; rintro e w' ⟨rfl, rfl⟩)
    go_ret
    exact ⟨ret_int E.out, bcall b1 b2 b1.size, Nat.le_trans d1' d2'⟩
  · have E := head (Pl.idCmp_nd d1 d2)
    clear head
    go_enter Tryz.func78, Tryz.ntmps78
    go_wp2_with fail
    refine (numericD _ _ HA.out).mono ?_
    rintro e w1 ⟨rfl, b1, d1'⟩
    go_wp2_with fail
    refine (numericD _ _ HB.out).mono ?_
    rintro e w2 ⟨rfl, b2, d2'⟩
    go_wp2_with fail
    go_ret
    exact ⟨ret_int E.out, bcall b1 b2 b1.size, Nat.le_trans d1' d2'⟩
  · have E := head (Pl.idCmp_dn d1 d2)
    clear head
    go_enter Tryz.func78, Tryz.ntmps78
    go_wp2_with fail
    refine (numericD _ _ HA.out).mono ?_
    rintro e w1 ⟨rfl, b1, d1'⟩
    go_wp2_with fail
    refine (numericD _ _ HB.out).mono ?_
    rintro e w2 ⟨rfl, b2, d2'⟩
    go_wp2_with fail
    go_ret
    exact ⟨ret_int E.out, bcall b1 b2 b1.size, Nat.le_trans d1' d2'⟩
  · have E := head (Pl.idCmp_dd d1 d2)
    clear head
    go_enter Tryz.func78, Tryz.ntmps78
    go_wp2_with fail
    refine (numericD _ _ HA.out).mono ?_
    rintro e w1 ⟨rfl, b1, d1'⟩
    go_wp2_with fail
    refine (numericD _ _ HB.out).mono ?_
    rintro e w2 ⟨rfl, b2, d2'⟩
    have B2 := bcall b1 b2 b1.size
    go_wp2_with (first | (go_at_call 112; refine (Compare_any _ _ _).mono ?_; rintro e w' ⟨rfl, rfl⟩) | (go_at_call 76; refine (cmpInt_any _ _ _).mono ?_; rintro e w' ⟨rfl, rfl⟩))
    refine (Or_any [Pl.sgn (a.size : Int) (b.size : Int), Lib.compareBytes (Pl.bsl a) (Pl.bsl b)] _ _ _ (Sl.fresh (C := intVals [Pl.sgn (a.size : Int) (b.size : Int), Lib.compareBytes (Pl.bsl a) (Pl.bsl b)]) rfl rfl (Nat.le_refl _) (by unfold maxLen; simp)) (by simp)).mono ?_
    rintro e w' ⟨rfl, rfl⟩
    go_wp2_with fail
    go_ret
    exact ⟨ret_int E.out, by have h := B2.size; exact B2.alloc h _, Nat.le_trans d1' d2'⟩
set_option maxHeartbeats 1000000 in
theorem CompareFuncD (a b : List ByteArray) (oa ob : Option Addr) (ca cb : Nat) (w : World) (ha : Sl w oa a.length ca 1 (strVals a)) (hb : Sl w ob b.length cb 1 (strVals b)) (la : a.length ≤ 9223372036854775807) (lb : b.length ≤ 9223372036854775807)
    (va : ∀ s ∈ a, Pl.asciiB (Pl.bsl s) = true ∧ s.size ≤ 9223372036854775807) (vb : ∀ s ∈ b, Pl.asciiB (Pl.bsl s) = true ∧ s.size ≤ 9223372036854775807) :
    Calls Tryz.prog 77 #[.slice oa a.length ca, .slice ob b.length cb, .func (.func 78) #[] #[]] w fun e w' => e = .returned (.int .i64 (Pl.lexL Pl.idc a b)) ∧ Below w.heap.size w w' ∧ w.drawn ≤ w'.drawn := by
  have VA := Lib.hid va
  have VB := Lib.hid vb
  clear va vb
  go_enter Tryz.func77, Tryz.ntmps77
  go_wp2
  go_loopw [13] (fun i wr => ∃ k : Nat, k ≤ a.length ∧ k ≤ b.length ∧ i = .int .i64 k ∧ Hid (Pl.EqTo Pl.idc a b k) ∧ Below w.heap.size w wr ∧ w.drawn ≤ wr.drawn) (fun i _ => a.length - (intOf i).toNat)
  case atStart => exact ⟨0, Nat.zero_le _, Nat.zero_le _, rfl, Pl.EqTo.zero _ _ _, Below.refl _ _, Nat.le_refl _⟩
  case round =>
    obtain ⟨k, hk, hkb, rfl, hu, hbw, hdw⟩ := hrel
    have sw := hbw.size
    by_cases hlt : k < a.length
    · obtain ⟨ba, offa, rfl, hla, hca⟩ := ha.strAt (by omega)
      have c1 : wr.cell? ⟨ba, offa + k, none⟩ = some (.string a[k]) := by rw [hbw.cell (p := ⟨ba, offa + k, none⟩) hla]; exact hca k hlt
      by_cases hlt2 : k < b.length
      · obtain ⟨bb, offb, rfl, hlb, hcb⟩ := hb.strAt (by omega)
        have c2 : wr.cell? ⟨bb, offb + k, none⟩ = some (.string b[k]) := by rw [hbw.cell (p := ⟨bb, offb + k, none⟩) hlb]; exact hcb k hlt2
        have v1 := Lib.hid (VA.out _ (List.getElem_mem hlt))
        have v2 := Lib.hid (VB.out _ (List.getElem_mem hlt2))
        have st := Lib.hid (fun h => hu.out.succ hlt hlt2 h)
        have en := Lib.hid (fun h => Pl.lexL_at hu.out hlt hlt2 h)
        clear hca hcb
        generalize a[k] = x at *
        generalize b[k] = y at *
        by_cases hz : Pl.idc x y = 0
        · have t1 := bneF hz
          have t2 := beqT hz
          have st := Lib.hid (st.out hz)
          clear en hz
          go_wp2_with (go_at_call 78; refine (compareIdentifiersD x y _ v1.out.1 v2.out.1 v1.out.2 v2.out.2).mono ?_; rintro e w1 ⟨rfl, b1, d1⟩)
          go_roundw
          case rel => exact ⟨k + 1, hlt, hlt2, by go_num, st, bcall hbw b1 hbw.size, Nat.le_trans hdw d1⟩
          case measure => simp [intOf]; omega
        · have t1 := bneT hz
          have t2 := beqF hz
          have en := Lib.hid (en.out hz)
          clear st hz
          go_wp2_with (go_at_call 78; refine (compareIdentifiersD x y _ v1.out.1 v2.out.1 v1.out.2 v2.out.2).mono ?_; rintro e w1 ⟨rfl, b1, d1⟩)
          go_ret
          exact ⟨ret_int en.out.symm, bcall hbw b1 hbw.size, Nat.le_trans hdw d1⟩
      · have E := Lib.hid (show Pl.lexL Pl.idc a b = 1 by
          rw [Pl.lexL_end hu.out hk hkb (by omega)]; exact Pl.sgn_gt (by omega))
        clear hca
        generalize a[k] = x at *
        go_wp2_with fail
        go_ret
        exact ⟨ret_int E.out.symm, hbw, hdw⟩
    · have E := Lib.hid (show Pl.lexL Pl.idc a b = Pl.sgn (a.length : Int) (b.length : Int) from Pl.lexL_end hu.out hk hkb (by omega))
      have hab : a.length ≤ b.length := by omega
      by_cases hl : a.length < b.length
      · rw [Pl.sgn_lt (by omega)] at E
        go_wp2_with fail
        go_ret
        exact ⟨ret_int E.out.symm, hbw, hdw⟩
      · rw [Pl.sgn_zero.2 (by omega)] at E
        go_wp2_with fail
        go_ret
        exact ⟨ret_int E.out.symm, hbw, hdw⟩

set_option maxHeartbeats 1000000 in
theorem OrderD (x y : Pl.Ver) (a b : Option Addr) (c d : Nat) (w : World) (hx : VOk w x a c) (hy : VOk w y b d) :
    Calls Tryz.prog 44 #[verV x a c, verV y b d] w fun e w' => e = .returned (.int .i64 (Pl.verCmp x y)) ∧ Below w.heap.size w w' ∧ w.drawn ≤ w'.drawn := by
  have lx := hx.mem.len
  have ly := hy.mem.len
  have HX := Lib.hid hx
  have HY := Lib.hid hy
  clear hx hy
  obtain ⟨N, hN⟩ : ∃ N, Pl.numC x y = N := ⟨_, rfl⟩
  have hcs := Pl.numC_cases x y
  rw [hN] at hcs
  have HN := Lib.hid hN
  have HC := Lib.hid hcs
  clear hN hcs
  go_enter Tryz.func44, Tryz.ntmps44
  go_wp2_with fail
  refine wp_region_ord [0, 1, 2, 3, 5, 6, 7, 8, 10, 11, 12, 13, 4, 9, 14, 15, 16, 17] (by kernel_rfl) (by kernel_rfl) ?_
  repeat (refine wpI_rd rfl rfl ?_; go_big_quiet_step (fail); refine wpQuiet_nil ?_)
  refine wpI_call (f := 76) (args := #[.int .i64 x.maj, .int .i64 y.maj]) rfl rfl rfl (by simp [go_sem]) ?_
  refine (cmpInt_any _ _ _).mono ?_
  rintro e w' ⟨rfl, rfl⟩
  refine ⟨_, rfl, Below.refl _ _, ?_⟩
  try simp only [Act.put, List.setIfInBounds_toArray, List.set_cons_zero, List.set_cons_succ]
  refine wpI_call (f := 76) (args := #[.int .i64 x.min, .int .i64 y.min]) rfl rfl rfl (by simp [go_sem]) ?_
  refine (cmpInt_any _ _ _).mono ?_
  rintro e w' ⟨rfl, rfl⟩
  refine ⟨_, rfl, Below.refl _ _, ?_⟩
  try simp only [Act.put, List.setIfInBounds_toArray, List.set_cons_zero, List.set_cons_succ]
  refine wpI_call (f := 76) (args := #[.int .i64 x.pat, .int .i64 y.pat]) rfl rfl rfl (by simp [go_sem]) ?_
  refine (cmpInt_any _ _ _).mono ?_
  rintro e w' ⟨rfl, rfl⟩
  refine ⟨_, rfl, Below.refl _ _, ?_⟩
  try simp only [Act.put, List.setIfInBounds_toArray, List.set_cons_zero, List.set_cons_succ]
  refine wpI_add rfl rfl rfl (u := .slice (some ⟨w.heap.size + 2, 0, none⟩) 3 3) (w' := (((w.alloc (.cells #[.int .i64 x.maj, .int .i64 x.min, .int .i64 x.pat, .slice a x.pre.length c] 27)).alloc (.cells #[.int .i64 y.maj, .int .i64 y.min, .int .i64 y.pat, .slice b y.pre.length d] 27)).drew.alloc (.cells #[.int .i64 (Pl.sgn x.maj y.maj), .int .i64 (Pl.sgn x.min y.min), .int .i64 (Pl.sgn x.pat y.pat)] 3))) (by simp [go_sem]) (Below.ext ((Below.refl _ _).alloc (Nat.le_refl _) _)) ?_
  try simp only [Act.put, List.setIfInBounds_toArray, List.set_cons_zero, List.set_cons_succ]
  refine wpI_call (f := 75) (args := #[.slice (some ⟨w.heap.size + 2, 0, none⟩) 3 3]) rfl rfl rfl (by simp [go_sem]) ?_
  refine (Or_any [Pl.sgn x.maj y.maj, Pl.sgn x.min y.min, Pl.sgn x.pat y.pat] _ _ _ (Sl.fresh (C := intVals [Pl.sgn x.maj y.maj, Pl.sgn x.min y.min, Pl.sgn x.pat y.pat]) (by simp) rfl (Nat.le_refl _) (by unfold maxLen; simp)) (by simp)).mono ?_
  rintro e w' ⟨rfl, rfl⟩
  refine ⟨_, rfl, Below.refl _ _, ?_⟩
  rw [show Pl.orL [Pl.sgn x.maj y.maj, Pl.sgn x.min y.min, Pl.sgn x.pat y.pat] = N from HN.out]
  try simp only [Act.put, List.setIfInBounds_toArray, List.set_cons_zero, List.set_cons_succ]
  repeat (refine wpI_rd rfl rfl ?_; go_big_quiet_step (fail); refine wpQuiet_nil ?_)
  refine wpI_nil ?_
  try simp only [Act.put, List.setIfInBounds_toArray, List.set_cons_zero, List.set_cons_succ]
  rcases HC.out with ⟨h0, E⟩ | ⟨h0, e1, e2, e3⟩
  · have t1 := bneT h0
    have t2 := beqF h0
    replace E := Lib.hid E
    clear h0
    go_wp2_with fail
    go_ret
    exact ⟨ret_int E.out.symm, by go_grown, by first | exact Nat.le_refl _ | exact Nat.le_succ _⟩
  · have t1 := bneF h0
    have t2 := beqT h0
    have E := Lib.hid (Pl.vc4 e1 e2 e3)
    clear h0 e1 e2 e3
    by_cases p1 : x.pre.length = 0 <;> by_cases p2 : y.pre.length = 0
    · have q1 : ((x.pre.length : Int) == 0) = true := beqT (by omega)
      have q2 : ((y.pre.length : Int) == 0) = true := beqT (by omega)
      have E2 := Lib.hid (show Pl.lexL Pl.idc x.pre y.pre = Pl.verCmp x y by rw [E.out, if_pos (.inl p1), p1, p2, List.length_eq_zero_iff.1 p1, List.length_eq_zero_iff.1 p2]; rfl)
      clear p1 p2
      go_wp2_with fail
      refine (CompareFuncD x.pre y.pre a b c d _ (HX.out.mem.sl.below (by go_grown) (Nat.le_refl _)) (HY.out.mem.sl.below (by go_grown) (Nat.le_refl _)) lx ly (fun s hs => ⟨Pl.ident_ascii (HX.out.ok s hs), HX.out.mem.ss s hs⟩) (fun s hs => ⟨Pl.ident_ascii (HY.out.ok s hs), HY.out.mem.ss s hs⟩)).mono ?_
      rintro e w1 ⟨rfl, b1, d1⟩
      have B1 : Below w.heap.size w w1 := bcall (by go_grown) b1 (by go_size)
      clear b1
      go_wp2_with fail
      go_ret
      exact ⟨ret_int E2.out, B1, Nat.le_trans (by first | exact Nat.le_refl _ | exact Nat.le_succ _ | (simp [World.drew, World.alloc]; done)) d1⟩
    · have q1 : ((x.pre.length : Int) == 0) = true := beqT (by omega)
      have q2 : ((y.pre.length : Int) == 0) = false := beqF (by omega)
      have E2 := Lib.hid (show Pl.sgn (y.pre.length : Int) (x.pre.length : Int) = Pl.verCmp x y by rw [E.out, if_pos (.inl p1)])
      clear p1 p2
      go_wp2_with (go_at_call 76; refine (cmpInt_any _ _ _).mono ?_; rintro e w' ⟨rfl, rfl⟩)
      go_ret
      exact ⟨ret_int E2.out, by go_grown, by first | exact Nat.le_refl _ | exact Nat.le_succ _⟩
    · have q1 : ((x.pre.length : Int) == 0) = false := beqF (by omega)
      have q2 : ((y.pre.length : Int) == 0) = true := beqT (by omega)
      have E2 := Lib.hid (show Pl.sgn (y.pre.length : Int) (x.pre.length : Int) = Pl.verCmp x y by rw [E.out, if_pos (.inr p2)])
      clear p1 p2
      go_wp2_with (go_at_call 76; refine (cmpInt_any _ _ _).mono ?_; rintro e w' ⟨rfl, rfl⟩)
      go_ret
      exact ⟨ret_int E2.out, by go_grown, by first | exact Nat.le_refl _ | exact Nat.le_succ _⟩
    · have q1 : ((x.pre.length : Int) == 0) = false := beqF (by omega)
      have q2 : ((y.pre.length : Int) == 0) = false := beqF (by omega)
      have E2 := Lib.hid (show Pl.lexL Pl.idc x.pre y.pre = Pl.verCmp x y by rw [E.out, if_neg (by omega)])
      clear p1 p2
      go_wp2_with fail
      refine (CompareFuncD x.pre y.pre a b c d _ (HX.out.mem.sl.below (by go_grown) (Nat.le_refl _)) (HY.out.mem.sl.below (by go_grown) (Nat.le_refl _)) lx ly (fun s hs => ⟨Pl.ident_ascii (HX.out.ok s hs), HX.out.mem.ss s hs⟩) (fun s hs => ⟨Pl.ident_ascii (HY.out.ok s hs), HY.out.mem.ss s hs⟩)).mono ?_
      rintro e w1 ⟨rfl, b1, d1⟩
      have B1 : Below w.heap.size w w1 := bcall (by go_grown) b1 (by go_size)
      clear b1
      go_wp2_with fail
      go_ret
      exact ⟨ret_int E2.out, B1, Nat.le_trans (by first | exact Nat.le_refl _ | exact Nat.le_succ _ | (simp [World.drew, World.alloc]; done)) d1⟩
end Go.Proofs.YtjfkmbehckdjlaaGreatDoor

end
section
/- Library contract at this program: sorting intervals by a function. -/
namespace Go.Proofs
open Go.Shelf
def Tryz.sortIv_ren : Go.Shelf.Ren := ⟨fun | 6 => 84 | 15 => 115 | 14 => 114 | 28 => 143 | 29 => 144 | 20 => 135 | 21 => 136 | 22 => 137 | 23 => 138 | 24 => 139 | 25 => 140 | 26 => 141 | 27 => 142 | 46 => 163 | 47 => 164 | 48 => 165 | 49 => 166 | 50 => 167 | 57 => 184 | n => n, fun | 22 => 22 | 24 => 58 | 25 => 105 | 3 => 3 | 39 => 144 | 0 => 0 | 53 => 175 | 55 => 177 | 4 => 4 | 46 => 168 | 45 => 167 | 50 => 172 | 5 => 5 | 9 => 9 | 66 => 195 | 70 => 149 | 76 => 211 | 77 => 212 | n => n, fun | n => n⟩
theorem Tryz.sortIv : Go.Proofs.SlLaysF0.n6 Tryz.prog Tryz.sortIv_ren := {
  mixed := by kernel_rfl
  f6 := ⟨Tryz.f84.name, by decide, Tryz.func84.trans (congrArg some (by kernel_rfl))⟩
  f14 := ⟨Tryz.f114.name, by decide, Tryz.func114.trans (congrArg some (by kernel_rfl))⟩
  f15 := Tryz.func115.trans (congrArg some (by kernel_rfl))
  f20 := ⟨Tryz.f135.name, by decide, Tryz.func135.trans (congrArg some (by kernel_rfl))⟩
  f21 := ⟨Tryz.f136.name, by decide, Tryz.func136.trans (congrArg some (by kernel_rfl))⟩
  f22 := ⟨Tryz.f137.name, by decide, Tryz.func137.trans (congrArg some (by kernel_rfl))⟩
  f23 := ⟨Tryz.f138.name, by decide, Tryz.func138.trans (congrArg some (by kernel_rfl))⟩
  f24 := ⟨Tryz.f139.name, by decide, Tryz.func139.trans (congrArg some (by kernel_rfl))⟩
  f25 := ⟨Tryz.f140.name, by decide, Tryz.func140.trans (congrArg some (by kernel_rfl))⟩
  f26 := ⟨Tryz.f141.name, by decide, Tryz.func141.trans (congrArg some (by kernel_rfl))⟩
  f27 := ⟨Tryz.f142.name, by decide, Tryz.func142.trans (congrArg some (by kernel_rfl))⟩
  f28 := Tryz.func143.trans (congrArg some (by kernel_rfl))
  f29 := Tryz.func144.trans (congrArg some (by kernel_rfl))
  f46 := ⟨Tryz.f163.name, by decide, Tryz.func163.trans (congrArg some (by kernel_rfl))⟩
  f47 := Tryz.func164.trans (congrArg some (by kernel_rfl))
  f48 := Tryz.func165.trans (congrArg some (by kernel_rfl))
  f49 := ⟨Tryz.f166.name, by decide, Tryz.func166.trans (congrArg some (by kernel_rfl))⟩
  f50 := ⟨Tryz.f167.name, by decide, Tryz.func167.trans (congrArg some (by kernel_rfl))⟩
  f57 := ⟨Tryz.f184.name, by decide, Tryz.func184.trans (congrArg some (by kernel_rfl))⟩
  t0 := Tryz.underlying0
  a0 := Tryz.isAgg0
  z0 := Tryz.sizeOf0
  v0 := Tryz.zeroValue0
  t3 := Tryz.underlying3
  a3 := Tryz.isAgg3
  z3 := Tryz.sizeOf3
  v3 := Tryz.zeroValue3
  t4 := Tryz.underlying4
  a4 := Tryz.isAgg4
  z4 := Tryz.sizeOf4
  v4 := Tryz.zeroValue4
  t5 := Tryz.underlying5
  a5 := Tryz.isAgg5
  z5 := Tryz.sizeOf5
  v5 := Tryz.zeroValue5
  t9 := Tryz.underlying9
  a9 := Tryz.isAgg9
  z9 := Tryz.sizeOf9
  v9 := Tryz.zeroValue9
  t22 := Tryz.underlying22
  a22 := Tryz.isAgg22
  z22 := Tryz.sizeOf22
  v22 := Tryz.zeroValue22
  t25 := Tryz.underlying105
  a25 := Tryz.isAgg105
  z25 := Tryz.sizeOf105
  v25 := Tryz.zeroValue105
  t39 := Tryz.underlying144
  a39 := Tryz.isAgg144
  z39 := Tryz.sizeOf144
  v39 := Tryz.zeroValue144
  t45 := Tryz.underlying167
  a45 := Tryz.isAgg167
  z45 := Tryz.sizeOf167
  v45 := Tryz.zeroValue167
  t46 := Tryz.underlying168
  a46 := Tryz.isAgg168
  z46 := Tryz.sizeOf168
  v46 := Tryz.zeroValue168
  t50 := Tryz.underlying172
  a50 := Tryz.isAgg172
  z50 := Tryz.sizeOf172
  v50 := Tryz.zeroValue172
  t53 := Tryz.underlying175
  a53 := Tryz.isAgg175
  z53 := Tryz.sizeOf175
  v53 := Tryz.zeroValue175
  t55 := Tryz.underlying177
  a55 := Tryz.isAgg177
  z55 := Tryz.sizeOf177
  v55 := Tryz.zeroValue177
  t66 := Tryz.underlying195
  a66 := Tryz.isAgg195
  z66 := Tryz.sizeOf195
  v66 := Tryz.zeroValue195
  t70 := Tryz.underlying149
  a70 := Tryz.isAgg149
  z70 := Tryz.sizeOf149
  v70 := Tryz.zeroValue149
  t76 := Tryz.underlying211
  a76 := Tryz.isAgg211
  z76 := Tryz.sizeOf211
  v76 := Tryz.zeroValue211
  t77 := Tryz.underlying212
  a77 := Tryz.isAgg212
  z77 := Tryz.sizeOf212
  v77 := Tryz.zeroValue212 }
end Go.Proofs

end
