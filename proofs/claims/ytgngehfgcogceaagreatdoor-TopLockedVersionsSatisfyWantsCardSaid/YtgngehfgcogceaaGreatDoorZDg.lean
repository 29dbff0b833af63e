/- Contracts: versions and ranges copied; the lowest version; ranges of one interval. -/
import Derived.Test.YtgngehfgcogceaaGreatDoorZMDf
import Derived.Test.YtgngehfgcogceaaGreatDoorZMQd
namespace Go.Proofs.YtgngehfgcogceaaGreatDoor
open Go.RowKit

/-- A version with identifiers of its own. -/
def RVerO (v : Pl.Ver) (w : World) (e : Ending) (w' : World) : Prop := ∃ o c, e = .returned (verV v o c) ∧ w'.ownsRow w.heap.size 9 1 (.slice o v.pre.length c) v.pre.length (strVals v.pre) ∧ Below w.heap.size w w'
theorem SlQ.own {w : World} {D B0 n c : Nat} {e : TypeId} {oa : Option Addr} {xs : List Value} {row : Option Nat} (h : w.ownsRow D e 1 (.slice oa n c) n xs) (hD : B0 ≤ D) (hr : ∀ g, row = some g → g < D) : SlQ (fun b => B0 ≤ b ∧ some b ≠ row) oa n := by
  have hge := own_ge h
  rcases h.2 with ⟨h1, -⟩ | ⟨g, cap, cur, h1, -⟩
  · injection h1 with _ h2 _; exact .inl h2
  · injection h1 with h2 _ _
    subst h2
    have := hge g 0 rfl
    exact .inr ⟨g, 0, rfl, by omega, fun e => by have := hr g e.symm; omega⟩
set_option maxHeartbeats 1000000 in
theorem verCopy_any (v : Pl.Ver) (a : Option Addr) (c : Nat) (w : World) (h : VIn w v a c) (hn : v.pre.length ≤ 4) :
    Calls Tryz.prog 20 #[verV v a c] w (RVerO v w) := by
  have H := Lib.hid h
  have hl := h.len
  have hss := Lib.hid h.ss
  clear h
  go_enter Tryz.func20, Tryz.ntmps20
  have B0 : Below w.heap.size w w := Below.refl _ _
  go_wp2_with fail
  refine (Clone_any v.pre a c _ (H.out.sl.below (B := w.heap.size) (by go_grown) (Nat.le_refl _)) (by omega)).mono ?_
  rintro e w1 ⟨o2, c2, rfl, own2, hb⟩
  have B1 : Below w.heap.size w w1 := bcall (by go_grown) hb (by go_size)
  have q1 : w.heap.size + 2 ≤ w1.heap.size := by have z := hb.size; (try simp only [World.size_alloc] at z); omega
  replace H := Lib.hid (((H.out.below (Below.refl _ _ |>.alloc (Nat.le_refl _) _) (Nat.le_refl _)).below (Below.refl _ _ |>.alloc (Nat.le_refl _) _) (Nat.le_refl _)).below hb (Nat.le_refl _))
  have X := (((Bk.new (r := w.heap.size) (cs := [.int .i64 v.maj, .int .i64 v.min, .int .i64 v.pat, .slice a v.pre.length c]) _ 48 (by simp)).alloc _)).below hb (by go_size)
  have R := ((Bk.new (r := w.heap.size + 1) (cs := [.int .i64 0, .int .i64 0, .int .i64 0, .slice none 0 0]) _ 48 (by simp))).below hb (by go_size)
  clear hb
  have s1 : w.heap.size ≤ w1.heap.size := B1.size
  obtain ⟨X_c, X_f, X_l⟩ := id X
  obtain ⟨R_c, R_f, R_l⟩ := id R
  go_wp2_with fail
  have RN := (((((R.far (a := ⟨w.heap.size, 3, none⟩) (by dsimp only; omega) (.slice o2 v.pre.length c2)).set (k := 0) (by simp) (.int .i64 v.maj)).set (k := 1) (by simp) (.int .i64 v.min)).set (k := 2) (by simp) (.int .i64 v.pat)).set (k := 3) (by simp) (.slice o2 v.pre.length c2))
  obtain ⟨RN_c, RN_f, RN_l⟩ := RN
  refine bodyPost_ret (v := .agg #[.int .i64 v.maj, .int .i64 v.min, .int .i64 v.pat, .slice o2 v.pre.length c2]) (by simp [results, Tryz.results20, go_sem, RN_c]) rfl ⟨o2, c2, rfl, ?_, by go_grown⟩
  have own3 := own_base0 own2 (B' := w.heap.size + 2) (by simp)
  exact own_base0 (ownsRow_far (ownsRow_far (ownsRow_far (ownsRow_far (ownsRow_far own3 (by simp) _) (by simp) _) (by simp) _) (by simp) _) (by simp) _) (by omega)
/-- Where a copy stands after k rounds. -/
def CopyInv (w : World) (r : List Pl.Ivl) (a : Option Addr) (c : Nat) (k : Nat) (wr : World) : Prop := ∃ o n c', Bk wr (w.heap.size + 1 + 1) [.slice o n c'] ∧ ROwn wr (w.heap.size + 3) w.heap.size (r.take k) (.slice o n c') n ∧ Below w.heap.size w wr ∧ Bk wr w.heap.size [.slice a r.length c] ∧ Bk wr (w.heap.size + 1) [.slice none 0 0] ∧ w.heap.size + 3 ≤ wr.heap.size
theorem Pl.Ver.Ok.ss {v : Pl.Ver} (h : v.Ok) : ∀ s ∈ v.pre, s.size ≤ 9223372036854775807 := fun s hs => by
  have h1 := (Pl.identB_iff.1 (h.i s hs)).2.1
  have h2 : (Pl.bsl s).length = s.size := Pl.bsl_len s
  omega
set_option maxRecDepth 100000 in
set_option maxHeartbeats 4000000 in
theorem rngCopy_any (r : List Pl.Ivl) (a : Option Addr) (c : Nat) (w : World) (h : RIn w r a c) (ok : ∀ x ∈ r, x.Ok) (hn : r.length ≤ 1000002) :
    Calls Tryz.prog 51 #[.agg #[.slice a r.length c]] w (RRngO r w) := by
  have H := Lib.hid h
  have OK := Lib.hid ok
  clear h ok
  go_enter Tryz.func51, Tryz.ntmps51
  go_wp2_with fail
  go_loopw [9] (fun i wr => ∃ k : Nat, k ≤ r.length ∧ i = .int .i64 k ∧ CopyInv w r a c k wr) (fun i _ => r.length - (intOf i).toNat)
  case atStart => exact ⟨0, Nat.zero_le _, rfl, none, 0, 0, Bk.new (cs := [.slice none 0 0]) _ _ (by simp), ROwn.nil _ _ _, by go_grown, ((Bk.new (cs := [.slice a r.length c]) _ _ rfl).alloc _).alloc _, (Bk.new (cs := [.slice none 0 0]) _ _ (by simp)).alloc _, by simp⟩
  case round =>
    obtain ⟨k, hk, rfl, hinv⟩ := hrel
    obtain ⟨o, n, c', O, OW, B1, X, R, q0⟩ := hinv
    have hnk : n = k := by have := OW.len; rw [List.length_take] at this; omega
    subst hnk
    have s1 := B1.size
    by_cases hlt2 : n < r.length
    · obtain ⟨b, off, rfl, hlt, hat⟩ := (H.out.below B1 (Nat.le_refl _)).at (by omega)
      obtain ⟨a1, b1, c1, d1, I⟩ := hat n hlt2
      have OX := Lib.hid (OK.out _ (List.getElem_mem hlt2))
      have HT := Lib.hid (List.take_succ_eq_append_getElem hlt2)
      clear hat
      obtain ⟨e0, e1, e2, e3, e4, e5, e6, e7, e8, VL, VH⟩ := I
      replace VL := Lib.hid VL
      replace VH := Lib.hid VH
      generalize r[n] = x at *
      obtain ⟨O_c, O_f, O_l⟩ := id O
      obtain ⟨X_c, X_f, X_l⟩ := id X
      obtain ⟨R_c, R_f, R_l⟩ := id R
      go_wp2_with fail
      refine wp_region_ord [0, 1, 2, 3, 5, 6, 8, 9, 4, 7, 10, 11, 12, 13, 14] (by kernel_rfl) (by kernel_rfl) ?_
      have B2 : Below w.heap.size w (wr.alloc (.cells #[.int .i64 x.lo.maj, .int .i64 x.lo.min, .int .i64 x.lo.pat, .slice a1 x.lo.pre.length c1, .int .i64 x.hi.maj, .int .i64 x.hi.min, .int .i64 x.hi.pat, .slice b1 x.hi.pre.length d1, .bool x.un] 103)).drew := by go_grown
      have q2 : wr.heap.size + 1 ≤ (wr.alloc (.cells #[.int .i64 x.lo.maj, .int .i64 x.lo.min, .int .i64 x.lo.pat, .slice a1 x.lo.pre.length c1, .int .i64 x.hi.maj, .int .i64 x.hi.min, .int .i64 x.hi.pat, .slice b1 x.hi.pre.length d1, .bool x.un] 103)).drew.heap.size := by simp only [World.size_alloc, World.size_drew]; omega
      replace VL := Lib.hid ((VL.out.below (Below.refl _ _ |>.alloc (Nat.le_refl _) (.cells #[.int .i64 x.lo.maj, .int .i64 x.lo.min, .int .i64 x.lo.pat, .slice a1 x.lo.pre.length c1, .int .i64 x.hi.maj, .int .i64 x.hi.min, .int .i64 x.hi.pat, .slice b1 x.hi.pre.length d1, .bool x.un] 103)) (Nat.le_refl _)).below (Below.refl _ _).drew (Nat.le_refl _))
      replace VH := Lib.hid ((VH.out.below (Below.refl _ _ |>.alloc (Nat.le_refl _) (.cells #[.int .i64 x.lo.maj, .int .i64 x.lo.min, .int .i64 x.lo.pat, .slice a1 x.lo.pre.length c1, .int .i64 x.hi.maj, .int .i64 x.hi.min, .int .i64 x.hi.pat, .slice b1 x.hi.pre.length d1, .bool x.un] 103)) (Nat.le_refl _)).below (Below.refl _ _).drew (Nat.le_refl _))
      replace O := (O.alloc (.cells #[.int .i64 x.lo.maj, .int .i64 x.lo.min, .int .i64 x.lo.pat, .slice a1 x.lo.pre.length c1, .int .i64 x.hi.maj, .int .i64 x.hi.min, .int .i64 x.hi.pat, .slice b1 x.hi.pre.length d1, .bool x.un] 103)).drew
      replace X := (X.alloc (.cells #[.int .i64 x.lo.maj, .int .i64 x.lo.min, .int .i64 x.lo.pat, .slice a1 x.lo.pre.length c1, .int .i64 x.hi.maj, .int .i64 x.hi.min, .int .i64 x.hi.pat, .slice b1 x.hi.pre.length d1, .bool x.un] 103)).drew
      replace R := (R.alloc (.cells #[.int .i64 x.lo.maj, .int .i64 x.lo.min, .int .i64 x.lo.pat, .slice a1 x.lo.pre.length c1, .int .i64 x.hi.maj, .int .i64 x.hi.min, .int .i64 x.hi.pat, .slice b1 x.hi.pre.length d1, .bool x.un] 103)).drew
      have Y := (Bk.new (r := wr.heap.size) (cs := [.int .i64 x.lo.maj, .int .i64 x.lo.min, .int .i64 x.lo.pat, .slice a1 x.lo.pre.length c1, .int .i64 x.hi.maj, .int .i64 x.hi.min, .int .i64 x.hi.pat, .slice b1 x.hi.pre.length d1, .bool x.un]) wr 103 (by simp)).drew
      replace OW := (OW.alloc (.cells #[.int .i64 x.lo.maj, .int .i64 x.lo.min, .int .i64 x.lo.pat, .slice a1 x.lo.pre.length c1, .int .i64 x.hi.maj, .int .i64 x.hi.min, .int .i64 x.hi.pat, .slice b1 x.hi.pre.length d1, .bool x.un] 103)).drew
      clear O_c O_f O_l X_c X_f X_l R_c R_f R_l
      generalize (wr.alloc (.cells #[.int .i64 x.lo.maj, .int .i64 x.lo.min, .int .i64 x.lo.pat, .slice a1 x.lo.pre.length c1, .int .i64 x.hi.maj, .int .i64 x.hi.min, .int .i64 x.hi.pat, .slice b1 x.hi.pre.length d1, .bool x.un] 103)).drew = w2 at *
      have s2 : w.heap.size ≤ w2.heap.size := B2.size
      obtain ⟨O_c, O_f, O_l⟩ := id O
      obtain ⟨X_c, X_f, X_l⟩ := id X
      obtain ⟨R_c, R_f, R_l⟩ := id R
      obtain ⟨Y_c, Y_f, Y_l⟩ := id Y
      clear e0 e1 e2 e3 e4 e5 e6 e7 e8
      have hg0 : ∀ g, (Value.slice o n c').ownBlock = some g → g < w2.heap.size := fun g hg => by obtain ⟨cs, h1, _⟩ := OW.mem; exact (h1.lt g hg).2
      repeat (refine wpI_rd rfl rfl ?_; go_big_quiet_step (fail); refine wpQuiet_nil ?_)
      try simp only [Act.put, List.setIfInBounds_toArray, List.set_cons_zero, List.set_cons_succ]
      refine wpI_call (f := 20) (args := #[verV x.lo a1 c1]) rfl rfl rfl (by simp [go_sem]) ?_
      refine (verCopy_any x.lo a1 c1 _ VL.out OX.out.lo.n).mono ?_
      rintro e w3 ⟨o1, l1, rfl, ow1, hb⟩
      replace OW := OW.below hb (Nat.le_refl _)
      refine ⟨_, rfl, hb, ?_⟩
      skip
      have B3 : Below w.heap.size w w3 := bcall (by go_grown) hb (by go_size)
      have q3 : w2.heap.size + 0 ≤ w3.heap.size := by have z := hb.size; (try simp only [World.size_alloc, World.size_setCell, World.size_drew] at z); omega
      replace VL := Lib.hid (VL.out.below hb (Nat.le_refl _))
      replace VH := Lib.hid (VH.out.below hb (Nat.le_refl _))
      replace O := (O).below hb (by go_size)
      replace X := (X).below hb (by go_size)
      replace R := (R).below hb (by go_size)
      replace Y := (Y).below hb (by go_size)
      clear hb
      have s3 : w.heap.size ≤ w3.heap.size := B3.size
      clear O_c O_f O_l X_c X_f X_l R_c R_f R_l Y_c Y_f Y_l
      obtain ⟨O_c, O_f, O_l⟩ := id O
      obtain ⟨X_c, X_f, X_l⟩ := id X
      obtain ⟨R_c, R_f, R_l⟩ := id R
      obtain ⟨Y_c, Y_f, Y_l⟩ := id Y
      try simp only [Act.put, List.setIfInBounds_toArray, List.set_cons_zero, List.set_cons_succ]
      refine wpI_call (f := 20) (args := #[verV x.hi b1 d1]) rfl rfl rfl (by simp [go_sem]) ?_
      refine (verCopy_any x.hi b1 d1 _ VH.out OX.out.hi.n).mono ?_
      rintro e w4 ⟨o2, l2, rfl, ow2, hb⟩
      replace OW := OW.below hb (Nat.le_refl _)
      replace ow1 := ownsRow_below ow1 hb (Nat.le_refl _)
      refine ⟨_, rfl, hb, ?_⟩
      skip
      have B4 : Below w.heap.size w w4 := bcall (by go_grown) hb (by go_size)
      have q4 : w3.heap.size + 0 ≤ w4.heap.size := by have z := hb.size; (try simp only [World.size_alloc, World.size_setCell, World.size_drew] at z); omega
      replace VL := Lib.hid (VL.out.below hb (Nat.le_refl _))
      replace VH := Lib.hid (VH.out.below hb (Nat.le_refl _))
      replace O := (O).below hb (by go_size)
      replace X := (X).below hb (by go_size)
      replace R := (R).below hb (by go_size)
      replace Y := (Y).below hb (by go_size)
      clear hb
      have s4 : w.heap.size ≤ w4.heap.size := B4.size
      clear O_c O_f O_l X_c X_f X_l R_c R_f R_l Y_c Y_f Y_l
      obtain ⟨O_c, O_f, O_l⟩ := id O
      obtain ⟨X_c, X_f, X_l⟩ := id X
      obtain ⟨R_c, R_f, R_l⟩ := id R
      obtain ⟨Y_c, Y_f, Y_l⟩ := id Y
      try simp only [Act.put, List.setIfInBounds_toArray, List.set_cons_zero, List.set_cons_succ]
      have s24 : w2.heap.size ≤ w3.heap.size := by omega
      repeat (refine wpI_rd rfl rfl ?_; go_big_quiet_step (fail); refine wpQuiet_nil ?_)
      try simp only [Act.put, List.setIfInBounds_toArray, List.set_cons_zero, List.set_cons_succ]
      have OB := O.alloc (.cells (List.toArray [.int .i64 x.lo.maj, .int .i64 x.lo.min, .int .i64 x.lo.pat, .slice o1 x.lo.pre.length l1, .int .i64 x.hi.maj, .int .i64 x.hi.min, .int .i64 x.hi.pat, .slice o2 x.hi.pre.length l2, .bool x.un]) 103)
      refine wpI_add rfl rfl rfl (u := .slice (some ⟨w4.heap.size, 0, none⟩) 1 1) (w' := w4.alloc (.cells (List.toArray [.int .i64 x.lo.maj, .int .i64 x.lo.min, .int .i64 x.lo.pat, .slice o1 x.lo.pre.length l1, .int .i64 x.hi.maj, .int .i64 x.hi.min, .int .i64 x.hi.pat, .slice o2 x.hi.pre.length l2, .bool x.un]) 103)) (by simp [go_sem]) (Below.ext ((Below.refl _ _).alloc (Nat.le_refl _) _)) ?_
      try simp only [Act.put, List.setIfInBounds_toArray, List.set_cons_zero, List.set_cons_succ]
      have OWA := OW.alloc (.cells (List.toArray [.int .i64 x.lo.maj, .int .i64 x.lo.min, .int .i64 x.lo.pat, .slice o1 x.lo.pre.length l1, .int .i64 x.hi.maj, .int .i64 x.hi.min, .int .i64 x.hi.pat, .slice o2 x.hi.pre.length l2, .bool x.un]) 103)
      have LOV := (VIn.own rfl ow1 OX.out.lo.ss).below (B := w4.heap.size) ((Below.refl _ w4).alloc (Nat.le_refl _) (.cells (List.toArray [.int .i64 x.lo.maj, .int .i64 x.lo.min, .int .i64 x.lo.pat, .slice o1 x.lo.pre.length l1, .int .i64 x.hi.maj, .int .i64 x.hi.min, .int .i64 x.hi.pat, .slice o2 x.hi.pre.length l2, .bool x.un]) 103)) (Nat.le_refl _)
      have HIV := (VIn.own rfl ow2 OX.out.hi.ss).below (B := w4.heap.size) ((Below.refl _ w4).alloc (Nat.le_refl _) (.cells (List.toArray [.int .i64 x.lo.maj, .int .i64 x.lo.min, .int .i64 x.lo.pat, .slice o1 x.lo.pre.length l1, .int .i64 x.hi.maj, .int .i64 x.hi.min, .int .i64 x.hi.pat, .slice o2 x.hi.pre.length l2, .bool x.un]) 103)) (Nat.le_refl _)
      have QL := SlQ.own (B0 := w.heap.size) (row := (Value.slice o n c').ownBlock) ow1 (by omega) hg0
      have QH := SlQ.own (B0 := w.heap.size) (row := (Value.slice o n c').ownBlock) ow2 (by omega) (fun g hg => by have := hg0 g hg; omega)
      obtain ⟨cs, own0, el0⟩ := OWA.mem
      have hlen := OWA.len
      refine wpI_apx rfl rfl rfl Tryz.tIvl rfl own0 (m := 1) (news := [.int .i64 x.lo.maj, .int .i64 x.lo.min, .int .i64 x.lo.pat, .slice o1 x.lo.pre.length l1, .int .i64 x.hi.maj, .int .i64 x.hi.min, .int .i64 x.hi.pat, .slice o2 x.hi.pre.length l2, .bool x.un]) (Src.ofSlice _ Tryz.tIvl.ht ⟨w4.heap.size, 0, none⟩ 1 1 _ rfl (fun j u hu => by rw [addr_add]; simp [hu]) (List.all_eq_true.1 rfl)) (by omega) (by simp; omega) ?_
      intro v5 w5 own5 hg5 hv5
      have NEW := ROwn.app hlen el0 ⟨o1, o2, l1, l2, rfl, LOV, HIV, QL, QH⟩ own5 hg5 hv5
      have hb5 := grown_below hg5 own0 (by simp; omega)
      have B5 : Below w.heap.size w w5 := bcall (B4.alloc s4 _) hb5 (by omega)
      clear own5 hg5 hv5 own0 el0 OWA LOV HIV QL QH ow1 ow2 OW
      replace O := OB.below hb5 (by omega)
      replace X := (X.alloc _).below hb5 (by omega)
      replace R := (R.alloc _).below hb5 (by omega)
      have q5 : w.heap.size + 3 ≤ w5.heap.size := by have z := hb5.size; simp at z; omega
      clear hb5 OB
      clear O_c O_f O_l X_c X_f X_l R_c R_f R_l Y_c Y_f Y_l
      obtain ⟨o5, c5, rfl⟩ := NEW.slice
      obtain ⟨O_c, O_f, O_l⟩ := id O
      try simp only [Act.put, List.setIfInBounds_toArray, List.set_cons_zero, List.set_cons_succ]
      repeat (refine wpI_rd rfl rfl ?_; go_big_quiet_step (fail); refine wpQuiet_nil ?_)
      try simp only [Act.put, List.setIfInBounds_toArray, List.set_cons_zero, List.set_cons_succ]
      refine wpI_st rfl rfl rfl (w' := w5.setCell ⟨w.heap.size + 1 + 1, 0, none⟩ (.slice o5 (n + 1) c5)) (by simp [go_sem, O_c, O_f]) ?_
      try simp only [Act.put]
      refine wpI_nil ?_
      try simp only [Act.put, List.setIfInBounds_toArray, List.set_cons_zero, List.set_cons_succ]
      go_wp2_with fail
      go_roundw
      case rel => exact ⟨n + 1, hlt2, by go_num, o5, n + 1, c5, O.set (k := 0) (by simp) _, by rw [HT.out]; exact NEW.far (by simp) (O.c 0) (fun _ h => by cases h) _, by go_grown, X.far (by dsimp only; omega) _, R.far (by dsimp only; omega) _, by simp; omega⟩
      case measure => simp [intOf]; omega
    · have e : n = r.length := by omega
      have t2 : decide ((n : Int) < (r.length : Int)) = false := by simp; omega
      have t3 : decide (n < r.length) = false := by simp; omega
      rw [List.take_of_length_le (by omega)] at OW
      obtain ⟨O_c, O_f, O_l⟩ := id O
      obtain ⟨R_c, R_f, R_l⟩ := id R
      clear e
      go_wp2_with fail
      have RN := R.set (k := 0) (by simp) (.slice o n c')
      obtain ⟨RN_c, RN_f, RN_l⟩ := RN
      refine bodyPost_ret (v := .agg #[.slice o n c']) (by simp [results, Tryz.results51, go_sem, RN_c]) rfl ⟨o, n, c', rfl, (OW.far (by simp) (R.c 0) (fun _ h => by cases h) _).base (by omega) (Nat.le_refl _), by go_grown⟩
theorem VIn.lit {w : World} {m n p : Int} {s : ByteArray} {g : Nat} (hs : s.size ≤ 9223372036854775807) (h : Bk w g [.string s]) : VIn w ⟨m, n, p, [s]⟩ (some ⟨g, 0, none⟩) 1 :=
  ⟨⟨rfl, Nat.le_refl _, by unfold maxLen; simp, .inr ⟨g, 0, rfl, h.lt, fun j u hu => by rw [Nat.zero_add]; exact (h.a j).trans hu⟩⟩, fun x hx => by rw [List.mem_singleton.1 hx]; exact hs⟩
set_option maxHeartbeats 1000000 in
theorem lowest_any (w : World) : Calls Tryz.prog 30 #[] w (RVer Pl.lowV w) := by
  go_enter Tryz.func30, Tryz.ntmps30
  go_wp2_with fail
  refine bodyPost_ret (v := .agg #[.int .i64 0, .int .i64 0, .int .i64 0, .slice (some ⟨w.heap.size + 1, 0, none⟩) 1 1]) (by simp [results, Tryz.results30, go_sem]) rfl ⟨some ⟨w.heap.size + 1, 0, none⟩, 1, rfl, VIn.lit (by decide) ?_, by go_grown⟩
  first | exact Bk.new (cs := [.string Pl.zeroId]) _ _ (by simp) | skip
/-- A range of one interval that the function itself has laid. -/
theorem RIn.lit {w : World} {x : Pl.Ivl} {g : Nat} {cs : List Value} (h : Bk w g cs) (hx : IvIs w x cs) : RIn w [x] (some ⟨g, 0, none⟩) 1 :=
  ⟨cs, ⟨by rw [hx.len]; rfl, Nat.le_refl _, by unfold maxLen; simp, .inr ⟨g, 0, rfl, h.lt, fun j u hu => by rw [Nat.zero_add]; exact (h.a j).trans hu⟩⟩, Elems.one hx hx.len⟩
theorem Pl.upI_ok {v : Pl.Ver} (ok : v.Ok) : Pl.Ivl.Ok ⟨v, Pl.Ver.zero, true⟩ := ⟨ok, Pl.zero_ok, fun _ => rfl, fun h => Bool.noConfusion h⟩
set_option maxHeartbeats 1000000 in
theorem from_any (v : Pl.Ver) (a : Option Addr) (c : Nat) (w : World) (h : VIn w v a c) (ok : v.Ok) : Calls Tryz.prog 29 #[verV v a c] w (RRng (Pl.upR v) w) := by
  have H := Lib.hid h
  have OK := Lib.hid ok
  have hl := h.len
  clear h ok
  go_enter Tryz.func29, Tryz.ntmps29
  have B0 : Below w.heap.size w w := Below.refl _ _
  go_wp2_with fail
  have SS := Bk.new (r := w.heap.size + 1 + 1) (cs := [.int .i64 v.maj, .int .i64 v.min, .int .i64 v.pat, .slice a v.pre.length c, .int .i64 0, .int .i64 0, .int .i64 0, .slice none 0 0, .bool true]) ((w.alloc (.cells #[.int .i64 v.maj, .int .i64 v.min, .int .i64 v.pat, .slice a v.pre.length c] 48)).alloc (.cells #[.slice none 0 0] 44)) 103 (by simp)
  refine (rngCopy_any [⟨v, Pl.Ver.zero, true⟩] _ 1 _ (RIn.lit SS ⟨a, none, c, 0, rfl, H.out.below (by go_grown) (Nat.le_refl _), VIn.zero _⟩) (fun x hx => by rw [List.mem_singleton.1 hx]; exact Pl.upI_ok OK.out) (by simp)).mono ?_
  rintro e w1 ⟨o1, n1, c1, rfl, OW, hb⟩
  clear SS
  have B1 : Below w.heap.size w w1 := bcall (by go_grown) hb (by go_size)
  have q1 : w.heap.size + 3 ≤ w1.heap.size := by have z := hb.size; (try simp only [World.size_alloc] at z); omega
  replace H := Lib.hid ((((H.out.below (Below.refl _ _ |>.alloc (Nat.le_refl _) _) (Nat.le_refl _)).below (Below.refl _ _ |>.alloc (Nat.le_refl _) _) (Nat.le_refl _)).below (Below.refl _ _ |>.alloc (Nat.le_refl _) _) (Nat.le_refl _)).below hb (Nat.le_refl _))
  have X := ((((Bk.new (r := w.heap.size) (cs := [.int .i64 v.maj, .int .i64 v.min, .int .i64 v.pat, .slice a v.pre.length c]) _ 48 (by simp)).alloc _).alloc _)).below hb (by go_size)
  have R := (((Bk.new (r := w.heap.size + 1) (cs := [.slice none 0 0]) _ 44 (by simp)).alloc _)).below hb (by go_size)
  have S := ((Bk.new (r := w.heap.size + 1 + 1) (cs := [.int .i64 v.maj, .int .i64 v.min, .int .i64 v.pat, .slice a v.pre.length c, .int .i64 0, .int .i64 0, .int .i64 0, .slice none 0 0, .bool true]) _ 103 (by simp))).below hb (by go_size)
  clear hb
  have s1 : w.heap.size ≤ w1.heap.size := B1.size
  obtain ⟨X_c, X_f, X_l⟩ := id X
  obtain ⟨R_c, R_f, R_l⟩ := id R
  obtain ⟨S_c, S_f, S_l⟩ := id S
  go_wp2_with fail
  have hn1 : n1 = 1 := OW.len.symm
  subst hn1
  have RN := R.set (k := 0) (by simp) (.slice o1 1 c1)
  obtain ⟨RN_c, RN_f, RN_l⟩ := RN
  refine bodyPost_ret (v := .agg #[.slice o1 1 c1]) (by simp [results, Tryz.results29, go_sem, RN_c]) rfl ⟨o1, c1, rfl, (OW.far (by simp) (R.c 0) (fun _ h => by cases h) _).rin, by go_grown⟩
set_option maxHeartbeats 1000000 in
theorem span_any (u v : Pl.Ver) (a b : Option Addr) (c d : Nat) (w : World) (h1 : VIn w u a c) (h2 : VIn w v b d) (oku : u.Ok) (okv : v.Ok) : Calls Tryz.prog 55 #[verV u a c, verV v b d] w (RRng (Pl.oneR u v) w) := by
  have H := Lib.hid h1
  have K := Lib.hid h2
  have OU := Lib.hid oku
  have OV := Lib.hid okv
  have hl1 := h1.len
  have hl2 := h2.len
  obtain ⟨k, hk⟩ : ∃ k, Pl.verCmp u v = k := ⟨_, rfl⟩
  have CO := Lib.hid (fun (W : World) (g1 : VIn W u a c) (g2 : VIn W v b d) => Order_any u v a b c d W (VOk.of g1 oku) (VOk.of g2 okv))
  rw [hk] at CO
  clear h1 h2 oku okv
  by_cases k0 : 0 ≤ k
  · have E : Hid (Pl.oneR u v = []) := Lib.hid (by unfold Pl.oneR; rw [hk, if_neg (by omega)])
    have t1 := decT k0
    clear hk k0
    go_enter Tryz.func55, Tryz.ntmps55
    have B0 : Below w.heap.size w w := Below.refl _ _
    go_wp2_with fail
    refine (CO.out _ (H.out.below (by go_grown) (Nat.le_refl _)) (K.out.below (by go_grown) (Nat.le_refl _))).mono ?_
    rintro e w1 ⟨rfl, hb⟩
    have B1 : Below w.heap.size w w1 := bcall (by go_grown) hb (by go_size)
    have q1 : w.heap.size + 3 ≤ w1.heap.size := by have z := hb.size; (try simp only [World.size_alloc] at z); omega
    replace H := Lib.hid ((((H.out.below (Below.refl _ _ |>.alloc (Nat.le_refl _) _) (Nat.le_refl _)).below (Below.refl _ _ |>.alloc (Nat.le_refl _) _) (Nat.le_refl _)).below (Below.refl _ _ |>.alloc (Nat.le_refl _) _) (Nat.le_refl _)).below hb (Nat.le_refl _))
    replace K := Lib.hid ((((K.out.below (Below.refl _ _ |>.alloc (Nat.le_refl _) _) (Nat.le_refl _)).below (Below.refl _ _ |>.alloc (Nat.le_refl _) _) (Nat.le_refl _)).below (Below.refl _ _ |>.alloc (Nat.le_refl _) _) (Nat.le_refl _)).below hb (Nat.le_refl _))
    have X := ((((Bk.new (r := w.heap.size) (cs := [.int .i64 u.maj, .int .i64 u.min, .int .i64 u.pat, .slice a u.pre.length c]) _ 48 (by simp)).alloc _).alloc _)).below hb (by go_size)
    have Y := (((Bk.new (r := w.heap.size + 1) (cs := [.int .i64 v.maj, .int .i64 v.min, .int .i64 v.pat, .slice b v.pre.length d]) _ 48 (by simp)).alloc _)).below hb (by go_size)
    have R := ((Bk.new (r := w.heap.size + 1 + 1) (cs := [.slice none 0 0]) _ 44 (by simp))).below hb (by go_size)
    clear hb
    have s1 : w.heap.size ≤ w1.heap.size := B1.size
    obtain ⟨X_c, X_f, X_l⟩ := id X
    obtain ⟨Y_c, Y_f, Y_l⟩ := id Y
    obtain ⟨R_c, R_f, R_l⟩ := id R
    go_wp2_with fail
    have RN := R.set (k := 0) (by simp) (.slice none 0 0)
    obtain ⟨RN_c, RN_f, RN_l⟩ := RN
    rw [E.out]
    refine bodyPost_ret (v := .agg #[.slice none 0 0]) (by simp [results, Tryz.results55, go_sem, RN_c]) rfl ⟨none, 0, rfl, RIn.nil _, by go_grown⟩
  · have E : Hid (Pl.oneR u v = [⟨u, v, false⟩]) := Lib.hid (by unfold Pl.oneR; rw [hk, if_pos (by omega)])
    have OX : Hid (Pl.Ivl.Ok ⟨u, v, false⟩) := Lib.hid ⟨OU.out, OV.out, fun h => Bool.noConfusion h, fun _ => by show Pl.verCmp u v < 0; omega⟩
    have t1 := decF k0
    clear hk k0
    go_enter Tryz.func55, Tryz.ntmps55
    have B0 : Below w.heap.size w w := Below.refl _ _
    go_wp2_with fail
    refine (CO.out _ (H.out.below (by go_grown) (Nat.le_refl _)) (K.out.below (by go_grown) (Nat.le_refl _))).mono ?_
    rintro e w1 ⟨rfl, hb⟩
    have B1 : Below w.heap.size w w1 := bcall (by go_grown) hb (by go_size)
    have q1 : w.heap.size + 3 ≤ w1.heap.size := by have z := hb.size; (try simp only [World.size_alloc] at z); omega
    replace H := Lib.hid ((((H.out.below (Below.refl _ _ |>.alloc (Nat.le_refl _) _) (Nat.le_refl _)).below (Below.refl _ _ |>.alloc (Nat.le_refl _) _) (Nat.le_refl _)).below (Below.refl _ _ |>.alloc (Nat.le_refl _) _) (Nat.le_refl _)).below hb (Nat.le_refl _))
    replace K := Lib.hid ((((K.out.below (Below.refl _ _ |>.alloc (Nat.le_refl _) _) (Nat.le_refl _)).below (Below.refl _ _ |>.alloc (Nat.le_refl _) _) (Nat.le_refl _)).below (Below.refl _ _ |>.alloc (Nat.le_refl _) _) (Nat.le_refl _)).below hb (Nat.le_refl _))
    have X := ((((Bk.new (r := w.heap.size) (cs := [.int .i64 u.maj, .int .i64 u.min, .int .i64 u.pat, .slice a u.pre.length c]) _ 48 (by simp)).alloc _).alloc _)).below hb (by go_size)
    have Y := (((Bk.new (r := w.heap.size + 1) (cs := [.int .i64 v.maj, .int .i64 v.min, .int .i64 v.pat, .slice b v.pre.length d]) _ 48 (by simp)).alloc _)).below hb (by go_size)
    have R := ((Bk.new (r := w.heap.size + 1 + 1) (cs := [.slice none 0 0]) _ 44 (by simp))).below hb (by go_size)
    clear hb
    have s1 : w.heap.size ≤ w1.heap.size := B1.size
    obtain ⟨X_c, X_f, X_l⟩ := id X
    obtain ⟨Y_c, Y_f, Y_l⟩ := id Y
    obtain ⟨R_c, R_f, R_l⟩ := id R
    go_wp2_with fail
    have SS := Bk.new (r := w1.heap.size) (cs := [.int .i64 u.maj, .int .i64 u.min, .int .i64 u.pat, .slice a u.pre.length c, .int .i64 v.maj, .int .i64 v.min, .int .i64 v.pat, .slice b v.pre.length d, .bool false]) w1 103 rfl
    refine (rngCopy_any [⟨u, v, false⟩] _ 1 _ (RIn.lit SS ⟨a, b, c, d, rfl, H.out.below (by go_grown) (Nat.le_refl _), K.out.below (by go_grown) (Nat.le_refl _)⟩) (fun x hx => by rw [List.mem_singleton.1 hx]; exact OX.out) (by simp)).mono ?_
    rintro e w2 ⟨o1, n1, c1, rfl, OW, hb⟩
    clear SS
    have B2 : Below w.heap.size w w2 := bcall (by go_grown) hb (by go_size)
    have q2 : w1.heap.size + 1 ≤ w2.heap.size := by have z := hb.size; (try simp only [World.size_alloc] at z); omega
    replace H := Lib.hid ((H.out.below (Below.refl _ _ |>.alloc (Nat.le_refl _) _) (Nat.le_refl _)).below hb (Nat.le_refl _))
    replace K := Lib.hid ((K.out.below (Below.refl _ _ |>.alloc (Nat.le_refl _) _) (Nat.le_refl _)).below hb (Nat.le_refl _))
    replace X := ((X.alloc _)).below hb (by go_size)
    replace Y := ((Y.alloc _)).below hb (by go_size)
    replace R := ((R.alloc _)).below hb (by go_size)
    have S := ((Bk.new (r := w1.heap.size) (cs := [.int .i64 u.maj, .int .i64 u.min, .int .i64 u.pat, .slice a u.pre.length c, .int .i64 v.maj, .int .i64 v.min, .int .i64 v.pat, .slice b v.pre.length d, .bool false]) _ 103 (by simp))).below hb (by go_size)
    clear hb
    have s2 : w.heap.size ≤ w2.heap.size := B2.size
    clear X_c X_f X_l Y_c Y_f Y_l R_c R_f R_l
    obtain ⟨X_c, X_f, X_l⟩ := id X
    obtain ⟨Y_c, Y_f, Y_l⟩ := id Y
    obtain ⟨R_c, R_f, R_l⟩ := id R
    obtain ⟨S_c, S_f, S_l⟩ := id S
    go_wp2_with fail
    have hn1 : n1 = 1 := OW.len.symm
    subst hn1
    have RN := R.set (k := 0) (by simp) (.slice o1 1 c1)
    obtain ⟨RN_c, RN_f, RN_l⟩ := RN
    rw [E.out]
    refine bodyPost_ret (v := .agg #[.slice o1 1 c1]) (by simp [results, Tryz.results55, go_sem, RN_c]) rfl ⟨o1, c1, rfl, (OW.far (by simp; omega) (R.c 0) (fun _ h => by cases h) _).rin, by go_grown⟩
end Go.Proofs.YtgngehfgcogceaaGreatDoor
