/- Texts joined: Eb Nz Ed. -/
import Derived.Test.YtjfkmbehckdjlaaGreatDoorEa
import Derived.Test.YtjfkmbehckdjlaaGreatDoorEv
import Derived.Test.YtjfkmbehckdjlaaGreatDoorEc
import Derived.Test.YtjfkmbehckdjlaaGreatDoorDh
section
/- Contract of the reference: what is in a range. -/
namespace Go.Proofs.YtjfkmbehckdjlaaGreatDoor
open Go.RowKit

set_option maxHeartbeats 2000000 in
theorem RangeHas_any (r : List Pl.Ivl) (v : Pl.Ver) (a p : Option Addr) (c q : Nat) (w : World) (h : RIn w r a c) (h3 : VIn w v p q) (okr : ∀ x ∈ r, x.Ok) (okv : v.Ok) :
    Calls Tryz.prog 17 #[.agg #[.slice a r.length c], verV v p q] w fun e w' => e = .returned (.bool (Pl.hasB r v)) ∧ Below w.heap.size w w' := by
  have hm := h.len
  have H := Lib.hid h
  have V := Lib.hid h3
  have OK := Lib.hid okr
  have OV := Lib.hid okv
  obtain ⟨b, hb⟩ : ∃ b, Pl.hasB r v = b := ⟨_, rfl⟩
  rw [hb]
  have HB := Lib.hid hb
  clear h h3 okr okv hb
  go_enter Tryz.func17, Tryz.ntmps17
  go_wp2_with fail
  have X := Bk.new (r := w.heap.size) (cs := [.slice a r.length c]) w 24 rfl
  have Y := Bk.new (r := w.heap.size + 1) (cs := [.int .i64 v.maj, .int .i64 v.min, .int .i64 v.pat, .slice p v.pre.length q]) (w.alloc (.cells #[.slice a r.length c] 24)) 27 (by simp)
  replace X := X.alloc (.cells #[.int .i64 v.maj, .int .i64 v.min, .int .i64 v.pat, .slice p v.pre.length q] 27)
  have B0 : Below w.heap.size w ((w.alloc (.cells #[.slice a r.length c] 24)).alloc (.cells #[.int .i64 v.maj, .int .i64 v.min, .int .i64 v.pat, .slice p v.pre.length q] 27)) := by go_grown
  go_loopw [5] (fun i wr => ∃ k : Nat, k ≤ r.length ∧ i = .int .i64 k ∧ Hid (Pl.NoTo r v k) ∧ Bk wr w.heap.size [.slice a r.length c] ∧ Bk wr (w.heap.size + 1) [.int .i64 v.maj, .int .i64 v.min, .int .i64 v.pat, .slice p v.pre.length q] ∧ Below w.heap.size w wr) (fun i _ => r.length - (intOf i).toNat)
  case atStart => exact ⟨0, Nat.zero_le _, rfl, Lib.hid (fun _ _ h => absurd h (by omega)), X, Y, B0⟩
  case round =>
    clear X Y B0
    obtain ⟨k, hk, rfl, hu, X, Y, B1⟩ := hrel
    have s1 := B1.size
    by_cases hlt2 : k < r.length
    · have H2 := Lib.hid (H.out.below B1 (Nat.le_refl _))
      have V2 := Lib.hid (V.out.below B1 (Nat.le_refl _))
      have t5 : decide ((k : Int) < (r.length : Int)) = true := decT (by omega)
      obtain ⟨X_c, X_f, X_l⟩ := id X
      obtain ⟨Y_c, Y_f, Y_l⟩ := id Y
      go_wp2_with fail
      refine wp_region_ord [0, 1, 2, 3, 4, 5, 6] (by kernel_rfl) (by kernel_rfl) ?_
      have B2 : Below w.heap.size w wr.drew := by go_grown
      have q2 : wr.heap.size + 0 ≤ wr.drew.heap.size := by simp only [World.size_drew]; omega
      replace H2 := Lib.hid (H2.out.below (Below.refl _ _).drew (Nat.le_refl _))
      replace V2 := Lib.hid (V2.out.below (Below.refl _ _).drew (Nat.le_refl _))
      replace X := X.drew
      replace Y := Y.drew
      clear X_c X_f X_l Y_c Y_f Y_l
      generalize wr.drew = w2 at *
      have s2 : w.heap.size ≤ w2.heap.size := B2.size
      obtain ⟨X_c, X_f, X_l⟩ := id X
      obtain ⟨Y_c, Y_f, Y_l⟩ := id Y
      obtain ⟨b0, off, rfl, hlt, hat⟩ := H2.out.at (by omega)
      obtain ⟨a1, b1, c1, d1, I⟩ := hat k hlt2
      have OX := Lib.hid (OK.out _ (List.getElem_mem hlt2))
      have HT := Lib.hid (Pl.has_at (v := v) hlt2)
      have HN := Lib.hid (fun e => hu.out.succ (hk := hlt2) e)
      clear hat
      obtain ⟨e0, e1, e2, e3, e4, e5, e6, e7, e8, VL, VH⟩ := I
      have CX := Lib.hid (within_any r[k] v a1 b1 p c1 d1 q w2 VL VH V2.out OX.out OV.out)
      obtain ⟨g, hg⟩ : ∃ g, Pl.inI r[k] v = g := ⟨_, rfl⟩
      rw [hg] at CX HT HN
      clear VL VH OX hg
      generalize r[k] = x at *
      repeat (refine wpI_rd rfl rfl ?_; go_big_quiet_step (fail); refine wpQuiet_nil ?_)
      try simp only [Act.put, List.setIfInBounds_toArray, List.set_cons_zero, List.set_cons_succ]
      refine wpI_call (f := 49) rfl rfl rfl (by simp [go_sem]; rfl) ?_
      refine (CX.out).mono ?_
      rintro e w3 ⟨rfl, hb⟩
      refine ⟨_, rfl, hb, ?_⟩
      skip
      have B3 : Below w.heap.size w w3 := bcall (by go_grown) hb (by go_size)
      have q3 : w2.heap.size + 0 ≤ w3.heap.size := by have z := hb.size; (try simp only [World.size_alloc, World.size_setCell, World.size_drew] at z); omega
      replace H2 := Lib.hid (H2.out.below hb (Nat.le_refl _))
      replace V2 := Lib.hid (V2.out.below hb (Nat.le_refl _))
      replace X := (X).below hb (by go_size)
      replace Y := (Y).below hb (by go_size)
      clear hb
      have s3 : w.heap.size ≤ w3.heap.size := B3.size
      clear X_c X_f X_l Y_c Y_f Y_l
      obtain ⟨X_c, X_f, X_l⟩ := id X
      obtain ⟨Y_c, Y_f, Y_l⟩ := id Y
      try simp only [Act.put, List.setIfInBounds_toArray, List.set_cons_zero, List.set_cons_succ]
      clear e0 e1 e2 e3 e4 e5 e6 e7 e8 CX
      refine wpI_nil ?_
      try simp only [Act.put, List.setIfInBounds_toArray, List.set_cons_zero, List.set_cons_succ]
      cases g with
      | true =>
        have E := Lib.hid (HB.out.symm.trans (HT.out rfl))
        go_wp2_with fail
        go_ret
        exact ⟨ret_bool E.out.symm, B3⟩
      | false =>
        have E := Lib.hid (HN.out rfl)
        clear HN HT
        go_wp2_with fail
        go_roundw
        case rel => exact ⟨k + 1, hlt2, by go_num, E, X, Y, B3⟩
        case measure => simp [intOf]; omega
    · have E := Lib.hid (HB.out.symm.trans (hu.out.none (by omega)))
      have t5 : decide ((k : Int) < (r.length : Int)) = false := decF (by omega)
      obtain ⟨X_c, X_f, X_l⟩ := id X
      go_wp2_with fail
      go_ret
      exact ⟨ret_bool E.out.symm, B1⟩
end Go.Proofs.YtjfkmbehckdjlaaGreatDoor

end
section
/- Plain laws of the operations on ranges. -/
namespace Go.Proofs.YtjfkmbehckdjlaaGreatDoor
open Go.RowKit

theorem str_self (S : ByteArray) : (S.toList == S.toList) = true ∧ (S.toList != S.toList) = false := ⟨by simp, by simp⟩
namespace Pl
theorem con_has {r : List Ivl} {v : Ver} (hr : rngF r = (0, 0)) (hv : v.Ok) : conB r v = hasB r v := by
  have e : conF r v = (0, 0) := by unfold conF; rw [hr, vrF_ok hv, if_neg (fun h => h rfl), if_neg (fun h => h rfl)]
  unfold conB
  rw [e, if_neg (fun h => h rfl)]
theorem opF_zero {P : Int × Int} {x : List Ivl} (h : (opF P x).1 = 0) : P.1 = 0 ∧ x.length ≤ 12 ∧ opV P x = x ∧ opF P x = (0, 0) := by
  unfold opF at h
  by_cases hp : P.1 = 0
  · rw [if_neg (fun e => e hp)] at h
    unfold limF at h
    by_cases hl : 12 < x.length
    · rw [if_pos hl] at h; cases h
    · refine ⟨hp, by omega, ?_, ?_⟩
      · unfold opV limR; rw [if_neg (fun e => e hp), if_neg hl]
      · unfold opF limF; rw [if_neg (fun e => e hp), if_neg hl]
  · rw [if_pos hp] at h; exact absurd h hp
theorem pair_zero {a b : List Ivl} (h : (pairF a b).1 = 0) : rngF a = (0, 0) ∧ rngF b = (0, 0) := by
  by_cases ha : (rngF a).1 = 0
  · by_cases hb : (rngF b).1 = 0
    · exact ⟨rng_zero ha, rng_zero hb⟩
    · rw [pairF_b ha hb] at h; exact absurd h hb
  · rw [pairF_a ha] at h; exact absurd h ha
theorem con_union {a b : List Ivl} {v : Ver} (hv : v.Ok) (h : (opF (pairF a b) (unionR a b)).1 = 0) : conB (opV (pairF a b) (unionR a b)) v = (conB a v || conB b v) := by
  obtain ⟨h1, h2, h3, _⟩ := opF_zero h
  obtain ⟨ha, hb⟩ := pair_zero h1
  have ca := (rng_ok (r := a) (by rw [ha])).2
  have cb := (rng_ok (r := b) (by rw [hb])).2
  obtain ⟨k1, k2⟩ := unionR_can ca cb.ok
  rw [h3, con_has (rng_can h2 k1) hv, con_has ha hv, con_has hb hv, k2]
theorem con_inter {a b : List Ivl} {v : Ver} (hv : v.Ok) (h : (opF (pairF a b) (commonR a b)).1 = 0) : conB (opV (pairF a b) (commonR a b)) v = (conB a v && conB b v) := by
  obtain ⟨h1, h2, h3, _⟩ := opF_zero h
  obtain ⟨ha, hb⟩ := pair_zero h1
  have ca := (rng_ok (r := a) (by rw [ha])).2
  have cb := (rng_ok (r := b) (by rw [hb])).2
  obtain ⟨k1, k2⟩ := commonR_can ca cb
  rw [h3, con_has (rng_can h2 k1) hv, con_has ha hv, con_has hb hv, k2]
theorem con_compl {a : List Ivl} {v : Ver} (hv : v.Ok) (h : (opF (rngF a) (invR a)).1 = 0) : conB (opV (rngF a) (invR a)) v = !conB a v := by
  obtain ⟨h1, h2, h3, _⟩ := opF_zero h
  have ha := rng_zero h1
  have ca := (rng_ok (r := a) (by rw [ha])).2
  obtain ⟨k1, k2⟩ := invR_can ca
  rw [h3, con_has (rng_can h2 k1) hv, con_has ha hv, k2 v hv]
end Pl
end Go.Proofs.YtjfkmbehckdjlaaGreatDoor

end
section
/- Contract of the reference: the fault of two ranges. -/
namespace Go.Proofs.YtjfkmbehckdjlaaGreatDoor
open Go.RowKit

theorem field_flt (x y : Int) (w : World) : (Instr.field 29 (.agg #[.int .i64 x, .int .i64 y]) 0).run Tryz.prog w = .ok (.int .i64 x) w := by kernel_rfl
set_option maxRecDepth 100000 in
set_option maxHeartbeats 2000000 in
theorem pair_a (r t : List Pl.Ivl) (a b : Option Addr) (c d : Nat) (w : World) (h1 : RIn w r a c) (h2 : RIn w t b d) (f1 f2 : Int) (hf : f1 ≠ 0) (e1 : Pl.rngF r = (f1, f2)) :
    Calls Tryz.prog 19 #[.agg #[.slice a r.length c], .agg #[.slice b t.length d]] w fun e w' => e = .returned (fltV (f1, f2)) ∧ Below w.heap.size w w' := by
  have CA := Lib.hid (fun (W : World) (g1 : RIn W r a c) => RangeFault_any r a c W g1)
  have CB := Lib.hid (fun (W : World) (g1 : RIn W t b d) => RangeFault_any t b d W g1)
  have H := Lib.hid h1
  have K := Lib.hid h2
  rw [e1] at CA
  have u1 := bneT hf
  have u2 := beqF hf
  clear e1 hf
  simp only [fltV] at CA CB ⊢
  clear h1 h2
  have fld := field_flt
  go_enter Tryz.func19, Tryz.ntmps19
  have B0 : Below w.heap.size w w := Below.refl _ _
  go_wp2_with fail
  refine (CA.out _ (H.out.below (by go_grown) (Nat.le_refl _))).mono ?_
  rintro e w1 ⟨rfl, hb⟩
  have B1 : Below w.heap.size w w1 := bcall (by go_grown) hb (by go_size)
  have q1 : w.heap.size + 3 ≤ w1.heap.size := by have z := hb.size; (try simp only [World.size_alloc] at z); omega
  replace H := Lib.hid ((((H.out.below (Below.refl _ _ |>.alloc (Nat.le_refl _) _) (Nat.le_refl _)).below (Below.refl _ _ |>.alloc (Nat.le_refl _) _) (Nat.le_refl _)).below (Below.refl _ _ |>.alloc (Nat.le_refl _) _) (Nat.le_refl _)).below hb (Nat.le_refl _))
  replace K := Lib.hid ((((K.out.below (Below.refl _ _ |>.alloc (Nat.le_refl _) _) (Nat.le_refl _)).below (Below.refl _ _ |>.alloc (Nat.le_refl _) _) (Nat.le_refl _)).below (Below.refl _ _ |>.alloc (Nat.le_refl _) _) (Nat.le_refl _)).below hb (Nat.le_refl _))
  have X := ((((Bk.new (r := w.heap.size) (cs := [.slice a r.length c]) _ 24 (by simp)).alloc _).alloc _)).below hb (by go_size)
  have Y := (((Bk.new (r := w.heap.size + 1) (cs := [.slice b t.length d]) _ 24 (by simp)).alloc _)).below hb (by go_size)
  have R := ((Bk.new (r := w.heap.size + 1 + 1) (cs := [.int .i64 0, .int .i64 0]) _ 29 (by simp))).below hb (by go_size)
  clear hb
  have s1 : w.heap.size ≤ w1.heap.size := B1.size
  obtain ⟨X_c, X_f, X_l⟩ := id X
  obtain ⟨Y_c, Y_f, Y_l⟩ := id Y
  obtain ⟨R_c, R_f, R_l⟩ := id R
  go_wp2_with fail
  have RN := (((R.set (k := 0) (by simp) (.int .i64 f1)).set (k := 1) (by simp) (.int .i64 f2)).alloc (.cells #[.int .i64 f1, .int .i64 f2] 29))
  obtain ⟨RN_c, RN_f, RN_l⟩ := RN
  refine bodyPost_ret (v := .agg #[.int .i64 f1, .int .i64 f2]) (by simp [results, Tryz.results19, go_sem, RN_c]) rfl ⟨rfl, by go_grown⟩
set_option maxRecDepth 100000 in
set_option maxHeartbeats 2000000 in
theorem pair_b (r t : List Pl.Ivl) (a b : Option Addr) (c d : Nat) (w : World) (h1 : RIn w r a c) (h2 : RIn w t b d) (f1 f2 : Int) (hf : f1 ≠ 0) (e1 : Pl.rngF r = (0, 0)) (e2 : Pl.rngF t = (f1, f2)) :
    Calls Tryz.prog 19 #[.agg #[.slice a r.length c], .agg #[.slice b t.length d]] w fun e w' => e = .returned (fltV (f1, -2)) ∧ Below w.heap.size w w' := by
  have CA := Lib.hid (fun (W : World) (g1 : RIn W r a c) => RangeFault_any r a c W g1)
  have CB := Lib.hid (fun (W : World) (g1 : RIn W t b d) => RangeFault_any t b d W g1)
  have H := Lib.hid h1
  have K := Lib.hid h2
  rw [e1] at CA
  rw [e2] at CB
  have u1 := bneT hf
  have u2 := beqF hf
  clear e1 e2 hf
  simp only [fltV] at CA CB ⊢
  clear h1 h2
  have fld := field_flt
  go_enter Tryz.func19, Tryz.ntmps19
  have B0 : Below w.heap.size w w := Below.refl _ _
  go_wp2_with fail
  refine (CA.out _ (H.out.below (by go_grown) (Nat.le_refl _))).mono ?_
  rintro e w1 ⟨rfl, hb⟩
  have B1 : Below w.heap.size w w1 := bcall (by go_grown) hb (by go_size)
  have q1 : w.heap.size + 3 ≤ w1.heap.size := by have z := hb.size; (try simp only [World.size_alloc] at z); omega
  replace H := Lib.hid ((((H.out.below (Below.refl _ _ |>.alloc (Nat.le_refl _) _) (Nat.le_refl _)).below (Below.refl _ _ |>.alloc (Nat.le_refl _) _) (Nat.le_refl _)).below (Below.refl _ _ |>.alloc (Nat.le_refl _) _) (Nat.le_refl _)).below hb (Nat.le_refl _))
  replace K := Lib.hid ((((K.out.below (Below.refl _ _ |>.alloc (Nat.le_refl _) _) (Nat.le_refl _)).below (Below.refl _ _ |>.alloc (Nat.le_refl _) _) (Nat.le_refl _)).below (Below.refl _ _ |>.alloc (Nat.le_refl _) _) (Nat.le_refl _)).below hb (Nat.le_refl _))
  have X := ((((Bk.new (r := w.heap.size) (cs := [.slice a r.length c]) _ 24 (by simp)).alloc _).alloc _)).below hb (by go_size)
  have Y := (((Bk.new (r := w.heap.size + 1) (cs := [.slice b t.length d]) _ 24 (by simp)).alloc _)).below hb (by go_size)
  have R := ((Bk.new (r := w.heap.size + 1 + 1) (cs := [.int .i64 0, .int .i64 0]) _ 29 (by simp))).below hb (by go_size)
  clear hb
  have s1 : w.heap.size ≤ w1.heap.size := B1.size
  obtain ⟨X_c, X_f, X_l⟩ := id X
  obtain ⟨Y_c, Y_f, Y_l⟩ := id Y
  obtain ⟨R_c, R_f, R_l⟩ := id R
  go_wp2_with fail
  refine (CB.out _ (K.out.below (by go_grown) (Nat.le_refl _))).mono ?_
  rintro e w2 ⟨rfl, hb⟩
  have B2 : Below w.heap.size w w2 := bcall (by go_grown) hb (by go_size)
  have q2 : w1.heap.size + 1 ≤ w2.heap.size := by have z := hb.size; (try simp only [World.size_alloc] at z); omega
  replace H := Lib.hid ((H.out.below (Below.refl _ _ |>.alloc (Nat.le_refl _) _) (Nat.le_refl _)).below hb (Nat.le_refl _))
  replace K := Lib.hid ((K.out.below (Below.refl _ _ |>.alloc (Nat.le_refl _) _) (Nat.le_refl _)).below hb (Nat.le_refl _))
  replace X := ((X.alloc _)).below hb (by go_size)
  replace Y := ((Y.alloc _)).below hb (by go_size)
  replace R := ((R.alloc _)).below hb (by go_size)
  have Z := ((Bk.new (r := w1.heap.size) (cs := [.int .i64 0, .int .i64 0]) _ 29 (by simp))).below hb (by go_size)
  clear hb
  have s2 : w.heap.size ≤ w2.heap.size := B2.size
  clear X_c X_f X_l Y_c Y_f Y_l R_c R_f R_l
  obtain ⟨X_c, X_f, X_l⟩ := id X
  obtain ⟨Y_c, Y_f, Y_l⟩ := id Y
  obtain ⟨R_c, R_f, R_l⟩ := id R
  obtain ⟨Z_c, Z_f, Z_l⟩ := id Z
  go_wp2_with fail
  refine (CB.out _ K.out).mono ?_
  rintro e w3 ⟨rfl, hb⟩
  have B3 : Below w.heap.size w w3 := bcall (by go_grown) hb (by go_size)
  have q3 : w2.heap.size + 0 ≤ w3.heap.size := by have z := hb.size; (try simp only [World.size_alloc, World.size_setCell, World.size_drew] at z); omega
  replace H := Lib.hid (H.out.below hb (Nat.le_refl _))
  replace K := Lib.hid (K.out.below hb (Nat.le_refl _))
  replace X := (X).below hb (by go_size)
  replace Y := (Y).below hb (by go_size)
  replace R := (R).below hb (by go_size)
  replace Z := (Z).below hb (by go_size)
  clear hb
  have s3 : w.heap.size ≤ w3.heap.size := B3.size
  clear X_c X_f X_l Y_c Y_f Y_l R_c R_f R_l Z_c Z_f Z_l
  obtain ⟨X_c, X_f, X_l⟩ := id X
  obtain ⟨Y_c, Y_f, Y_l⟩ := id Y
  obtain ⟨R_c, R_f, R_l⟩ := id R
  obtain ⟨Z_c, Z_f, Z_l⟩ := id Z
  go_wp2_with fail
  refine (rfault_any f1 (-2) _).mono ?_
  rintro e w4 ⟨rfl, hb⟩
  have B4 : Below w.heap.size w w4 := bcall (by go_grown) hb (by go_size)
  have q4 : w3.heap.size + 0 ≤ w4.heap.size := by have z := hb.size; (try simp only [World.size_alloc, World.size_setCell, World.size_drew] at z); omega
  replace H := Lib.hid (H.out.below hb (Nat.le_refl _))
  replace K := Lib.hid (K.out.below hb (Nat.le_refl _))
  replace X := (X).below hb (by go_size)
  replace Y := (Y).below hb (by go_size)
  replace R := (R).below hb (by go_size)
  replace Z := (Z).below hb (by go_size)
  clear hb
  have s4 : w.heap.size ≤ w4.heap.size := B4.size
  clear X_c X_f X_l Y_c Y_f Y_l R_c R_f R_l Z_c Z_f Z_l
  obtain ⟨X_c, X_f, X_l⟩ := id X
  obtain ⟨Y_c, Y_f, Y_l⟩ := id Y
  obtain ⟨R_c, R_f, R_l⟩ := id R
  obtain ⟨Z_c, Z_f, Z_l⟩ := id Z
  go_wp2_with fail
  have RN := ((((R.far (a := ⟨w1.heap.size, 0, none⟩) (by dsimp only; omega) (.int .i64 f1)).far (a := ⟨w1.heap.size, 1, none⟩) (by dsimp only; omega) (.int .i64 (-2))).set (k := 0) (by simp) (.int .i64 f1)).set (k := 1) (by simp) (.int .i64 (-2)))
  obtain ⟨RN_c, RN_f, RN_l⟩ := RN
  refine bodyPost_ret (v := .agg #[.int .i64 f1, .int .i64 (-2)]) (by simp [results, Tryz.results19, go_sem, RN_c]) rfl ⟨rfl, by go_grown⟩
set_option maxRecDepth 100000 in
set_option maxHeartbeats 2000000 in
theorem pair_c (r t : List Pl.Ivl) (a b : Option Addr) (c d : Nat) (w : World) (h1 : RIn w r a c) (h2 : RIn w t b d) (e1 : Pl.rngF r = (0, 0)) (e2 : Pl.rngF t = (0, 0)) :
    Calls Tryz.prog 19 #[.agg #[.slice a r.length c], .agg #[.slice b t.length d]] w fun e w' => e = .returned (fltV (0, 0)) ∧ Below w.heap.size w w' := by
  have CA := Lib.hid (fun (W : World) (g1 : RIn W r a c) => RangeFault_any r a c W g1)
  have CB := Lib.hid (fun (W : World) (g1 : RIn W t b d) => RangeFault_any t b d W g1)
  have H := Lib.hid h1
  have K := Lib.hid h2
  rw [e1] at CA
  rw [e2] at CB
  clear e1 e2
  simp only [fltV] at CA CB ⊢
  clear h1 h2
  have fld := field_flt
  go_enter Tryz.func19, Tryz.ntmps19
  have B0 : Below w.heap.size w w := Below.refl _ _
  go_wp2_with fail
  refine (CA.out _ (H.out.below (by go_grown) (Nat.le_refl _))).mono ?_
  rintro e w1 ⟨rfl, hb⟩
  have B1 : Below w.heap.size w w1 := bcall (by go_grown) hb (by go_size)
  have q1 : w.heap.size + 3 ≤ w1.heap.size := by have z := hb.size; (try simp only [World.size_alloc] at z); omega
  replace H := Lib.hid ((((H.out.below (Below.refl _ _ |>.alloc (Nat.le_refl _) _) (Nat.le_refl _)).below (Below.refl _ _ |>.alloc (Nat.le_refl _) _) (Nat.le_refl _)).below (Below.refl _ _ |>.alloc (Nat.le_refl _) _) (Nat.le_refl _)).below hb (Nat.le_refl _))
  replace K := Lib.hid ((((K.out.below (Below.refl _ _ |>.alloc (Nat.le_refl _) _) (Nat.le_refl _)).below (Below.refl _ _ |>.alloc (Nat.le_refl _) _) (Nat.le_refl _)).below (Below.refl _ _ |>.alloc (Nat.le_refl _) _) (Nat.le_refl _)).below hb (Nat.le_refl _))
  have X := ((((Bk.new (r := w.heap.size) (cs := [.slice a r.length c]) _ 24 (by simp)).alloc _).alloc _)).below hb (by go_size)
  have Y := (((Bk.new (r := w.heap.size + 1) (cs := [.slice b t.length d]) _ 24 (by simp)).alloc _)).below hb (by go_size)
  have R := ((Bk.new (r := w.heap.size + 1 + 1) (cs := [.int .i64 0, .int .i64 0]) _ 29 (by simp))).below hb (by go_size)
  clear hb
  have s1 : w.heap.size ≤ w1.heap.size := B1.size
  obtain ⟨X_c, X_f, X_l⟩ := id X
  obtain ⟨Y_c, Y_f, Y_l⟩ := id Y
  obtain ⟨R_c, R_f, R_l⟩ := id R
  go_wp2_with fail
  refine (CB.out _ (K.out.below (by go_grown) (Nat.le_refl _))).mono ?_
  rintro e w2 ⟨rfl, hb⟩
  have B2 : Below w.heap.size w w2 := bcall (by go_grown) hb (by go_size)
  have q2 : w1.heap.size + 1 ≤ w2.heap.size := by have z := hb.size; (try simp only [World.size_alloc] at z); omega
  replace H := Lib.hid ((H.out.below (Below.refl _ _ |>.alloc (Nat.le_refl _) _) (Nat.le_refl _)).below hb (Nat.le_refl _))
  replace K := Lib.hid ((K.out.below (Below.refl _ _ |>.alloc (Nat.le_refl _) _) (Nat.le_refl _)).below hb (Nat.le_refl _))
  replace X := ((X.alloc _)).below hb (by go_size)
  replace Y := ((Y.alloc _)).below hb (by go_size)
  replace R := ((R.alloc _)).below hb (by go_size)
  have Z := ((Bk.new (r := w1.heap.size) (cs := [.int .i64 0, .int .i64 0]) _ 29 (by simp))).below hb (by go_size)
  clear hb
  have s2 : w.heap.size ≤ w2.heap.size := B2.size
  clear X_c X_f X_l Y_c Y_f Y_l R_c R_f R_l
  obtain ⟨X_c, X_f, X_l⟩ := id X
  obtain ⟨Y_c, Y_f, Y_l⟩ := id Y
  obtain ⟨R_c, R_f, R_l⟩ := id R
  obtain ⟨Z_c, Z_f, Z_l⟩ := id Z
  go_wp2_with fail
  have RN := ((R.set (k := 0) (by simp) (.int .i64 0)).set (k := 1) (by simp) (.int .i64 0))
  obtain ⟨RN_c, RN_f, RN_l⟩ := RN
  refine bodyPost_ret (v := .agg #[.int .i64 0, .int .i64 0]) (by simp [results, Tryz.results19, go_sem, RN_c]) rfl ⟨rfl, by go_grown⟩
theorem PairFault_any (r t : List Pl.Ivl) (a b : Option Addr) (c d : Nat) (w : World) (h1 : RIn w r a c) (h2 : RIn w t b d) :
    Calls Tryz.prog 19 #[.agg #[.slice a r.length c], .agg #[.slice b t.length d]] w fun e w' => e = .returned (fltV (Pl.pairF r t)) ∧ Below w.heap.size w w' := by
  unfold Pl.pairF
  by_cases f1 : (Pl.rngF r).1 = 0
  · rw [if_neg (fun h => h f1)]
    by_cases f2 : (Pl.rngF t).1 = 0
    · rw [if_neg (fun h => h f2)]
      exact pair_c r t a b c d w h1 h2 (Pl.rng_zero f1) (Pl.rng_zero f2)
    · rw [if_pos f2]
      exact pair_b r t a b c d w h1 h2 _ _ f2 (Pl.rng_zero f1) rfl
  · rw [if_pos f1]
    exact pair_a r t a b c d w h1 h2 _ _ f1 rfl
end Go.Proofs.YtjfkmbehckdjlaaGreatDoor

end
