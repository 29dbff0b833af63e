/- Contracts: the digest of a version's text (lockfile.seal); the lock file of the closed example (lockfile.Make). -/
import Derived.Test.YtolfgcoalihmgaaGreatDoorZDg
import Derived.Test.YtolfgcoalihmgaaGreatDoorZEz
import Derived.Test.YtolfgcoalihmgaaGreatDoorZMBf
import Derived.Test.YtolfgcoalihmgaaGreatDoorZMBj
import Derived.Test.YtolfgcoalihmgaaGreatDoorZMBs
import Derived.Test.YtolfgcoalihmgaaGreatDoorZMDa
import Derived.Test.YtolfgcoalihmgaaGreatDoorZMDd
import Derived.Test.YtolfgcoalihmgaaGreatDoorZMDf
import Derived.Test.YtolfgcoalihmgaaGreatDoorZMEa
import Derived.Test.YtolfgcoalihmgaaGreatDoorZMKb
import Derived.Test.YtolfgcoalihmgaaGreatDoorZMKd
import Derived.Test.YtolfgcoalihmgaaGreatDoorZMKe
import Derived.Test.YtolfgcoalihmgaaGreatDoorZMKk
import Derived.Test.YtolfgcoalihmgaaGreatDoorZMKo
import Derived.Test.YtolfgcoalihmgaaGreatDoorZMOb
import Derived.Test.YtolfgcoalihmgaaGreatDoorZMOc
import Derived.Test.YtolfgcoalihmgaaGreatDoorZMOn
import Derived.Test.YtolfgcoalihmgaaGreatDoorZMPo
import Derived.Test.YtolfgcoalihmgaaGreatDoorZMPq
import Derived.Test.YtolfgcoalihmgaaGreatDoorZMQd
import Derived.Test.YtolfgcoalihmgaaGreatDoorZMQg
import Derived.Test.YtolfgcoalihmgaaGreatDoorYWb
import Derived.Test.YtolfgcoalihmgaaGreatDoorYPp
import Derived.Test.YtolfgcoalihmgaaGreatDoorYKe
import Derived.Test.YtolfgcoalihmgaaGreatDoorYKn
import Derived.Test.YtolfgcoalihmgaaGreatDoorYBk
import Derived.Test.YtolfgcoalihmgaaGreatDoorYQb
import Derived.Test.YtolfgcoalihmgaaGreatDoorYQd
namespace Go.Proofs.YtolfgcoalihmgaaGreatDoor
open Go.RowKit
set_option maxHeartbeats 2000000 in
theorem seal_any (v : Pl.Ver) (a : Option Addr) (c : Nat) (w : World) (h : VIn w v a c) (E : Env w) (hn : (Pl.fmtV v).size ≤ 4096) :
 Calls Tryz.prog 96 #[verV v a c] w fun e w' => ∃ D : Int, e = .returned (.int .i64 D) ∧ Below w.heap.size w w' := by
 obtain ⟨f1, f2, hf⟩ : ∃ f1 f2, Pl.vrF v = (f1, f2) := ⟨_, _, rfl⟩
 have CF := Lib.hid (fun (W : World) (g1 : VIn W v a c) (g2 : Env W) => Format_any v a c W g1 g2)
 rw [hf] at CF
 simp only [fltV] at CF
 have H := Lib.hid h
 have HE := Lib.hid E
 clear h E hf
 generalize Pl.fmtV v = S at *
 go_enter Tryz.func96, Tryz.ntmps96
 have B0 : Below w.heap.size w w := Below.refl _ _
 go_wp2_with fail
 refine (CF.out _ ((H.out.below (Below.refl _ _ |>.alloc (Nat.le_refl _) _) (Nat.le_refl _))) (HE.out.below (by go_grown) (Nat.le_refl _))).mono ?_
 rintro e w1 ⟨rfl, hb⟩
 have B1 : Below w.heap.size w w1 := bcall (by go_grown) hb (by go_size)
 have q1 : w.heap.size + 1 ≤ w1.heap.size := by have z := hb.size; (try simp only [World.size_alloc] at z); omega
 replace H := Lib.hid ((H.out.below (Below.refl _ _ |>.alloc (Nat.le_refl _) _) (Nat.le_refl _)).below hb (Nat.le_refl _))
 have X := ((Bk.new (r := w.heap.size) (cs := [.int .i64 v.maj, .int .i64 v.min, .int .i64 v.pat, .slice a v.pre.length c]) _ 24 (by simp))).below hb (by go_size)
 clear hb
 have s1 : w.heap.size ≤ w1.heap.size := B1.size
 obtain ⟨X_c, X_f, X_l⟩ := id X
 obtain ⟨cv, w2, r2, bel2, sz2, sl2⟩ := run_s2b (P := Tryz.prog) (src := 9) Tryz.underlying9 Tryz.underlying131 Tryz.underlying5 (w1.alloc (.cells #[.int .i64 f1, .int .i64 f2] 27)) S (by unfold maxLen; omega)
 simp only [World.size_alloc] at sl2
 have B2 : Below w.heap.size w w2 := bcall (show Below w.heap.size w (w1.alloc (.cells #[.int .i64 f1, .int .i64 f2] 27)) from by go_grown) bel2 (by go_size)
 have s2 := B2.size
 clear X_c X_f X_l
 go_wp2_with fail
 refine (Of_ok S.data.toList _ cv w2 (by have h : S.data.toList.length = S.size := rfl; rw [h]; exact sl2) hn).mono ?_
 rintro e w3 ⟨rfl, hb⟩
 have B3 : Below w.heap.size w w3 := bcall B2 hb (by omega)
 have s3 := B3.size
 clear hb r2
 go_wp2_with fail
 go_ret
 exact ⟨_, rfl, by go_grown⟩
def Pl.exV : Pl.Ver := ⟨1, 0, 0, []⟩
def Pl.exU1 : Pl.Uni := [[⟨Pl.exV, []⟩]]
set_option maxRecDepth 100000 in
theorem Tryz.tEnt : ElemT Tryz.prog 77 86 6 64 := ⟨Tryz.underlying77, ⟨_, _, rfl, rfl, rfl, rfl, rfl⟩, by decide, by decide⟩
set_option maxRecDepth 100000 in
set_option maxHeartbeats 4000000 in
theorem make_ex (a b : Option Addr) (c d : Nat) (w : World) (h1 : UIn w Pl.exU1 a c) (h2 : Sl w b 1 d 1 (intVals [0])) (E : Env w) :
 Calls Tryz.prog 50 #[.agg #[.slice a 1 c], .slice b 1 d] w fun e w' => ∃ o m, e = .returned (.tuple #[.slice o 1 m, .agg #[.int .i64 0, .int .i64 0]]) ∧ Below w.heap.size w w' := by
 have CA := Lib.hid (fun (W : World) (g1 : UIn W Pl.exU1 a c) => show Calls Tryz.prog 38 #[.agg #[.slice a 1 c]] W (fun e w' => e = .returned (.agg #[.int .i64 0, .int .i64 0]) ∧ Below W.heap.size W w') from by
  have h := sUni_any Pl.exU1 a c W g1
  rw [show Pl.uniF Pl.exU1 = (0, 0) by decide +kernel] at h
  exact h)
 have CB := Lib.hid (fun (W : World) (g1 : UIn W Pl.exU1 a c) (g3 : Sl W b 1 d 1 (intVals [0])) => show Calls Tryz.prog 89 #[.agg #[.slice a 1 c], .slice b 1 d] W (fun e w' => e = .returned (.agg #[.int .i64 0, .int .i64 0]) ∧ Below W.heap.size W w') from by
  have h := sChos_any Pl.exU1 [0] a b c d W g1 g3
  rw [show Pl.chosF Pl.exU1 [0] = (0, 0) by decide +kernel] at h
  exact h)
 obtain ⟨b1, f1, rfl, hb1, hat1⟩ := Sl.cellsAt (l := [0]) h2 (by decide)
 have y0 := Lib.hid (show w.cell? ⟨b1, f1, none⟩ = some (.int .i64 0) from hat1 0 (by decide))
 obtain ⟨bu, fu, rfl, hbu, hatu⟩ := h1.at (by decide)
 obtain ⟨a5, c5, z0, R5⟩ := hatu 0 (by decide)
 obtain ⟨br, fr, rfl, hbr, hatr⟩ := R5.at (by decide)
 obtain ⟨a3, c3, a4, c4, r0, r1, r2, r3, r4, VI, -⟩ := hatr 0 (by decide)
 have Z0 := Lib.hid (show w.cell? ⟨bu, fu, none⟩ = some (.slice (some ⟨br, fr, none⟩) 1 c5) from z0)
 have R0 := Lib.hid (show w.cell? ⟨br, fr, none⟩ = some (.int .i64 1) from r0)
 have R1 := Lib.hid (show w.cell? ⟨br, fr + 1, none⟩ = some (.int .i64 0) from r1)
 have R2 := Lib.hid (show w.cell? ⟨br, fr + 2, none⟩ = some (.int .i64 0) from r2)
 have R3 := Lib.hid (show w.cell? ⟨br, fr + 3, none⟩ = some (.slice a3 0 c3) from r3)
 have VH := Lib.hid (show VIn w Pl.exV a3 c3 from VI)
 have H := Lib.hid h1
 have L := Lib.hid h2
 have HE := Lib.hid E
 clear h1 h2 E hat1 hatu hatr z0 R5 r0 r1 r2 r3 r4 VI
 go_enter Tryz.func50, Tryz.ntmps50
 have B0 : Below w.heap.size w w := Below.refl _ _
 go_wp2_with fail
 refine (CA.out _ (((H.out.below (Below.refl _ _ |>.alloc (Nat.le_refl _) _) (Nat.le_refl _)).below (Below.refl _ _ |>.alloc (Nat.le_refl _) _) (Nat.le_refl _)))).mono ?_
 rintro e w1 ⟨rfl, hb⟩
 have B1 : Below w.heap.size w w1 := bcall (by go_grown) hb (by go_size)
 have q1 : w.heap.size + 2 ≤ w1.heap.size := by have z := hb.size; (try simp only [World.size_alloc] at z); omega
 replace H := Lib.hid (((H.out.below (Below.refl _ _ |>.alloc (Nat.le_refl _) _) (Nat.le_refl _)).below (Below.refl _ _ |>.alloc (Nat.le_refl _) _) (Nat.le_refl _)).below hb (Nat.le_refl _))
 replace L := Lib.hid (((L.out.below (Below.refl _ _ |>.alloc (Nat.le_refl _) _) (Nat.le_refl _)).below (Below.refl _ _ |>.alloc (Nat.le_refl _) _) (Nat.le_refl _)).below hb (Nat.le_refl _))
 have X := (((Bk.new (r := w.heap.size) (cs := [.slice (some ⟨bu, fu, none⟩) 1 c]) _ 56 (by simp)).alloc _)).below hb (by go_size)
 have R := ((Bk.new (r := w.heap.size + 1) (cs := [.int .i64 0, .int .i64 0]) _ 27 (by simp))).below hb (by go_size)
 clear hb
 have s1 : w.heap.size ≤ w1.heap.size := B1.size
 obtain ⟨X_c, X_f, X_l⟩ := id X
 obtain ⟨R_c, R_f, R_l⟩ := id R
 go_wp2_with fail
 refine (CB.out _ ((H.out.below (Below.refl _ _ |>.alloc (Nat.le_refl _) _) (Nat.le_refl _))) ((L.out.below (Below.refl _ _ |>.alloc (Nat.le_refl _) _) (Nat.le_refl _)))).mono ?_
 rintro e w2 ⟨rfl, hb⟩
 have B2 : Below w.heap.size w w2 := bcall (by go_grown) hb (by go_size)
 have q2 : w1.heap.size + 1 ≤ w2.heap.size := by have z := hb.size; (try simp only [World.size_alloc] at z); omega
 replace H := Lib.hid ((H.out.below (Below.refl _ _ |>.alloc (Nat.le_refl _) _) (Nat.le_refl _)).below hb (Nat.le_refl _))
 replace L := Lib.hid ((L.out.below (Below.refl _ _ |>.alloc (Nat.le_refl _) _) (Nat.le_refl _)).below hb (Nat.le_refl _))
 replace X := ((X.alloc _)).below hb (by go_size)
 replace R := ((R.alloc _)).below hb (by go_size)
 clear hb
 have s2 : w.heap.size ≤ w2.heap.size := B2.size
 clear X_c X_f X_l R_c R_f R_l
 obtain ⟨X_c, X_f, X_l⟩ := id X
 obtain ⟨R_c, R_f, R_l⟩ := id R
 go_wp2_with fail
 clear X_c X_f X_l R_c R_f R_l
 go_loopw [8, 27] (fun v i wr => ∃ k : Nat, k ≤ 1 ∧ i = .int .i64 k ∧ (∃ o m, v = .slice o k m ∧ (k = 0 → o = none ∧ m = 0)) ∧ Bk wr w.heap.size [.slice (some ⟨bu, fu, none⟩) 1 c] ∧ Bk wr (w.heap.size + 1) [.int .i64 0, .int .i64 0] ∧ Below w.heap.size w wr) (fun _ i _ => 1 - (intOf i).toNat)
 case atStart => exact ⟨0, Nat.zero_le _, rfl, ⟨none, 0, rfl, fun _ => ⟨rfl, rfl⟩⟩, X.alloc _, R.alloc _, by go_grown⟩
 case round =>
  clear X R
  obtain ⟨k, hk, rfl, ⟨o, m, rfl, hz⟩, X, R, B9⟩ := hrel
  have s9 := B9.size
  obtain ⟨X_c, X_f, X_l⟩ := id X
  obtain ⟨R_c, R_f, R_l⟩ := id R
  by_cases h0 : k = 0
  · subst h0
    obtain ⟨rfl, rfl⟩ := hz rfl
    have y1 := (B9.cell (p := ⟨b1, f1, none⟩) hb1).trans y0.out
    have z1 := (B9.cell (p := ⟨bu, fu, none⟩) hbu).trans Z0.out
    have q0 := (B9.cell (p := ⟨br, fr, none⟩) hbr).trans R0.out
    have q1 := (B9.cell (p := ⟨br, fr + 1, none⟩) hbr).trans R1.out
    have q2 := (B9.cell (p := ⟨br, fr + 2, none⟩) hbr).trans R2.out
    have q3 := (B9.cell (p := ⟨br, fr + 3, none⟩) hbr).trans R3.out
    have hw1 : b1 < wr.heap.size := by omega
    have hw2 : bu < wr.heap.size := by omega
    have hw3 : br < wr.heap.size := by omega
    go_wp2_with fail
    refine (verCopy_any Pl.exV a3 c3 _ (VH.out.below B9 (Nat.le_refl _)) (by decide)).mono ?_
    rintro e w4 ⟨o4, c4', rfl, own4, hb⟩
    have B4 : Below w.heap.size w w4 := bcall B9 hb (by omega)
    have V4 : VIn w4 Pl.exV o4 c4' := VIn.own rfl own4 (fun s hs => by cases hs)
    have X4 := X.below hb X.lt
    have R4 := R.below hb R.lt
    have V4h := Lib.hid V4
    have s4 := B4.size
    clear hb own4 V4 X_c X_f X_l R_c R_f R_l y1 z1 q0 q1 q2 q3 hw1 hw2 hw3
    obtain ⟨X_c, X_f, X_l⟩ := id X4
    obtain ⟨R_c, R_f, R_l⟩ := id R4
    unfold verV
    rw [show Pl.exV.maj = 1 from rfl, show Pl.exV.min = 0 from rfl, show Pl.exV.pat = 0 from rfl, show Pl.exV.pre.length = 0 from rfl]
    go_wp2_with fail
    have VB := Bk.new (r := w4.heap.size) (cs := [.int .i64 1, .int .i64 0, .int .i64 0, .slice o4 0 c4']) w4 24 rfl
    have X5 := X4.alloc (.cells #[.int .i64 1, .int .i64 0, .int .i64 0, .slice o4 0 c4'] 24)
    have R5 := R4.alloc (.cells #[.int .i64 1, .int .i64 0, .int .i64 0, .slice o4 0 c4'] 24)
    have B5 : Below w.heap.size w (w4.alloc (.cells #[.int .i64 1, .int .i64 0, .int .i64 0, .slice o4 0 c4'] 24)) := by go_grown
    have V5 := Lib.hid (V4h.out.below (Below.refl _ _ |>.alloc (Nat.le_refl _) (.cells #[.int .i64 1, .int .i64 0, .int .i64 0, .slice o4 0 c4'] 24)) (Nat.le_refl _))
    clear X_c X_f X_l R_c R_f R_l
    generalize w4.alloc (.cells #[.int .i64 1, .int .i64 0, .int .i64 0, .slice o4 0 c4'] 24) = v5 at *
    obtain ⟨VB_c, VB_f, VB_l⟩ := id VB
    refine wp_region_ord [0, 1, 2, 3, 4, 5, 6, 7, 8] (by kernel_rfl) (by kernel_rfl) ?_
    have VD := VB.drew
    replace X5 := X5.drew
    replace R5 := R5.drew
    replace B5 := B5.drew
    replace V5 := Lib.hid (V5.out.below (Below.refl _ _).drew (Nat.le_refl _))
    clear VB VB_c VB_f VB_l
    generalize v5.drew = w5 at *
    obtain ⟨VB_c, VB_f, VB_l⟩ := id VD
    have s5 := B5.size
    repeat (refine wpI_rd rfl rfl ?_; go_big_quiet_step (fail); refine wpQuiet_nil ?_)
    try simp only [Act.put, List.setIfInBounds_toArray, List.set_cons_zero, List.set_cons_succ]
    refine wpI_call (f := 96) rfl rfl rfl (by simp [go_sem]; rfl) ?_
    refine (seal_any Pl.exV o4 c4' w5 V5.out (HE.out.below B5 (Nat.le_refl _)) (by decide +kernel)).mono ?_
    rintro e w6 ⟨D, rfl, hb⟩
    refine ⟨_, rfl, hb, ?_⟩
    have B6 : Below w.heap.size w w6 := bcall B5 hb (by omega)
    have X6 := X5.below hb X5.lt
    have R6 := R5.below hb R5.lt
    have s6 := B6.size
    clear hb VD VB_c VB_f VB_l
    try simp only [Act.put, List.setIfInBounds_toArray, List.set_cons_zero, List.set_cons_succ]
    repeat (refine wpI_rd rfl rfl ?_; go_big_quiet_step (fail); refine wpQuiet_nil ?_)
    try simp only [Act.put, List.setIfInBounds_toArray, List.set_cons_zero, List.set_cons_succ]
    refine wpI_add rfl rfl rfl (u := .slice (some ⟨w6.heap.size, 0, none⟩) 1 1) (w' := w6.alloc (.cells #[.int .i64 0, .int .i64 1, .int .i64 0, .int .i64 0, .slice o4 0 c4', .int .i64 D] 86)) (by simp [go_sem]) (Below.ext ((Below.refl _ _).alloc (Nat.le_refl _) _)) ?_
    try simp only [Act.put, List.setIfInBounds_toArray, List.set_cons_zero, List.set_cons_succ]
    refine wpI_ap rfl rfl rfl Tryz.tEnt (Below.refl (w6.heap.size + 1) _) rfl (World.ownsRow_nil _ _ _ _) (m := 1) (news := [.int .i64 0, .int .i64 1, .int .i64 0, .int .i64 0, .slice o4 0 c4', .int .i64 D]) (Src.ofSlice _ Tryz.tEnt.ht ⟨w6.heap.size, 0, none⟩ 1 1 _ rfl (fun j u hu => by rw [addr_add]; simp [hu]) (List.all_eq_true.1 rfl)) (by omega) (by simp) ?_
    intro v7 w7 own7 G7 h7
    obtain ⟨o7, c7, rfl⟩ := own_slice own7
    have G7' : Below w6.heap.size w6 w7 := bcall ((Below.refl _ _).alloc (Nat.le_refl _) _) G7 (by omega)
    have X7 := X6.below G7' X6.lt
    have R7 := R6.below G7' R6.lt
    have B7 : Below w.heap.size w w7 := bcall B6 G7' (by omega)
    try simp only [Act.put, List.setIfInBounds_toArray, List.set_cons_zero, List.set_cons_succ]
    repeat (refine wpI_rd rfl rfl ?_; go_big_quiet_step (fail); refine wpQuiet_nil ?_)
    try simp only [Act.put, List.setIfInBounds_toArray, List.set_cons_zero, List.set_cons_succ]
    refine wpI_nil ?_
    try simp only [Act.put, List.setIfInBounds_toArray, List.set_cons_zero, List.set_cons_succ]
    go_wp2_with fail
    go_roundw
    case rel => exact ⟨1, Nat.le_refl _, by go_num, ⟨o7, c7, rfl, fun h => by cases h⟩, X7, R7, B7⟩
    case measure => simp [intOf]
  · obtain rfl : k = 1 := by omega
    go_wp2_with fail
    have RN := (R.set (k := 0) (by simp) (.int .i64 0)).set (k := 1) (by simp) (.int .i64 0)
    obtain ⟨RN_c, RN_f, RN_l⟩ := RN
    refine bodyPost_ret (v := .tuple #[.slice o 1 m, .agg #[.int .i64 0, .int .i64 0]]) (by simp [results, Tryz.results50, go_sem, RN_c]) rfl ⟨o, m, rfl, by go_grown⟩
end Go.Proofs.YtolfgcoalihmgaaGreatDoor
