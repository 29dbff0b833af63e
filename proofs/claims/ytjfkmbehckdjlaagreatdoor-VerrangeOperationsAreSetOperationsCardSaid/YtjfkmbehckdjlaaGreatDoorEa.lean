/- Contracts of the reference: one interval. -/
import Derived.Test.YtjfkmbehckdjlaaGreatDoorDe
namespace Go.Proofs.YtjfkmbehckdjlaaGreatDoor
open Go.RowKit

set_option maxHeartbeats 2000000 in
theorem within_a (lo hi v : Pl.Ver) (a b p : Option Addr) (c d q : Nat) (w : World) (h1 : VIn w lo a c) (h2 : VIn w hi b d) (h3 : VIn w v p q) (o1 : lo.Ok) (_ : hi.Ok) (o3 : v.Ok) (k : Int) (e1 : Pl.verCmp lo v = k) (hk : ¬ k ≤ 0) :
    Calls Tryz.prog 49 #[ivV ⟨lo, hi, true⟩ a b c d, verV v p q] w fun e w' => e = .returned (.bool (Pl.inI ⟨lo, hi, true⟩ v)) ∧ Below w.heap.size w w' := by
  have H := Lib.hid h1
  have K := Lib.hid h2
  have V := Lib.hid h3
  have C1 := Lib.hid (fun (W : World) (g1 : VIn W lo a c) (g2 : VIn W v p q) => VersionOrder_any lo v a p c q W (VOk.of g1 o1) (VOk.of g2 o3))
  rw [e1] at C1
  have E : Hid (false = Pl.inI ⟨lo, hi, true⟩ v) := Lib.hid (Eq.symm (by unfold Pl.inI; rw [e1, decF hk]; rfl))
  have t1 := decF hk
  clear h1 h2 h3 o1 o3 e1 hk
  go_enter Tryz.func49, Tryz.ntmps49
  have B0 : Below w.heap.size w w := Below.refl _ _
  go_wp2_with fail
  refine (C1.out _ (H.out.below (by go_grown) (Nat.le_refl _)) (V.out.below (by go_grown) (Nat.le_refl _))).mono ?_
  rintro e w1 ⟨rfl, hb⟩
  have B1 : Below w.heap.size w w1 := bcall (by go_grown) hb (by go_size)
  have q1 : w.heap.size + 2 ≤ w1.heap.size := by have z := hb.size; (try simp only [World.size_alloc] at z); omega
  replace H := Lib.hid (((H.out.below (Below.refl _ _ |>.alloc (Nat.le_refl _) _) (Nat.le_refl _)).below (Below.refl _ _ |>.alloc (Nat.le_refl _) _) (Nat.le_refl _)).below hb (Nat.le_refl _))
  replace K := Lib.hid (((K.out.below (Below.refl _ _ |>.alloc (Nat.le_refl _) _) (Nat.le_refl _)).below (Below.refl _ _ |>.alloc (Nat.le_refl _) _) (Nat.le_refl _)).below hb (Nat.le_refl _))
  replace V := Lib.hid (((V.out.below (Below.refl _ _ |>.alloc (Nat.le_refl _) _) (Nat.le_refl _)).below (Below.refl _ _ |>.alloc (Nat.le_refl _) _) (Nat.le_refl _)).below hb (Nat.le_refl _))
  have X := (((Bk.new (r := w.heap.size) (cs := [.int .i64 lo.maj, .int .i64 lo.min, .int .i64 lo.pat, .slice a lo.pre.length c, .int .i64 hi.maj, .int .i64 hi.min, .int .i64 hi.pat, .slice b hi.pre.length d, .bool true]) _ 58 (by simp)).alloc _)).below hb (by go_size)
  have Y := ((Bk.new (r := w.heap.size + 1) (cs := [.int .i64 v.maj, .int .i64 v.min, .int .i64 v.pat, .slice p v.pre.length q]) _ 27 (by simp))).below hb (by go_size)
  clear hb
  have s1 : w.heap.size ≤ w1.heap.size := B1.size
  obtain ⟨X_c, X_f, X_l⟩ := id X
  obtain ⟨Y_c, Y_f, Y_l⟩ := id Y
  go_wp2_with fail
  go_ret
  exact ⟨ret_bool (by rw [← E.out]), by go_grown⟩
set_option maxHeartbeats 2000000 in
theorem within_b (lo hi v : Pl.Ver) (a b p : Option Addr) (c d q : Nat) (w : World) (h1 : VIn w lo a c) (h2 : VIn w hi b d) (h3 : VIn w v p q) (o1 : lo.Ok) (_ : hi.Ok) (o3 : v.Ok) (k : Int) (e1 : Pl.verCmp lo v = k) (hk : ¬ k ≤ 0) :
    Calls Tryz.prog 49 #[ivV ⟨lo, hi, false⟩ a b c d, verV v p q] w fun e w' => e = .returned (.bool (Pl.inI ⟨lo, hi, false⟩ v)) ∧ Below w.heap.size w w' := by
  have H := Lib.hid h1
  have K := Lib.hid h2
  have V := Lib.hid h3
  have C1 := Lib.hid (fun (W : World) (g1 : VIn W lo a c) (g2 : VIn W v p q) => VersionOrder_any lo v a p c q W (VOk.of g1 o1) (VOk.of g2 o3))
  rw [e1] at C1
  have E : Hid (false = Pl.inI ⟨lo, hi, false⟩ v) := Lib.hid (Eq.symm (by unfold Pl.inI; rw [e1, decF hk]; rfl))
  have t1 := decF hk
  clear h1 h2 h3 o1 o3 e1 hk
  go_enter Tryz.func49, Tryz.ntmps49
  have B0 : Below w.heap.size w w := Below.refl _ _
  go_wp2_with fail
  refine (C1.out _ (H.out.below (by go_grown) (Nat.le_refl _)) (V.out.below (by go_grown) (Nat.le_refl _))).mono ?_
  rintro e w1 ⟨rfl, hb⟩
  have B1 : Below w.heap.size w w1 := bcall (by go_grown) hb (by go_size)
  have q1 : w.heap.size + 2 ≤ w1.heap.size := by have z := hb.size; (try simp only [World.size_alloc] at z); omega
  replace H := Lib.hid (((H.out.below (Below.refl _ _ |>.alloc (Nat.le_refl _) _) (Nat.le_refl _)).below (Below.refl _ _ |>.alloc (Nat.le_refl _) _) (Nat.le_refl _)).below hb (Nat.le_refl _))
  replace K := Lib.hid (((K.out.below (Below.refl _ _ |>.alloc (Nat.le_refl _) _) (Nat.le_refl _)).below (Below.refl _ _ |>.alloc (Nat.le_refl _) _) (Nat.le_refl _)).below hb (Nat.le_refl _))
  replace V := Lib.hid (((V.out.below (Below.refl _ _ |>.alloc (Nat.le_refl _) _) (Nat.le_refl _)).below (Below.refl _ _ |>.alloc (Nat.le_refl _) _) (Nat.le_refl _)).below hb (Nat.le_refl _))
  have X := (((Bk.new (r := w.heap.size) (cs := [.int .i64 lo.maj, .int .i64 lo.min, .int .i64 lo.pat, .slice a lo.pre.length c, .int .i64 hi.maj, .int .i64 hi.min, .int .i64 hi.pat, .slice b hi.pre.length d, .bool false]) _ 58 (by simp)).alloc _)).below hb (by go_size)
  have Y := ((Bk.new (r := w.heap.size + 1) (cs := [.int .i64 v.maj, .int .i64 v.min, .int .i64 v.pat, .slice p v.pre.length q]) _ 27 (by simp))).below hb (by go_size)
  clear hb
  have s1 : w.heap.size ≤ w1.heap.size := B1.size
  obtain ⟨X_c, X_f, X_l⟩ := id X
  obtain ⟨Y_c, Y_f, Y_l⟩ := id Y
  go_wp2_with fail
  go_ret
  exact ⟨ret_bool (by rw [← E.out]), by go_grown⟩
set_option maxHeartbeats 2000000 in
theorem within_c (lo hi v : Pl.Ver) (a b p : Option Addr) (c d q : Nat) (w : World) (h1 : VIn w lo a c) (h2 : VIn w hi b d) (h3 : VIn w v p q) (o1 : lo.Ok) (_ : hi.Ok) (o3 : v.Ok) (k : Int) (e1 : Pl.verCmp lo v = k) (hk : k ≤ 0) :
    Calls Tryz.prog 49 #[ivV ⟨lo, hi, true⟩ a b c d, verV v p q] w fun e w' => e = .returned (.bool (Pl.inI ⟨lo, hi, true⟩ v)) ∧ Below w.heap.size w w' := by
  have H := Lib.hid h1
  have K := Lib.hid h2
  have V := Lib.hid h3
  have C1 := Lib.hid (fun (W : World) (g1 : VIn W lo a c) (g2 : VIn W v p q) => VersionOrder_any lo v a p c q W (VOk.of g1 o1) (VOk.of g2 o3))
  rw [e1] at C1
  have E : Hid (true = Pl.inI ⟨lo, hi, true⟩ v) := Lib.hid (Eq.symm (by unfold Pl.inI; rw [e1, decT hk]; rfl))
  have t1 := decT hk
  clear h1 h2 h3 o1 o3 e1 hk
  go_enter Tryz.func49, Tryz.ntmps49
  have B0 : Below w.heap.size w w := Below.refl _ _
  go_wp2_with fail
  refine (C1.out _ (H.out.below (by go_grown) (Nat.le_refl _)) (V.out.below (by go_grown) (Nat.le_refl _))).mono ?_
  rintro e w1 ⟨rfl, hb⟩
  have B1 : Below w.heap.size w w1 := bcall (by go_grown) hb (by go_size)
  have q1 : w.heap.size + 2 ≤ w1.heap.size := by have z := hb.size; (try simp only [World.size_alloc] at z); omega
  replace H := Lib.hid (((H.out.below (Below.refl _ _ |>.alloc (Nat.le_refl _) _) (Nat.le_refl _)).below (Below.refl _ _ |>.alloc (Nat.le_refl _) _) (Nat.le_refl _)).below hb (Nat.le_refl _))
  replace K := Lib.hid (((K.out.below (Below.refl _ _ |>.alloc (Nat.le_refl _) _) (Nat.le_refl _)).below (Below.refl _ _ |>.alloc (Nat.le_refl _) _) (Nat.le_refl _)).below hb (Nat.le_refl _))
  replace V := Lib.hid (((V.out.below (Below.refl _ _ |>.alloc (Nat.le_refl _) _) (Nat.le_refl _)).below (Below.refl _ _ |>.alloc (Nat.le_refl _) _) (Nat.le_refl _)).below hb (Nat.le_refl _))
  have X := (((Bk.new (r := w.heap.size) (cs := [.int .i64 lo.maj, .int .i64 lo.min, .int .i64 lo.pat, .slice a lo.pre.length c, .int .i64 hi.maj, .int .i64 hi.min, .int .i64 hi.pat, .slice b hi.pre.length d, .bool true]) _ 58 (by simp)).alloc _)).below hb (by go_size)
  have Y := ((Bk.new (r := w.heap.size + 1) (cs := [.int .i64 v.maj, .int .i64 v.min, .int .i64 v.pat, .slice p v.pre.length q]) _ 27 (by simp))).below hb (by go_size)
  clear hb
  have s1 : w.heap.size ≤ w1.heap.size := B1.size
  obtain ⟨X_c, X_f, X_l⟩ := id X
  obtain ⟨Y_c, Y_f, Y_l⟩ := id Y
  go_wp2_with fail
  go_ret
  exact ⟨ret_bool (by rw [← E.out]), by go_grown⟩
set_option maxHeartbeats 2000000 in
theorem within_d (lo hi v : Pl.Ver) (a b p : Option Addr) (c d q : Nat) (w : World) (h1 : VIn w lo a c) (h2 : VIn w hi b d) (h3 : VIn w v p q) (o1 : lo.Ok) (o2 : hi.Ok) (o3 : v.Ok) (k : Int) (e1 : Pl.verCmp lo v = k) (hk : k ≤ 0) (m : Int) (e2 : Pl.verCmp v hi = m) :
    Calls Tryz.prog 49 #[ivV ⟨lo, hi, false⟩ a b c d, verV v p q] w fun e w' => e = .returned (.bool (Pl.inI ⟨lo, hi, false⟩ v)) ∧ Below w.heap.size w w' := by
  have H := Lib.hid h1
  have K := Lib.hid h2
  have V := Lib.hid h3
  have C1 := Lib.hid (fun (W : World) (g1 : VIn W lo a c) (g2 : VIn W v p q) => VersionOrder_any lo v a p c q W (VOk.of g1 o1) (VOk.of g2 o3))
  rw [e1] at C1
  have E : Hid (decide (m < 0) = Pl.inI ⟨lo, hi, false⟩ v) := Lib.hid (Eq.symm (by unfold Pl.inI; rw [e1, e2, decT hk]; rfl))
  have t1 := decT hk
  have C2 := Lib.hid (fun (W : World) (g1 : VIn W v p q) (g2 : VIn W hi b d) => VersionOrder_any v hi p b q d W (VOk.of g1 o3) (VOk.of g2 o2))
  rw [e2] at C2
  clear e2
  clear h1 h2 h3 o1 o2 o3 e1 hk
  go_enter Tryz.func49, Tryz.ntmps49
  have B0 : Below w.heap.size w w := Below.refl _ _
  go_wp2_with fail
  refine (C1.out _ (H.out.below (by go_grown) (Nat.le_refl _)) (V.out.below (by go_grown) (Nat.le_refl _))).mono ?_
  rintro e w1 ⟨rfl, hb⟩
  have B1 : Below w.heap.size w w1 := bcall (by go_grown) hb (by go_size)
  have q1 : w.heap.size + 2 ≤ w1.heap.size := by have z := hb.size; (try simp only [World.size_alloc] at z); omega
  replace H := Lib.hid (((H.out.below (Below.refl _ _ |>.alloc (Nat.le_refl _) _) (Nat.le_refl _)).below (Below.refl _ _ |>.alloc (Nat.le_refl _) _) (Nat.le_refl _)).below hb (Nat.le_refl _))
  replace K := Lib.hid (((K.out.below (Below.refl _ _ |>.alloc (Nat.le_refl _) _) (Nat.le_refl _)).below (Below.refl _ _ |>.alloc (Nat.le_refl _) _) (Nat.le_refl _)).below hb (Nat.le_refl _))
  replace V := Lib.hid (((V.out.below (Below.refl _ _ |>.alloc (Nat.le_refl _) _) (Nat.le_refl _)).below (Below.refl _ _ |>.alloc (Nat.le_refl _) _) (Nat.le_refl _)).below hb (Nat.le_refl _))
  have X := (((Bk.new (r := w.heap.size) (cs := [.int .i64 lo.maj, .int .i64 lo.min, .int .i64 lo.pat, .slice a lo.pre.length c, .int .i64 hi.maj, .int .i64 hi.min, .int .i64 hi.pat, .slice b hi.pre.length d, .bool false]) _ 58 (by simp)).alloc _)).below hb (by go_size)
  have Y := ((Bk.new (r := w.heap.size + 1) (cs := [.int .i64 v.maj, .int .i64 v.min, .int .i64 v.pat, .slice p v.pre.length q]) _ 27 (by simp))).below hb (by go_size)
  clear hb
  have s1 : w.heap.size ≤ w1.heap.size := B1.size
  obtain ⟨X_c, X_f, X_l⟩ := id X
  obtain ⟨Y_c, Y_f, Y_l⟩ := id Y
  go_wp2_with fail
  refine (C2.out _ V.out K.out).mono ?_
  rintro e w2 ⟨rfl, hb⟩
  have B2 : Below w.heap.size w w2 := bcall (by go_grown) hb (by go_size)
  have q2 : w1.heap.size + 0 ≤ w2.heap.size := by have z := hb.size; (try simp only [World.size_alloc, World.size_setCell, World.size_drew] at z); omega
  replace H := Lib.hid (H.out.below hb (Nat.le_refl _))
  replace K := Lib.hid (K.out.below hb (Nat.le_refl _))
  replace V := Lib.hid (V.out.below hb (Nat.le_refl _))
  replace X := (X).below hb (by go_size)
  replace Y := (Y).below hb (by go_size)
  clear hb
  have s2 : w.heap.size ≤ w2.heap.size := B2.size
  clear X_c X_f X_l Y_c Y_f Y_l
  obtain ⟨X_c, X_f, X_l⟩ := id X
  obtain ⟨Y_c, Y_f, Y_l⟩ := id Y
  go_wp2_with fail
  go_ret
  exact ⟨ret_bool (by rw [← E.out]), by go_grown⟩
theorem within_any (x : Pl.Ivl) (v : Pl.Ver) (a b p : Option Addr) (c d q : Nat) (w : World) (h1 : VIn w x.lo a c) (h2 : VIn w x.hi b d) (h3 : VIn w v p q) (ox : x.Ok) (ov : v.Ok) :
    Calls Tryz.prog 49 #[ivV x a b c d, verV v p q] w fun e w' => e = .returned (.bool (Pl.inI x v)) ∧ Below w.heap.size w w' := by
  have o1 := ox.lo
  have o2 := ox.hi
  obtain ⟨lo, hi, un⟩ := x
  by_cases hk : Pl.verCmp lo v ≤ 0
  · cases un with
    | true => exact within_c lo hi v a b p c d q w h1 h2 h3 o1 o2 ov _ rfl hk
    | false => exact within_d lo hi v a b p c d q w h1 h2 h3 o1 o2 ov _ rfl hk _ rfl
  · cases un with
    | true => exact within_a lo hi v a b p c d q w h1 h2 h3 o1 o2 ov _ rfl hk
    | false => exact within_b lo hi v a b p c d q w h1 h2 h3 o1 o2 ov _ rfl hk
end Go.Proofs.YtjfkmbehckdjlaaGreatDoor
