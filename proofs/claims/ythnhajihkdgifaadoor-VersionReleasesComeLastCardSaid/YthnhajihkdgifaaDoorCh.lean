/- Law: releases come last (walk). -/
import Derived.Test.YthnhajihkdgifaaDoorCb
namespace Go.Proofs.YthnhajihkdgifaaDoor
open Go.RowKit
set_option maxRecDepth 100000 in
set_option maxHeartbeats 4000000 in
theorem vrl_A (v : Pl.Ver) (ids : List ByteArray) (pa pi : Option Addr) (ca ci : Nat) (w : World) (E : Env w) (_ : VIn w v pa ca) (hi : ∀ x y z, VIn w ⟨x, y, z, ids⟩ pi ci) (f1 f2 : Int) (hf : f1 ≠ 0) (ea : Pl.vrF ⟨v.maj, v.min, v.pat, ids⟩ = (f1, f2)) :
    Calls Tryd.prog 8 #[verV v pa ca, .slice pi ids.length ci] w fun e w' => e = .returned (.bool true) ∧ Below w.heap.size w w' := by
  have HE := Lib.hid E
  have HI := Lib.hid (hi v.maj v.min v.pat)
  have HJ := Lib.hid (hi v.maj v.min (v.pat + 1))
  have hln := (hi 0 0 0).len
  have hln : (ids.length : Int) ≤ 9223372036854775807 := by have h : ids.length ≤ 9223372036854775807 := hln; omega
  have u1 := bneT hf
  have u2 := beqF hf
  clear hf
  have CA := Lib.hid (fun (W : World) (h : VIn W ⟨v.maj, v.min, v.pat, ids⟩ pi ci) => VersionFault_any _ pi ci W h)
  rw [ea] at CA
  simp only [fltV] at CA
  clear E hi ea
  go_enter Tryd.func8, Tryd.ntmps8
  have B0 : Below w.heap.size w w := Below.refl _ _
  go_wp2_with fail
  replace B0 := (B0.alloc B0.size (.cells #[.int .i64 v.maj, .int .i64 v.min, .int .i64 v.pat, .slice pa v.pre.length ca] 24))
  have XA : Blk ((w).alloc (.cells #[.int .i64 v.maj, .int .i64 v.min, .int .i64 v.pat, .slice pa v.pre.length ca] 24)) (w.heap.size) [.int .i64 v.maj, .int .i64 v.min, .int .i64 v.pat, .slice pa v.pre.length ca] := Blk.new (w) [.int .i64 v.maj, .int .i64 v.min, .int .i64 v.pat, .slice pa v.pre.length ca] 24 (g := w.heap.size) (by simp)
  refine (orders_any _ (HE.out.below B0 (Nat.le_refl _))).mono ?_
  rintro e w1 ⟨rfl, hb⟩
  have hk : Below ((w).alloc (.cells #[.int .i64 v.maj, .int .i64 v.min, .int .i64 v.pat, .slice pa v.pre.length ca] 24)).heap.size ((w).alloc (.cells #[.int .i64 v.maj, .int .i64 v.min, .int .i64 v.pat, .slice pa v.pre.length ca] 24)) w1 := hb
  have s1 : w.heap.size ≤ w1.heap.size := Nat.le_trans B0.size hk.size
  have q1 : w.heap.size + 1 ≤ w1.heap.size := by have z := hk.size; (try simp only [World.size_alloc] at z); omega
  have B1 : Below w.heap.size w w1 := bcall B0 hk B0.size
  replace XA := XA.below hk XA.lt
  clear B0 hk hb
  have XA_0 := XA.c 0 _ rfl
  have XA_1 := XA.c 1 _ rfl
  have XA_2 := XA.c 2 _ rfl
  have XA_3 := XA.c 3 _ rfl
  have XA_l := XA.lt
  have d1 : w.heap.size < w1.heap.size + 1 := by omega
  have e1 : w.heap.size ≠ w1.heap.size + 1 := by omega
  have d2 : w.heap.size < w1.heap.size + 1 + 1 := by omega
  have e2 : w.heap.size ≠ w1.heap.size + 1 + 1 := by omega
  have d3 : w.heap.size < w1.heap.size + 1 + 1 + 1 := by omega
  have e3 : w.heap.size ≠ w1.heap.size + 1 + 1 + 1 := by omega
  have d4 : w.heap.size < w1.heap.size + 1 + 1 + 1 + 1 := by omega
  have e4 : w.heap.size ≠ w1.heap.size + 1 + 1 + 1 + 1 := by omega
  have d5 : w.heap.size < w1.heap.size + 1 + 1 + 1 + 1 + 1 := by omega
  have e5 : w.heap.size ≠ w1.heap.size + 1 + 1 + 1 + 1 + 1 := by omega
  have d6 : w.heap.size < w1.heap.size + 1 + 1 + 1 + 1 + 1 + 1 := by omega
  have e6 : w.heap.size ≠ w1.heap.size + 1 + 1 + 1 + 1 + 1 + 1 := by omega
  go_wp2_with (go_at_call 24; refine (ver_at _ _ _ _).mono ?_; rintro e w' ⟨rfl, rfl⟩)
  replace B1 := (B1.alloc B1.size (.cells #[.int .i64 v.maj, .int .i64 v.min, .int .i64 v.pat, .slice none 0 0] 24))
  replace XA := (XA.alloc (.cells #[.int .i64 v.maj, .int .i64 v.min, .int .i64 v.pat, .slice none 0 0] 24))
  replace B1 := (B1.alloc B1.size (.cells #[.int .i64 v.maj, .int .i64 v.min, .int .i64 v.pat, .slice none 0 0] 24))
  replace XA := (XA.alloc (.cells #[.int .i64 v.maj, .int .i64 v.min, .int .i64 v.pat, .slice none 0 0] 24))
  have R : Blk (((w1).alloc (.cells #[.int .i64 v.maj, .int .i64 v.min, .int .i64 v.pat, .slice none 0 0] 24)).alloc (.cells #[.int .i64 v.maj, .int .i64 v.min, .int .i64 v.pat, .slice none 0 0] 24)) (w1.heap.size + 1) [.int .i64 v.maj, .int .i64 v.min, .int .i64 v.pat, .slice none 0 0] := Blk.new ((w1).alloc (.cells #[.int .i64 v.maj, .int .i64 v.min, .int .i64 v.pat, .slice none 0 0] 24)) [.int .i64 v.maj, .int .i64 v.min, .int .i64 v.pat, .slice none 0 0] 24 (g := w1.heap.size + 1) (by simp)
  replace B1 := (B1.alloc B1.size (.cells #[.int .i64 v.maj, .int .i64 v.min, .int .i64 v.pat, .slice none 0 0] 24))
  replace XA := (XA.alloc (.cells #[.int .i64 v.maj, .int .i64 v.min, .int .i64 v.pat, .slice none 0 0] 24))
  replace R := (R.alloc (.cells #[.int .i64 v.maj, .int .i64 v.min, .int .i64 v.pat, .slice none 0 0] 24))
  replace B1 := (B1.alloc B1.size (.cells #[.int .i64 v.maj, .int .i64 v.min, .int .i64 v.pat, .slice pi ids.length ci] 24))
  replace XA := (XA.alloc (.cells #[.int .i64 v.maj, .int .i64 v.min, .int .i64 v.pat, .slice pi ids.length ci] 24))
  replace R := (R.alloc (.cells #[.int .i64 v.maj, .int .i64 v.min, .int .i64 v.pat, .slice pi ids.length ci] 24))
  have P : Blk (((((w1).alloc (.cells #[.int .i64 v.maj, .int .i64 v.min, .int .i64 v.pat, .slice none 0 0] 24)).alloc (.cells #[.int .i64 v.maj, .int .i64 v.min, .int .i64 v.pat, .slice none 0 0] 24)).alloc (.cells #[.int .i64 v.maj, .int .i64 v.min, .int .i64 v.pat, .slice none 0 0] 24)).alloc (.cells #[.int .i64 v.maj, .int .i64 v.min, .int .i64 v.pat, .slice pi ids.length ci] 24)) (w1.heap.size + 1 + 1 + 1) [.int .i64 v.maj, .int .i64 v.min, .int .i64 v.pat, .slice pi ids.length ci] := Blk.new ((((w1).alloc (.cells #[.int .i64 v.maj, .int .i64 v.min, .int .i64 v.pat, .slice none 0 0] 24)).alloc (.cells #[.int .i64 v.maj, .int .i64 v.min, .int .i64 v.pat, .slice none 0 0] 24)).alloc (.cells #[.int .i64 v.maj, .int .i64 v.min, .int .i64 v.pat, .slice none 0 0] 24)) [.int .i64 v.maj, .int .i64 v.min, .int .i64 v.pat, .slice pi ids.length ci] 24 (g := w1.heap.size + 1 + 1 + 1) (by simp)
  replace B1 := (B1.alloc B1.size (.cells #[.int .i64 v.maj, .int .i64 v.min, .int .i64 v.pat, .slice none 0 0] 24))
  replace XA := (XA.alloc (.cells #[.int .i64 v.maj, .int .i64 v.min, .int .i64 v.pat, .slice none 0 0] 24))
  replace R := (R.alloc (.cells #[.int .i64 v.maj, .int .i64 v.min, .int .i64 v.pat, .slice none 0 0] 24))
  replace P := (P.alloc (.cells #[.int .i64 v.maj, .int .i64 v.min, .int .i64 v.pat, .slice none 0 0] 24))
  replace B1 := (B1.alloc B1.size (.cells #[.int .i64 v.maj, .int .i64 v.min, .int .i64 v.pat, .slice pi ids.length ci] 24))
  replace XA := (XA.alloc (.cells #[.int .i64 v.maj, .int .i64 v.min, .int .i64 v.pat, .slice pi ids.length ci] 24))
  replace R := (R.alloc (.cells #[.int .i64 v.maj, .int .i64 v.min, .int .i64 v.pat, .slice pi ids.length ci] 24))
  replace P := (P.alloc (.cells #[.int .i64 v.maj, .int .i64 v.min, .int .i64 v.pat, .slice pi ids.length ci] 24))
  have Q : Blk (((((((w1).alloc (.cells #[.int .i64 v.maj, .int .i64 v.min, .int .i64 v.pat, .slice none 0 0] 24)).alloc (.cells #[.int .i64 v.maj, .int .i64 v.min, .int .i64 v.pat, .slice none 0 0] 24)).alloc (.cells #[.int .i64 v.maj, .int .i64 v.min, .int .i64 v.pat, .slice none 0 0] 24)).alloc (.cells #[.int .i64 v.maj, .int .i64 v.min, .int .i64 v.pat, .slice pi ids.length ci] 24)).alloc (.cells #[.int .i64 v.maj, .int .i64 v.min, .int .i64 v.pat, .slice none 0 0] 24)).alloc (.cells #[.int .i64 v.maj, .int .i64 v.min, .int .i64 v.pat, .slice pi ids.length ci] 24)) (w1.heap.size + 1 + 1 + 1 + 1 + 1) [.int .i64 v.maj, .int .i64 v.min, .int .i64 v.pat, .slice pi ids.length ci] := Blk.new ((((((w1).alloc (.cells #[.int .i64 v.maj, .int .i64 v.min, .int .i64 v.pat, .slice none 0 0] 24)).alloc (.cells #[.int .i64 v.maj, .int .i64 v.min, .int .i64 v.pat, .slice none 0 0] 24)).alloc (.cells #[.int .i64 v.maj, .int .i64 v.min, .int .i64 v.pat, .slice none 0 0] 24)).alloc (.cells #[.int .i64 v.maj, .int .i64 v.min, .int .i64 v.pat, .slice pi ids.length ci] 24)).alloc (.cells #[.int .i64 v.maj, .int .i64 v.min, .int .i64 v.pat, .slice none 0 0] 24)) [.int .i64 v.maj, .int .i64 v.min, .int .i64 v.pat, .slice pi ids.length ci] 24 (g := w1.heap.size + 1 + 1 + 1 + 1 + 1) (by simp)
  refine (CA.out _ (HI.out.below B1 (Nat.le_refl _))).mono ?_
  rintro e w2 ⟨rfl, hb⟩
  have hk : Below (((((((w1).alloc (.cells #[.int .i64 v.maj, .int .i64 v.min, .int .i64 v.pat, .slice none 0 0] 24)).alloc (.cells #[.int .i64 v.maj, .int .i64 v.min, .int .i64 v.pat, .slice none 0 0] 24)).alloc (.cells #[.int .i64 v.maj, .int .i64 v.min, .int .i64 v.pat, .slice none 0 0] 24)).alloc (.cells #[.int .i64 v.maj, .int .i64 v.min, .int .i64 v.pat, .slice pi ids.length ci] 24)).alloc (.cells #[.int .i64 v.maj, .int .i64 v.min, .int .i64 v.pat, .slice none 0 0] 24)).alloc (.cells #[.int .i64 v.maj, .int .i64 v.min, .int .i64 v.pat, .slice pi ids.length ci] 24)).heap.size (((((((w1).alloc (.cells #[.int .i64 v.maj, .int .i64 v.min, .int .i64 v.pat, .slice none 0 0] 24)).alloc (.cells #[.int .i64 v.maj, .int .i64 v.min, .int .i64 v.pat, .slice none 0 0] 24)).alloc (.cells #[.int .i64 v.maj, .int .i64 v.min, .int .i64 v.pat, .slice none 0 0] 24)).alloc (.cells #[.int .i64 v.maj, .int .i64 v.min, .int .i64 v.pat, .slice pi ids.length ci] 24)).alloc (.cells #[.int .i64 v.maj, .int .i64 v.min, .int .i64 v.pat, .slice none 0 0] 24)).alloc (.cells #[.int .i64 v.maj, .int .i64 v.min, .int .i64 v.pat, .slice pi ids.length ci] 24)) w2 := hb
  have s2 : w.heap.size ≤ w2.heap.size := Nat.le_trans B1.size hk.size
  have q2 : w1.heap.size + 6 ≤ w2.heap.size := by have z := hk.size; (try simp only [World.size_alloc] at z); omega
  have B2 : Below w.heap.size w w2 := bcall B1 hk B1.size
  replace XA := XA.below hk XA.lt
  replace R := R.below hk R.lt
  replace P := P.below hk P.lt
  replace Q := Q.below hk Q.lt
  clear B1 hk hb
  clear XA_0 XA_1 XA_2 XA_3 XA_l
  have XA_0 := XA.c 0 _ rfl
  have XA_1 := XA.c 1 _ rfl
  have XA_2 := XA.c 2 _ rfl
  have XA_3 := XA.c 3 _ rfl
  have XA_l := XA.lt
  have R_0 := R.c 0 _ rfl
  have R_1 := R.c 1 _ rfl
  have R_2 := R.c 2 _ rfl
  have R_3 := R.c 3 _ rfl
  have R_l := R.lt
  have P_0 := P.c 0 _ rfl
  have P_1 := P.c 1 _ rfl
  have P_2 := P.c 2 _ rfl
  have P_3 := P.c 3 _ rfl
  have P_l := P.lt
  have Q_0 := Q.c 0 _ rfl
  have Q_f0 := Q.f 0 (by simp)
  have Q_1 := Q.c 1 _ rfl
  have Q_f1 := Q.f 1 (by simp)
  have Q_2 := Q.c 2 _ rfl
  have Q_f2 := Q.f 2 (by simp)
  have Q_3 := Q.c 3 _ rfl
  have Q_f3 := Q.f 3 (by simp)
  have Q_l := Q.lt
  go_wp2_with fail
  go_ret
  exact ⟨rfl, B2⟩
set_option maxRecDepth 100000 in
set_option maxHeartbeats 4000000 in
theorem vrl_E (v : Pl.Ver) (ids : List ByteArray) (pa pi : Option Addr) (ca ci : Nat) (w : World) (E : Env w) (_ : VIn w v pa ca) (hi : ∀ x y z, VIn w ⟨x, y, z, ids⟩ pi ci) (oka : Pl.Ver.Ok ⟨v.maj, v.min, v.pat, ids⟩) (h0 : ids.length = 0) :
    Calls Tryd.prog 8 #[verV v pa ca, .slice pi ids.length ci] w fun e w' => e = .returned (.bool true) ∧ Below w.heap.size w w' := by
  have HE := Lib.hid E
  have HI := Lib.hid (hi v.maj v.min v.pat)
  have HJ := Lib.hid (hi v.maj v.min (v.pat + 1))
  have hln := (hi 0 0 0).len
  have hln : (ids.length : Int) ≤ 9223372036854775807 := by have h : ids.length ≤ 9223372036854775807 := hln; omega
  have ea := Pl.vrF_ok oka
  have u3 : ((ids.length : Int) == 0) = true := beqT (by omega)
  have CA := Lib.hid (fun (W : World) (h : VIn W ⟨v.maj, v.min, v.pat, ids⟩ pi ci) => VersionFault_any _ pi ci W h)
  rw [ea] at CA
  simp only [fltV] at CA
  clear E hi ea h0
  go_enter Tryd.func8, Tryd.ntmps8
  have B0 : Below w.heap.size w w := Below.refl _ _
  go_wp2_with fail
  replace B0 := (B0.alloc B0.size (.cells #[.int .i64 v.maj, .int .i64 v.min, .int .i64 v.pat, .slice pa v.pre.length ca] 24))
  have XA : Blk ((w).alloc (.cells #[.int .i64 v.maj, .int .i64 v.min, .int .i64 v.pat, .slice pa v.pre.length ca] 24)) (w.heap.size) [.int .i64 v.maj, .int .i64 v.min, .int .i64 v.pat, .slice pa v.pre.length ca] := Blk.new (w) [.int .i64 v.maj, .int .i64 v.min, .int .i64 v.pat, .slice pa v.pre.length ca] 24 (g := w.heap.size) (by simp)
  refine (orders_any _ (HE.out.below B0 (Nat.le_refl _))).mono ?_
  rintro e w1 ⟨rfl, hb⟩
  have hk : Below ((w).alloc (.cells #[.int .i64 v.maj, .int .i64 v.min, .int .i64 v.pat, .slice pa v.pre.length ca] 24)).heap.size ((w).alloc (.cells #[.int .i64 v.maj, .int .i64 v.min, .int .i64 v.pat, .slice pa v.pre.length ca] 24)) w1 := hb
  have s1 : w.heap.size ≤ w1.heap.size := Nat.le_trans B0.size hk.size
  have q1 : w.heap.size + 1 ≤ w1.heap.size := by have z := hk.size; (try simp only [World.size_alloc] at z); omega
  have B1 : Below w.heap.size w w1 := bcall B0 hk B0.size
  replace XA := XA.below hk XA.lt
  clear B0 hk hb
  have XA_0 := XA.c 0 _ rfl
  have XA_1 := XA.c 1 _ rfl
  have XA_2 := XA.c 2 _ rfl
  have XA_3 := XA.c 3 _ rfl
  have XA_l := XA.lt
  have d1 : w.heap.size < w1.heap.size + 1 := by omega
  have e1 : w.heap.size ≠ w1.heap.size + 1 := by omega
  have d2 : w.heap.size < w1.heap.size + 1 + 1 := by omega
  have e2 : w.heap.size ≠ w1.heap.size + 1 + 1 := by omega
  have d3 : w.heap.size < w1.heap.size + 1 + 1 + 1 := by omega
  have e3 : w.heap.size ≠ w1.heap.size + 1 + 1 + 1 := by omega
  have d4 : w.heap.size < w1.heap.size + 1 + 1 + 1 + 1 := by omega
  have e4 : w.heap.size ≠ w1.heap.size + 1 + 1 + 1 + 1 := by omega
  have d5 : w.heap.size < w1.heap.size + 1 + 1 + 1 + 1 + 1 := by omega
  have e5 : w.heap.size ≠ w1.heap.size + 1 + 1 + 1 + 1 + 1 := by omega
  have d6 : w.heap.size < w1.heap.size + 1 + 1 + 1 + 1 + 1 + 1 := by omega
  have e6 : w.heap.size ≠ w1.heap.size + 1 + 1 + 1 + 1 + 1 + 1 := by omega
  go_wp2_with (go_at_call 24; refine (ver_at _ _ _ _).mono ?_; rintro e w' ⟨rfl, rfl⟩)
  replace B1 := (B1.alloc B1.size (.cells #[.int .i64 v.maj, .int .i64 v.min, .int .i64 v.pat, .slice none 0 0] 24))
  replace XA := (XA.alloc (.cells #[.int .i64 v.maj, .int .i64 v.min, .int .i64 v.pat, .slice none 0 0] 24))
  replace B1 := (B1.alloc B1.size (.cells #[.int .i64 v.maj, .int .i64 v.min, .int .i64 v.pat, .slice none 0 0] 24))
  replace XA := (XA.alloc (.cells #[.int .i64 v.maj, .int .i64 v.min, .int .i64 v.pat, .slice none 0 0] 24))
  have R : Blk (((w1).alloc (.cells #[.int .i64 v.maj, .int .i64 v.min, .int .i64 v.pat, .slice none 0 0] 24)).alloc (.cells #[.int .i64 v.maj, .int .i64 v.min, .int .i64 v.pat, .slice none 0 0] 24)) (w1.heap.size + 1) [.int .i64 v.maj, .int .i64 v.min, .int .i64 v.pat, .slice none 0 0] := Blk.new ((w1).alloc (.cells #[.int .i64 v.maj, .int .i64 v.min, .int .i64 v.pat, .slice none 0 0] 24)) [.int .i64 v.maj, .int .i64 v.min, .int .i64 v.pat, .slice none 0 0] 24 (g := w1.heap.size + 1) (by simp)
  replace B1 := (B1.alloc B1.size (.cells #[.int .i64 v.maj, .int .i64 v.min, .int .i64 v.pat, .slice none 0 0] 24))
  replace XA := (XA.alloc (.cells #[.int .i64 v.maj, .int .i64 v.min, .int .i64 v.pat, .slice none 0 0] 24))
  replace R := (R.alloc (.cells #[.int .i64 v.maj, .int .i64 v.min, .int .i64 v.pat, .slice none 0 0] 24))
  replace B1 := (B1.alloc B1.size (.cells #[.int .i64 v.maj, .int .i64 v.min, .int .i64 v.pat, .slice pi ids.length ci] 24))
  replace XA := (XA.alloc (.cells #[.int .i64 v.maj, .int .i64 v.min, .int .i64 v.pat, .slice pi ids.length ci] 24))
  replace R := (R.alloc (.cells #[.int .i64 v.maj, .int .i64 v.min, .int .i64 v.pat, .slice pi ids.length ci] 24))
  have P : Blk (((((w1).alloc (.cells #[.int .i64 v.maj, .int .i64 v.min, .int .i64 v.pat, .slice none 0 0] 24)).alloc (.cells #[.int .i64 v.maj, .int .i64 v.min, .int .i64 v.pat, .slice none 0 0] 24)).alloc (.cells #[.int .i64 v.maj, .int .i64 v.min, .int .i64 v.pat, .slice none 0 0] 24)).alloc (.cells #[.int .i64 v.maj, .int .i64 v.min, .int .i64 v.pat, .slice pi ids.length ci] 24)) (w1.heap.size + 1 + 1 + 1) [.int .i64 v.maj, .int .i64 v.min, .int .i64 v.pat, .slice pi ids.length ci] := Blk.new ((((w1).alloc (.cells #[.int .i64 v.maj, .int .i64 v.min, .int .i64 v.pat, .slice none 0 0] 24)).alloc (.cells #[.int .i64 v.maj, .int .i64 v.min, .int .i64 v.pat, .slice none 0 0] 24)).alloc (.cells #[.int .i64 v.maj, .int .i64 v.min, .int .i64 v.pat, .slice none 0 0] 24)) [.int .i64 v.maj, .int .i64 v.min, .int .i64 v.pat, .slice pi ids.length ci] 24 (g := w1.heap.size + 1 + 1 + 1) (by simp)
  replace B1 := (B1.alloc B1.size (.cells #[.int .i64 v.maj, .int .i64 v.min, .int .i64 v.pat, .slice none 0 0] 24))
  replace XA := (XA.alloc (.cells #[.int .i64 v.maj, .int .i64 v.min, .int .i64 v.pat, .slice none 0 0] 24))
  replace R := (R.alloc (.cells #[.int .i64 v.maj, .int .i64 v.min, .int .i64 v.pat, .slice none 0 0] 24))
  replace P := (P.alloc (.cells #[.int .i64 v.maj, .int .i64 v.min, .int .i64 v.pat, .slice none 0 0] 24))
  replace B1 := (B1.alloc B1.size (.cells #[.int .i64 v.maj, .int .i64 v.min, .int .i64 v.pat, .slice pi ids.length ci] 24))
  replace XA := (XA.alloc (.cells #[.int .i64 v.maj, .int .i64 v.min, .int .i64 v.pat, .slice pi ids.length ci] 24))
  replace R := (R.alloc (.cells #[.int .i64 v.maj, .int .i64 v.min, .int .i64 v.pat, .slice pi ids.length ci] 24))
  replace P := (P.alloc (.cells #[.int .i64 v.maj, .int .i64 v.min, .int .i64 v.pat, .slice pi ids.length ci] 24))
  have Q : Blk (((((((w1).alloc (.cells #[.int .i64 v.maj, .int .i64 v.min, .int .i64 v.pat, .slice none 0 0] 24)).alloc (.cells #[.int .i64 v.maj, .int .i64 v.min, .int .i64 v.pat, .slice none 0 0] 24)).alloc (.cells #[.int .i64 v.maj, .int .i64 v.min, .int .i64 v.pat, .slice none 0 0] 24)).alloc (.cells #[.int .i64 v.maj, .int .i64 v.min, .int .i64 v.pat, .slice pi ids.length ci] 24)).alloc (.cells #[.int .i64 v.maj, .int .i64 v.min, .int .i64 v.pat, .slice none 0 0] 24)).alloc (.cells #[.int .i64 v.maj, .int .i64 v.min, .int .i64 v.pat, .slice pi ids.length ci] 24)) (w1.heap.size + 1 + 1 + 1 + 1 + 1) [.int .i64 v.maj, .int .i64 v.min, .int .i64 v.pat, .slice pi ids.length ci] := Blk.new ((((((w1).alloc (.cells #[.int .i64 v.maj, .int .i64 v.min, .int .i64 v.pat, .slice none 0 0] 24)).alloc (.cells #[.int .i64 v.maj, .int .i64 v.min, .int .i64 v.pat, .slice none 0 0] 24)).alloc (.cells #[.int .i64 v.maj, .int .i64 v.min, .int .i64 v.pat, .slice none 0 0] 24)).alloc (.cells #[.int .i64 v.maj, .int .i64 v.min, .int .i64 v.pat, .slice pi ids.length ci] 24)).alloc (.cells #[.int .i64 v.maj, .int .i64 v.min, .int .i64 v.pat, .slice none 0 0] 24)) [.int .i64 v.maj, .int .i64 v.min, .int .i64 v.pat, .slice pi ids.length ci] 24 (g := w1.heap.size + 1 + 1 + 1 + 1 + 1) (by simp)
  refine (CA.out _ (HI.out.below B1 (Nat.le_refl _))).mono ?_
  rintro e w2 ⟨rfl, hb⟩
  have hk : Below (((((((w1).alloc (.cells #[.int .i64 v.maj, .int .i64 v.min, .int .i64 v.pat, .slice none 0 0] 24)).alloc (.cells #[.int .i64 v.maj, .int .i64 v.min, .int .i64 v.pat, .slice none 0 0] 24)).alloc (.cells #[.int .i64 v.maj, .int .i64 v.min, .int .i64 v.pat, .slice none 0 0] 24)).alloc (.cells #[.int .i64 v.maj, .int .i64 v.min, .int .i64 v.pat, .slice pi ids.length ci] 24)).alloc (.cells #[.int .i64 v.maj, .int .i64 v.min, .int .i64 v.pat, .slice none 0 0] 24)).alloc (.cells #[.int .i64 v.maj, .int .i64 v.min, .int .i64 v.pat, .slice pi ids.length ci] 24)).heap.size (((((((w1).alloc (.cells #[.int .i64 v.maj, .int .i64 v.min, .int .i64 v.pat, .slice none 0 0] 24)).alloc (.cells #[.int .i64 v.maj, .int .i64 v.min, .int .i64 v.pat, .slice none 0 0] 24)).alloc (.cells #[.int .i64 v.maj, .int .i64 v.min, .int .i64 v.pat, .slice none 0 0] 24)).alloc (.cells #[.int .i64 v.maj, .int .i64 v.min, .int .i64 v.pat, .slice pi ids.length ci] 24)).alloc (.cells #[.int .i64 v.maj, .int .i64 v.min, .int .i64 v.pat, .slice none 0 0] 24)).alloc (.cells #[.int .i64 v.maj, .int .i64 v.min, .int .i64 v.pat, .slice pi ids.length ci] 24)) w2 := hb
  have s2 : w.heap.size ≤ w2.heap.size := Nat.le_trans B1.size hk.size
  have q2 : w1.heap.size + 6 ≤ w2.heap.size := by have z := hk.size; (try simp only [World.size_alloc] at z); omega
  have B2 : Below w.heap.size w w2 := bcall B1 hk B1.size
  replace XA := XA.below hk XA.lt
  replace R := R.below hk R.lt
  replace P := P.below hk P.lt
  replace Q := Q.below hk Q.lt
  clear B1 hk hb
  clear XA_0 XA_1 XA_2 XA_3 XA_l
  have XA_0 := XA.c 0 _ rfl
  have XA_1 := XA.c 1 _ rfl
  have XA_2 := XA.c 2 _ rfl
  have XA_3 := XA.c 3 _ rfl
  have XA_l := XA.lt
  have R_0 := R.c 0 _ rfl
  have R_1 := R.c 1 _ rfl
  have R_2 := R.c 2 _ rfl
  have R_3 := R.c 3 _ rfl
  have R_l := R.lt
  have P_0 := P.c 0 _ rfl
  have P_1 := P.c 1 _ rfl
  have P_2 := P.c 2 _ rfl
  have P_3 := P.c 3 _ rfl
  have P_l := P.lt
  have Q_0 := Q.c 0 _ rfl
  have Q_f0 := Q.f 0 (by simp)
  have Q_1 := Q.c 1 _ rfl
  have Q_f1 := Q.f 1 (by simp)
  have Q_2 := Q.c 2 _ rfl
  have Q_f2 := Q.f 2 (by simp)
  have Q_3 := Q.c 3 _ rfl
  have Q_f3 := Q.f 3 (by simp)
  have Q_l := Q.lt
  go_wp2_with fail
  go_ret
  exact ⟨rfl, B2⟩
set_option maxRecDepth 100000 in
set_option maxHeartbeats 4000000 in
theorem vrl_M (v : Pl.Ver) (ids : List ByteArray) (pa pi : Option Addr) (ca ci : Nat) (w : World) (E : Env w) (_ : VIn w v pa ca) (hi : ∀ x y z, VIn w ⟨x, y, z, ids⟩ pi ci) (oka : Pl.Ver.Ok ⟨v.maj, v.min, v.pat, ids⟩) (h0 : ids.length ≠ 0) (hm : v.pat = 1000000000) :
    Calls Tryd.prog 8 #[verV v pa ca, .slice pi ids.length ci] w fun e w' => e = .returned (.bool true) ∧ Below w.heap.size w w' := by
  have HE := Lib.hid E
  have HI := Lib.hid (hi v.maj v.min v.pat)
  have HJ := Lib.hid (hi v.maj v.min (v.pat + 1))
  have hln := (hi 0 0 0).len
  have hln : (ids.length : Int) ≤ 9223372036854775807 := by have h : ids.length ≤ 9223372036854775807 := hln; omega
  have ea := Pl.vrF_ok oka
  have u3 : ((ids.length : Int) == 0) = false := beqF (by omega)
  have u4 : (v.pat == 1000000000) = true := beqT hm
  have CA := Lib.hid (fun (W : World) (h : VIn W ⟨v.maj, v.min, v.pat, ids⟩ pi ci) => VersionFault_any _ pi ci W h)
  rw [ea] at CA
  simp only [fltV] at CA
  clear E hi ea h0 hm
  go_enter Tryd.func8, Tryd.ntmps8
  have B0 : Below w.heap.size w w := Below.refl _ _
  go_wp2_with fail
  replace B0 := (B0.alloc B0.size (.cells #[.int .i64 v.maj, .int .i64 v.min, .int .i64 v.pat, .slice pa v.pre.length ca] 24))
  have XA : Blk ((w).alloc (.cells #[.int .i64 v.maj, .int .i64 v.min, .int .i64 v.pat, .slice pa v.pre.length ca] 24)) (w.heap.size) [.int .i64 v.maj, .int .i64 v.min, .int .i64 v.pat, .slice pa v.pre.length ca] := Blk.new (w) [.int .i64 v.maj, .int .i64 v.min, .int .i64 v.pat, .slice pa v.pre.length ca] 24 (g := w.heap.size) (by simp)
  refine (orders_any _ (HE.out.below B0 (Nat.le_refl _))).mono ?_
  rintro e w1 ⟨rfl, hb⟩
  have hk : Below ((w).alloc (.cells #[.int .i64 v.maj, .int .i64 v.min, .int .i64 v.pat, .slice pa v.pre.length ca] 24)).heap.size ((w).alloc (.cells #[.int .i64 v.maj, .int .i64 v.min, .int .i64 v.pat, .slice pa v.pre.length ca] 24)) w1 := hb
  have s1 : w.heap.size ≤ w1.heap.size := Nat.le_trans B0.size hk.size
  have q1 : w.heap.size + 1 ≤ w1.heap.size := by have z := hk.size; (try simp only [World.size_alloc] at z); omega
  have B1 : Below w.heap.size w w1 := bcall B0 hk B0.size
  replace XA := XA.below hk XA.lt
  clear B0 hk hb
  have XA_0 := XA.c 0 _ rfl
  have XA_1 := XA.c 1 _ rfl
  have XA_2 := XA.c 2 _ rfl
  have XA_3 := XA.c 3 _ rfl
  have XA_l := XA.lt
  have d1 : w.heap.size < w1.heap.size + 1 := by omega
  have e1 : w.heap.size ≠ w1.heap.size + 1 := by omega
  have d2 : w.heap.size < w1.heap.size + 1 + 1 := by omega
  have e2 : w.heap.size ≠ w1.heap.size + 1 + 1 := by omega
  have d3 : w.heap.size < w1.heap.size + 1 + 1 + 1 := by omega
  have e3 : w.heap.size ≠ w1.heap.size + 1 + 1 + 1 := by omega
  have d4 : w.heap.size < w1.heap.size + 1 + 1 + 1 + 1 := by omega
  have e4 : w.heap.size ≠ w1.heap.size + 1 + 1 + 1 + 1 := by omega
  have d5 : w.heap.size < w1.heap.size + 1 + 1 + 1 + 1 + 1 := by omega
  have e5 : w.heap.size ≠ w1.heap.size + 1 + 1 + 1 + 1 + 1 := by omega
  have d6 : w.heap.size < w1.heap.size + 1 + 1 + 1 + 1 + 1 + 1 := by omega
  have e6 : w.heap.size ≠ w1.heap.size + 1 + 1 + 1 + 1 + 1 + 1 := by omega
  go_wp2_with (go_at_call 24; refine (ver_at _ _ _ _).mono ?_; rintro e w' ⟨rfl, rfl⟩)
  replace B1 := (B1.alloc B1.size (.cells #[.int .i64 v.maj, .int .i64 v.min, .int .i64 v.pat, .slice none 0 0] 24))
  replace XA := (XA.alloc (.cells #[.int .i64 v.maj, .int .i64 v.min, .int .i64 v.pat, .slice none 0 0] 24))
  replace B1 := (B1.alloc B1.size (.cells #[.int .i64 v.maj, .int .i64 v.min, .int .i64 v.pat, .slice none 0 0] 24))
  replace XA := (XA.alloc (.cells #[.int .i64 v.maj, .int .i64 v.min, .int .i64 v.pat, .slice none 0 0] 24))
  have R : Blk (((w1).alloc (.cells #[.int .i64 v.maj, .int .i64 v.min, .int .i64 v.pat, .slice none 0 0] 24)).alloc (.cells #[.int .i64 v.maj, .int .i64 v.min, .int .i64 v.pat, .slice none 0 0] 24)) (w1.heap.size + 1) [.int .i64 v.maj, .int .i64 v.min, .int .i64 v.pat, .slice none 0 0] := Blk.new ((w1).alloc (.cells #[.int .i64 v.maj, .int .i64 v.min, .int .i64 v.pat, .slice none 0 0] 24)) [.int .i64 v.maj, .int .i64 v.min, .int .i64 v.pat, .slice none 0 0] 24 (g := w1.heap.size + 1) (by simp)
  replace B1 := (B1.alloc B1.size (.cells #[.int .i64 v.maj, .int .i64 v.min, .int .i64 v.pat, .slice none 0 0] 24))
  replace XA := (XA.alloc (.cells #[.int .i64 v.maj, .int .i64 v.min, .int .i64 v.pat, .slice none 0 0] 24))
  replace R := (R.alloc (.cells #[.int .i64 v.maj, .int .i64 v.min, .int .i64 v.pat, .slice none 0 0] 24))
  replace B1 := (B1.alloc B1.size (.cells #[.int .i64 v.maj, .int .i64 v.min, .int .i64 v.pat, .slice pi ids.length ci] 24))
  replace XA := (XA.alloc (.cells #[.int .i64 v.maj, .int .i64 v.min, .int .i64 v.pat, .slice pi ids.length ci] 24))
  replace R := (R.alloc (.cells #[.int .i64 v.maj, .int .i64 v.min, .int .i64 v.pat, .slice pi ids.length ci] 24))
  have P : Blk (((((w1).alloc (.cells #[.int .i64 v.maj, .int .i64 v.min, .int .i64 v.pat, .slice none 0 0] 24)).alloc (.cells #[.int .i64 v.maj, .int .i64 v.min, .int .i64 v.pat, .slice none 0 0] 24)).alloc (.cells #[.int .i64 v.maj, .int .i64 v.min, .int .i64 v.pat, .slice none 0 0] 24)).alloc (.cells #[.int .i64 v.maj, .int .i64 v.min, .int .i64 v.pat, .slice pi ids.length ci] 24)) (w1.heap.size + 1 + 1 + 1) [.int .i64 v.maj, .int .i64 v.min, .int .i64 v.pat, .slice pi ids.length ci] := Blk.new ((((w1).alloc (.cells #[.int .i64 v.maj, .int .i64 v.min, .int .i64 v.pat, .slice none 0 0] 24)).alloc (.cells #[.int .i64 v.maj, .int .i64 v.min, .int .i64 v.pat, .slice none 0 0] 24)).alloc (.cells #[.int .i64 v.maj, .int .i64 v.min, .int .i64 v.pat, .slice none 0 0] 24)) [.int .i64 v.maj, .int .i64 v.min, .int .i64 v.pat, .slice pi ids.length ci] 24 (g := w1.heap.size + 1 + 1 + 1) (by simp)
  replace B1 := (B1.alloc B1.size (.cells #[.int .i64 v.maj, .int .i64 v.min, .int .i64 v.pat, .slice none 0 0] 24))
  replace XA := (XA.alloc (.cells #[.int .i64 v.maj, .int .i64 v.min, .int .i64 v.pat, .slice none 0 0] 24))
  replace R := (R.alloc (.cells #[.int .i64 v.maj, .int .i64 v.min, .int .i64 v.pat, .slice none 0 0] 24))
  replace P := (P.alloc (.cells #[.int .i64 v.maj, .int .i64 v.min, .int .i64 v.pat, .slice none 0 0] 24))
  replace B1 := (B1.alloc B1.size (.cells #[.int .i64 v.maj, .int .i64 v.min, .int .i64 v.pat, .slice pi ids.length ci] 24))
  replace XA := (XA.alloc (.cells #[.int .i64 v.maj, .int .i64 v.min, .int .i64 v.pat, .slice pi ids.length ci] 24))
  replace R := (R.alloc (.cells #[.int .i64 v.maj, .int .i64 v.min, .int .i64 v.pat, .slice pi ids.length ci] 24))
  replace P := (P.alloc (.cells #[.int .i64 v.maj, .int .i64 v.min, .int .i64 v.pat, .slice pi ids.length ci] 24))
  have Q : Blk (((((((w1).alloc (.cells #[.int .i64 v.maj, .int .i64 v.min, .int .i64 v.pat, .slice none 0 0] 24)).alloc (.cells #[.int .i64 v.maj, .int .i64 v.min, .int .i64 v.pat, .slice none 0 0] 24)).alloc (.cells #[.int .i64 v.maj, .int .i64 v.min, .int .i64 v.pat, .slice none 0 0] 24)).alloc (.cells #[.int .i64 v.maj, .int .i64 v.min, .int .i64 v.pat, .slice pi ids.length ci] 24)).alloc (.cells #[.int .i64 v.maj, .int .i64 v.min, .int .i64 v.pat, .slice none 0 0] 24)).alloc (.cells #[.int .i64 v.maj, .int .i64 v.min, .int .i64 v.pat, .slice pi ids.length ci] 24)) (w1.heap.size + 1 + 1 + 1 + 1 + 1) [.int .i64 v.maj, .int .i64 v.min, .int .i64 v.pat, .slice pi ids.length ci] := Blk.new ((((((w1).alloc (.cells #[.int .i64 v.maj, .int .i64 v.min, .int .i64 v.pat, .slice none 0 0] 24)).alloc (.cells #[.int .i64 v.maj, .int .i64 v.min, .int .i64 v.pat, .slice none 0 0] 24)).alloc (.cells #[.int .i64 v.maj, .int .i64 v.min, .int .i64 v.pat, .slice none 0 0] 24)).alloc (.cells #[.int .i64 v.maj, .int .i64 v.min, .int .i64 v.pat, .slice pi ids.length ci] 24)).alloc (.cells #[.int .i64 v.maj, .int .i64 v.min, .int .i64 v.pat, .slice none 0 0] 24)) [.int .i64 v.maj, .int .i64 v.min, .int .i64 v.pat, .slice pi ids.length ci] 24 (g := w1.heap.size + 1 + 1 + 1 + 1 + 1) (by simp)
  refine (CA.out _ (HI.out.below B1 (Nat.le_refl _))).mono ?_
  rintro e w2 ⟨rfl, hb⟩
  have hk : Below (((((((w1).alloc (.cells #[.int .i64 v.maj, .int .i64 v.min, .int .i64 v.pat, .slice none 0 0] 24)).alloc (.cells #[.int .i64 v.maj, .int .i64 v.min, .int .i64 v.pat, .slice none 0 0] 24)).alloc (.cells #[.int .i64 v.maj, .int .i64 v.min, .int .i64 v.pat, .slice none 0 0] 24)).alloc (.cells #[.int .i64 v.maj, .int .i64 v.min, .int .i64 v.pat, .slice pi ids.length ci] 24)).alloc (.cells #[.int .i64 v.maj, .int .i64 v.min, .int .i64 v.pat, .slice none 0 0] 24)).alloc (.cells #[.int .i64 v.maj, .int .i64 v.min, .int .i64 v.pat, .slice pi ids.length ci] 24)).heap.size (((((((w1).alloc (.cells #[.int .i64 v.maj, .int .i64 v.min, .int .i64 v.pat, .slice none 0 0] 24)).alloc (.cells #[.int .i64 v.maj, .int .i64 v.min, .int .i64 v.pat, .slice none 0 0] 24)).alloc (.cells #[.int .i64 v.maj, .int .i64 v.min, .int .i64 v.pat, .slice none 0 0] 24)).alloc (.cells #[.int .i64 v.maj, .int .i64 v.min, .int .i64 v.pat, .slice pi ids.length ci] 24)).alloc (.cells #[.int .i64 v.maj, .int .i64 v.min, .int .i64 v.pat, .slice none 0 0] 24)).alloc (.cells #[.int .i64 v.maj, .int .i64 v.min, .int .i64 v.pat, .slice pi ids.length ci] 24)) w2 := hb
  have s2 : w.heap.size ≤ w2.heap.size := Nat.le_trans B1.size hk.size
  have q2 : w1.heap.size + 6 ≤ w2.heap.size := by have z := hk.size; (try simp only [World.size_alloc] at z); omega
  have B2 : Below w.heap.size w w2 := bcall B1 hk B1.size
  replace XA := XA.below hk XA.lt
  replace R := R.below hk R.lt
  replace P := P.below hk P.lt
  replace Q := Q.below hk Q.lt
  clear B1 hk hb
  clear XA_0 XA_1 XA_2 XA_3 XA_l
  have XA_0 := XA.c 0 _ rfl
  have XA_1 := XA.c 1 _ rfl
  have XA_2 := XA.c 2 _ rfl
  have XA_3 := XA.c 3 _ rfl
  have XA_l := XA.lt
  have R_0 := R.c 0 _ rfl
  have R_1 := R.c 1 _ rfl
  have R_2 := R.c 2 _ rfl
  have R_3 := R.c 3 _ rfl
  have R_l := R.lt
  have P_0 := P.c 0 _ rfl
  have P_1 := P.c 1 _ rfl
  have P_2 := P.c 2 _ rfl
  have P_3 := P.c 3 _ rfl
  have P_l := P.lt
  have Q_0 := Q.c 0 _ rfl
  have Q_f0 := Q.f 0 (by simp)
  have Q_1 := Q.c 1 _ rfl
  have Q_f1 := Q.f 1 (by simp)
  have Q_2 := Q.c 2 _ rfl
  have Q_f2 := Q.f 2 (by simp)
  have Q_3 := Q.c 3 _ rfl
  have Q_f3 := Q.f 3 (by simp)
  have Q_l := Q.lt
  go_wp2_with fail
  go_ret
  exact ⟨rfl, B2⟩
set_option maxRecDepth 100000 in
set_option maxHeartbeats 4000000 in
theorem vrl_G (v : Pl.Ver) (ids : List ByteArray) (pa pi : Option Addr) (ca ci : Nat) (w : World) (E : Env w) (_ : VIn w v pa ca) (hi : ∀ x y z, VIn w ⟨x, y, z, ids⟩ pi ci) (oka : Pl.Ver.Ok ⟨v.maj, v.min, v.pat, ids⟩) (h0 : ids.length ≠ 0) (hm : v.pat ≠ 1000000000) (okr : Pl.Ver.Ok ⟨v.maj, v.min, v.pat, []⟩) (okb : Pl.Ver.Ok ⟨v.maj, v.min, v.pat + 1, ids⟩) (c1 : Pl.verCmp ⟨v.maj, v.min, v.pat, ids⟩ ⟨v.maj, v.min, v.pat, []⟩ = -1) (c2 : Pl.verCmp ⟨v.maj, v.min, v.pat, []⟩ ⟨v.maj, v.min, v.pat + 1, ids⟩ = -1) (c3 : Pl.verCmp ⟨v.maj, v.min, v.pat, ids⟩ ⟨v.maj, v.min, v.pat + 1, ids⟩ = -1) :
    Calls Tryd.prog 8 #[verV v pa ca, .slice pi ids.length ci] w fun e w' => e = .returned (.bool true) ∧ Below w.heap.size w w' := by
  have HE := Lib.hid E
  have HI := Lib.hid (hi v.maj v.min v.pat)
  have HJ := Lib.hid (hi v.maj v.min (v.pat + 1))
  have hln := (hi 0 0 0).len
  have hln : (ids.length : Int) ≤ 9223372036854775807 := by have h : ids.length ≤ 9223372036854775807 := hln; omega
  have ea := Pl.vrF_ok oka
  have u3 : ((ids.length : Int) == 0) = false := beqF (by omega)
  have u4 : (v.pat == 1000000000) = false := beqF hm
  have CA := Lib.hid (fun (W : World) (h : VIn W ⟨v.maj, v.min, v.pat, ids⟩ pi ci) => VersionFault_any _ pi ci W h)
  rw [ea] at CA
  simp only [fltV] at CA
  have Z : ∀ (W : World) (x y z : Int), VIn W ⟨x, y, z, []⟩ none 0 := fun W x y z => ⟨⟨by simp [strVals], Nat.le_refl _, Nat.zero_le _, .inl rfl⟩, fun s hs => by cases hs⟩
  have K1 := Lib.hid (fun (W : World) (h : VIn W ⟨v.maj, v.min, v.pat, ids⟩ pi ci) => lcompare_any ⟨v.maj, v.min, v.pat, ids⟩ ⟨v.maj, v.min, v.pat, []⟩ pi none ci 0 W h (Z W _ _ _) oka okr)
  rw [c1] at K1
  have K2 := Lib.hid (fun (W : World) (h : VIn W ⟨v.maj, v.min, v.pat + 1, ids⟩ pi ci) => lcompare_any ⟨v.maj, v.min, v.pat, []⟩ ⟨v.maj, v.min, v.pat + 1, ids⟩ none pi 0 ci W (Z W _ _ _) h okr okb)
  rw [c2] at K2
  have K3 := Lib.hid (fun (W : World) (h : VIn W ⟨v.maj, v.min, v.pat, ids⟩ pi ci) (h2 : VIn W ⟨v.maj, v.min, v.pat + 1, ids⟩ pi ci) => lcompare_any ⟨v.maj, v.min, v.pat, ids⟩ ⟨v.maj, v.min, v.pat + 1, ids⟩ pi pi ci ci W h h2 oka okb)
  rw [c3] at K3
  clear Z c1 c2 c3
  have p1 : v.pat ≤ 1000000000 := (Pl.inB_true.1 oka.m3).2
  have p0 : 0 ≤ v.pat := (Pl.inB_true.1 oka.m3).1
  have p2 : -9223372036854775808 ≤ v.pat + 1 := by omega
  have p3 : v.pat + 1 ≤ 9223372036854775807 := by omega
  clear E hi ea h0 hm oka okr okb
  go_enter Tryd.func8, Tryd.ntmps8
  have B0 : Below w.heap.size w w := Below.refl _ _
  go_wp2_with fail
  replace B0 := (B0.alloc B0.size (.cells #[.int .i64 v.maj, .int .i64 v.min, .int .i64 v.pat, .slice pa v.pre.length ca] 24))
  have XA : Blk ((w).alloc (.cells #[.int .i64 v.maj, .int .i64 v.min, .int .i64 v.pat, .slice pa v.pre.length ca] 24)) (w.heap.size) [.int .i64 v.maj, .int .i64 v.min, .int .i64 v.pat, .slice pa v.pre.length ca] := Blk.new (w) [.int .i64 v.maj, .int .i64 v.min, .int .i64 v.pat, .slice pa v.pre.length ca] 24 (g := w.heap.size) (by simp)
  refine (orders_any _ (HE.out.below B0 (Nat.le_refl _))).mono ?_
  rintro e w1 ⟨rfl, hb⟩
  have hk : Below ((w).alloc (.cells #[.int .i64 v.maj, .int .i64 v.min, .int .i64 v.pat, .slice pa v.pre.length ca] 24)).heap.size ((w).alloc (.cells #[.int .i64 v.maj, .int .i64 v.min, .int .i64 v.pat, .slice pa v.pre.length ca] 24)) w1 := hb
  have s1 : w.heap.size ≤ w1.heap.size := Nat.le_trans B0.size hk.size
  have q1 : w.heap.size + 1 ≤ w1.heap.size := by have z := hk.size; (try simp only [World.size_alloc] at z); omega
  have B1 : Below w.heap.size w w1 := bcall B0 hk B0.size
  replace XA := XA.below hk XA.lt
  clear B0 hk hb
  have XA_0 := XA.c 0 _ rfl
  have XA_1 := XA.c 1 _ rfl
  have XA_2 := XA.c 2 _ rfl
  have XA_3 := XA.c 3 _ rfl
  have XA_l := XA.lt
  have d1 : w.heap.size < w1.heap.size + 1 := by omega
  have e1 : w.heap.size ≠ w1.heap.size + 1 := by omega
  have d2 : w.heap.size < w1.heap.size + 1 + 1 := by omega
  have e2 : w.heap.size ≠ w1.heap.size + 1 + 1 := by omega
  have d3 : w.heap.size < w1.heap.size + 1 + 1 + 1 := by omega
  have e3 : w.heap.size ≠ w1.heap.size + 1 + 1 + 1 := by omega
  have d4 : w.heap.size < w1.heap.size + 1 + 1 + 1 + 1 := by omega
  have e4 : w.heap.size ≠ w1.heap.size + 1 + 1 + 1 + 1 := by omega
  have d5 : w.heap.size < w1.heap.size + 1 + 1 + 1 + 1 + 1 := by omega
  have e5 : w.heap.size ≠ w1.heap.size + 1 + 1 + 1 + 1 + 1 := by omega
  have d6 : w.heap.size < w1.heap.size + 1 + 1 + 1 + 1 + 1 + 1 := by omega
  have e6 : w.heap.size ≠ w1.heap.size + 1 + 1 + 1 + 1 + 1 + 1 := by omega
  go_wp2_with (go_at_call 24; refine (ver_at _ _ _ _).mono ?_; rintro e w' ⟨rfl, rfl⟩)
  replace B1 := (B1.alloc B1.size (.cells #[.int .i64 v.maj, .int .i64 v.min, .int .i64 v.pat, .slice none 0 0] 24))
  replace XA := (XA.alloc (.cells #[.int .i64 v.maj, .int .i64 v.min, .int .i64 v.pat, .slice none 0 0] 24))
  replace B1 := (B1.alloc B1.size (.cells #[.int .i64 v.maj, .int .i64 v.min, .int .i64 v.pat, .slice none 0 0] 24))
  replace XA := (XA.alloc (.cells #[.int .i64 v.maj, .int .i64 v.min, .int .i64 v.pat, .slice none 0 0] 24))
  have R : Blk (((w1).alloc (.cells #[.int .i64 v.maj, .int .i64 v.min, .int .i64 v.pat, .slice none 0 0] 24)).alloc (.cells #[.int .i64 v.maj, .int .i64 v.min, .int .i64 v.pat, .slice none 0 0] 24)) (w1.heap.size + 1) [.int .i64 v.maj, .int .i64 v.min, .int .i64 v.pat, .slice none 0 0] := Blk.new ((w1).alloc (.cells #[.int .i64 v.maj, .int .i64 v.min, .int .i64 v.pat, .slice none 0 0] 24)) [.int .i64 v.maj, .int .i64 v.min, .int .i64 v.pat, .slice none 0 0] 24 (g := w1.heap.size + 1) (by simp)
  replace B1 := (B1.alloc B1.size (.cells #[.int .i64 v.maj, .int .i64 v.min, .int .i64 v.pat, .slice none 0 0] 24))
  replace XA := (XA.alloc (.cells #[.int .i64 v.maj, .int .i64 v.min, .int .i64 v.pat, .slice none 0 0] 24))
  replace R := (R.alloc (.cells #[.int .i64 v.maj, .int .i64 v.min, .int .i64 v.pat, .slice none 0 0] 24))
  replace B1 := (B1.alloc B1.size (.cells #[.int .i64 v.maj, .int .i64 v.min, .int .i64 v.pat, .slice pi ids.length ci] 24))
  replace XA := (XA.alloc (.cells #[.int .i64 v.maj, .int .i64 v.min, .int .i64 v.pat, .slice pi ids.length ci] 24))
  replace R := (R.alloc (.cells #[.int .i64 v.maj, .int .i64 v.min, .int .i64 v.pat, .slice pi ids.length ci] 24))
  have P : Blk (((((w1).alloc (.cells #[.int .i64 v.maj, .int .i64 v.min, .int .i64 v.pat, .slice none 0 0] 24)).alloc (.cells #[.int .i64 v.maj, .int .i64 v.min, .int .i64 v.pat, .slice none 0 0] 24)).alloc (.cells #[.int .i64 v.maj, .int .i64 v.min, .int .i64 v.pat, .slice none 0 0] 24)).alloc (.cells #[.int .i64 v.maj, .int .i64 v.min, .int .i64 v.pat, .slice pi ids.length ci] 24)) (w1.heap.size + 1 + 1 + 1) [.int .i64 v.maj, .int .i64 v.min, .int .i64 v.pat, .slice pi ids.length ci] := Blk.new ((((w1).alloc (.cells #[.int .i64 v.maj, .int .i64 v.min, .int .i64 v.pat, .slice none 0 0] 24)).alloc (.cells #[.int .i64 v.maj, .int .i64 v.min, .int .i64 v.pat, .slice none 0 0] 24)).alloc (.cells #[.int .i64 v.maj, .int .i64 v.min, .int .i64 v.pat, .slice none 0 0] 24)) [.int .i64 v.maj, .int .i64 v.min, .int .i64 v.pat, .slice pi ids.length ci] 24 (g := w1.heap.size + 1 + 1 + 1) (by simp)
  replace B1 := (B1.alloc B1.size (.cells #[.int .i64 v.maj, .int .i64 v.min, .int .i64 v.pat, .slice none 0 0] 24))
  replace XA := (XA.alloc (.cells #[.int .i64 v.maj, .int .i64 v.min, .int .i64 v.pat, .slice none 0 0] 24))
  replace R := (R.alloc (.cells #[.int .i64 v.maj, .int .i64 v.min, .int .i64 v.pat, .slice none 0 0] 24))
  replace P := (P.alloc (.cells #[.int .i64 v.maj, .int .i64 v.min, .int .i64 v.pat, .slice none 0 0] 24))
  replace B1 := (B1.alloc B1.size (.cells #[.int .i64 v.maj, .int .i64 v.min, .int .i64 v.pat, .slice pi ids.length ci] 24))
  replace XA := (XA.alloc (.cells #[.int .i64 v.maj, .int .i64 v.min, .int .i64 v.pat, .slice pi ids.length ci] 24))
  replace R := (R.alloc (.cells #[.int .i64 v.maj, .int .i64 v.min, .int .i64 v.pat, .slice pi ids.length ci] 24))
  replace P := (P.alloc (.cells #[.int .i64 v.maj, .int .i64 v.min, .int .i64 v.pat, .slice pi ids.length ci] 24))
  have Q : Blk (((((((w1).alloc (.cells #[.int .i64 v.maj, .int .i64 v.min, .int .i64 v.pat, .slice none 0 0] 24)).alloc (.cells #[.int .i64 v.maj, .int .i64 v.min, .int .i64 v.pat, .slice none 0 0] 24)).alloc (.cells #[.int .i64 v.maj, .int .i64 v.min, .int .i64 v.pat, .slice none 0 0] 24)).alloc (.cells #[.int .i64 v.maj, .int .i64 v.min, .int .i64 v.pat, .slice pi ids.length ci] 24)).alloc (.cells #[.int .i64 v.maj, .int .i64 v.min, .int .i64 v.pat, .slice none 0 0] 24)).alloc (.cells #[.int .i64 v.maj, .int .i64 v.min, .int .i64 v.pat, .slice pi ids.length ci] 24)) (w1.heap.size + 1 + 1 + 1 + 1 + 1) [.int .i64 v.maj, .int .i64 v.min, .int .i64 v.pat, .slice pi ids.length ci] := Blk.new ((((((w1).alloc (.cells #[.int .i64 v.maj, .int .i64 v.min, .int .i64 v.pat, .slice none 0 0] 24)).alloc (.cells #[.int .i64 v.maj, .int .i64 v.min, .int .i64 v.pat, .slice none 0 0] 24)).alloc (.cells #[.int .i64 v.maj, .int .i64 v.min, .int .i64 v.pat, .slice none 0 0] 24)).alloc (.cells #[.int .i64 v.maj, .int .i64 v.min, .int .i64 v.pat, .slice pi ids.length ci] 24)).alloc (.cells #[.int .i64 v.maj, .int .i64 v.min, .int .i64 v.pat, .slice none 0 0] 24)) [.int .i64 v.maj, .int .i64 v.min, .int .i64 v.pat, .slice pi ids.length ci] 24 (g := w1.heap.size + 1 + 1 + 1 + 1 + 1) (by simp)
  refine (CA.out _ (HI.out.below B1 (Nat.le_refl _))).mono ?_
  rintro e w2 ⟨rfl, hb⟩
  have hk : Below (((((((w1).alloc (.cells #[.int .i64 v.maj, .int .i64 v.min, .int .i64 v.pat, .slice none 0 0] 24)).alloc (.cells #[.int .i64 v.maj, .int .i64 v.min, .int .i64 v.pat, .slice none 0 0] 24)).alloc (.cells #[.int .i64 v.maj, .int .i64 v.min, .int .i64 v.pat, .slice none 0 0] 24)).alloc (.cells #[.int .i64 v.maj, .int .i64 v.min, .int .i64 v.pat, .slice pi ids.length ci] 24)).alloc (.cells #[.int .i64 v.maj, .int .i64 v.min, .int .i64 v.pat, .slice none 0 0] 24)).alloc (.cells #[.int .i64 v.maj, .int .i64 v.min, .int .i64 v.pat, .slice pi ids.length ci] 24)).heap.size (((((((w1).alloc (.cells #[.int .i64 v.maj, .int .i64 v.min, .int .i64 v.pat, .slice none 0 0] 24)).alloc (.cells #[.int .i64 v.maj, .int .i64 v.min, .int .i64 v.pat, .slice none 0 0] 24)).alloc (.cells #[.int .i64 v.maj, .int .i64 v.min, .int .i64 v.pat, .slice none 0 0] 24)).alloc (.cells #[.int .i64 v.maj, .int .i64 v.min, .int .i64 v.pat, .slice pi ids.length ci] 24)).alloc (.cells #[.int .i64 v.maj, .int .i64 v.min, .int .i64 v.pat, .slice none 0 0] 24)).alloc (.cells #[.int .i64 v.maj, .int .i64 v.min, .int .i64 v.pat, .slice pi ids.length ci] 24)) w2 := hb
  have s2 : w.heap.size ≤ w2.heap.size := Nat.le_trans B1.size hk.size
  have q2 : w1.heap.size + 6 ≤ w2.heap.size := by have z := hk.size; (try simp only [World.size_alloc] at z); omega
  have B2 : Below w.heap.size w w2 := bcall B1 hk B1.size
  replace XA := XA.below hk XA.lt
  replace R := R.below hk R.lt
  replace P := P.below hk P.lt
  replace Q := Q.below hk Q.lt
  clear B1 hk hb
  clear XA_0 XA_1 XA_2 XA_3 XA_l
  have XA_0 := XA.c 0 _ rfl
  have XA_1 := XA.c 1 _ rfl
  have XA_2 := XA.c 2 _ rfl
  have XA_3 := XA.c 3 _ rfl
  have XA_l := XA.lt
  have R_0 := R.c 0 _ rfl
  have R_1 := R.c 1 _ rfl
  have R_2 := R.c 2 _ rfl
  have R_3 := R.c 3 _ rfl
  have R_l := R.lt
  have P_0 := P.c 0 _ rfl
  have P_1 := P.c 1 _ rfl
  have P_2 := P.c 2 _ rfl
  have P_3 := P.c 3 _ rfl
  have P_l := P.lt
  have Q_0 := Q.c 0 _ rfl
  have Q_f0 := Q.f 0 (by simp)
  have Q_1 := Q.c 1 _ rfl
  have Q_f1 := Q.f 1 (by simp)
  have Q_2 := Q.c 2 _ rfl
  have Q_f2 := Q.f 2 (by simp)
  have Q_3 := Q.c 3 _ rfl
  have Q_f3 := Q.f 3 (by simp)
  have Q_l := Q.lt
  go_wp2_with fail
  replace B2 := (B2.setCell (p := ⟨w1.heap.size + 1 + 1 + 1 + 1 + 1, 2, none⟩) (by dsimp only; omega) (.int .i64 (v.pat + 1)))
  replace XA := (XA.far (a := ⟨w1.heap.size + 1 + 1 + 1 + 1 + 1, 2, none⟩) (by dsimp only; omega) (.int .i64 (v.pat + 1)))
  replace R := (R.far (a := ⟨w1.heap.size + 1 + 1 + 1 + 1 + 1, 2, none⟩) (by dsimp only; omega) (.int .i64 (v.pat + 1)))
  replace P := (P.far (a := ⟨w1.heap.size + 1 + 1 + 1 + 1 + 1, 2, none⟩) (by dsimp only; omega) (.int .i64 (v.pat + 1)))
  replace Q := (Q.set (k := 2) (by simp) (.int .i64 (v.pat + 1)))
  refine (K1.out _ (HI.out.below B2 (Nat.le_refl _))).mono ?_
  rintro e w3 ⟨rfl, hb⟩
  have hk : Below ((w2).setCell ⟨w1.heap.size + 1 + 1 + 1 + 1 + 1, 2, none⟩ (.int .i64 (v.pat + 1))).heap.size ((w2).setCell ⟨w1.heap.size + 1 + 1 + 1 + 1 + 1, 2, none⟩ (.int .i64 (v.pat + 1))) w3 := hb
  have s3 : w.heap.size ≤ w3.heap.size := Nat.le_trans B2.size hk.size
  have q3 : w2.heap.size + 0 ≤ w3.heap.size := by have z := hk.size; (try simp only [World.size_setCell] at z); omega
  have B3 : Below w.heap.size w w3 := bcall B2 hk B2.size
  replace XA := XA.below hk XA.lt
  replace R := R.below hk R.lt
  replace P := P.below hk P.lt
  replace Q := Q.below hk Q.lt
  clear B2 hk hb
  clear XA_0 XA_1 XA_2 XA_3 XA_l R_0 R_1 R_2 R_3 R_l P_0 P_1 P_2 P_3 P_l Q_0 Q_f0 Q_1 Q_f1 Q_2 Q_f2 Q_3 Q_f3 Q_l
  have XA_0 := XA.c 0 _ rfl
  have XA_1 := XA.c 1 _ rfl
  have XA_2 := XA.c 2 _ rfl
  have XA_3 := XA.c 3 _ rfl
  have XA_l := XA.lt
  have R_0 := R.c 0 _ rfl
  have R_1 := R.c 1 _ rfl
  have R_2 := R.c 2 _ rfl
  have R_3 := R.c 3 _ rfl
  have R_l := R.lt
  have P_0 := P.c 0 _ rfl
  have P_1 := P.c 1 _ rfl
  have P_2 := P.c 2 _ rfl
  have P_3 := P.c 3 _ rfl
  have P_l := P.lt
  have Q_0 := Q.c 0 _ rfl
  have Q_f0 := Q.f 0 (by simp)
  have Q_1 := Q.c 1 _ rfl
  have Q_f1 := Q.f 1 (by simp)
  have Q_2 := Q.c 2 _ rfl
  have Q_f2 := Q.f 2 (by simp)
  have Q_3 := Q.c 3 _ rfl
  have Q_f3 := Q.f 3 (by simp)
  have Q_l := Q.lt
  go_wp2_with fail
  refine (K2.out _ (HJ.out.below B3 (Nat.le_refl _))).mono ?_
  rintro e w4 ⟨rfl, hb⟩
  have hk : Below (w3).heap.size (w3) w4 := hb
  have s4 : w.heap.size ≤ w4.heap.size := Nat.le_trans B3.size hk.size
  have q4 : w3.heap.size + 0 ≤ w4.heap.size := by have z := hk.size; (try simp only [World.size_alloc, World.size_setCell] at z); omega
  have B4 : Below w.heap.size w w4 := bcall B3 hk B3.size
  replace XA := XA.below hk XA.lt
  replace R := R.below hk R.lt
  replace P := P.below hk P.lt
  replace Q := Q.below hk Q.lt
  clear B3 hk hb
  clear XA_0 XA_1 XA_2 XA_3 XA_l R_0 R_1 R_2 R_3 R_l P_0 P_1 P_2 P_3 P_l Q_0 Q_f0 Q_1 Q_f1 Q_2 Q_f2 Q_3 Q_f3 Q_l
  have XA_0 := XA.c 0 _ rfl
  have XA_1 := XA.c 1 _ rfl
  have XA_2 := XA.c 2 _ rfl
  have XA_3 := XA.c 3 _ rfl
  have XA_l := XA.lt
  have R_0 := R.c 0 _ rfl
  have R_1 := R.c 1 _ rfl
  have R_2 := R.c 2 _ rfl
  have R_3 := R.c 3 _ rfl
  have R_l := R.lt
  have P_0 := P.c 0 _ rfl
  have P_1 := P.c 1 _ rfl
  have P_2 := P.c 2 _ rfl
  have P_3 := P.c 3 _ rfl
  have P_l := P.lt
  have Q_0 := Q.c 0 _ rfl
  have Q_f0 := Q.f 0 (by simp)
  have Q_1 := Q.c 1 _ rfl
  have Q_f1 := Q.f 1 (by simp)
  have Q_2 := Q.c 2 _ rfl
  have Q_f2 := Q.f 2 (by simp)
  have Q_3 := Q.c 3 _ rfl
  have Q_f3 := Q.f 3 (by simp)
  have Q_l := Q.lt
  go_wp2_with fail
  refine (K3.out _ (HI.out.below B4 (Nat.le_refl _)) (HJ.out.below B4 (Nat.le_refl _))).mono ?_
  rintro e w5 ⟨rfl, hb⟩
  have hk : Below (w4).heap.size (w4) w5 := hb
  have s5 : w.heap.size ≤ w5.heap.size := Nat.le_trans B4.size hk.size
  have q5 : w4.heap.size + 0 ≤ w5.heap.size := by have z := hk.size; (try simp only [World.size_alloc, World.size_setCell] at z); omega
  have B5 : Below w.heap.size w w5 := bcall B4 hk B4.size
  replace XA := XA.below hk XA.lt
  replace R := R.below hk R.lt
  replace P := P.below hk P.lt
  replace Q := Q.below hk Q.lt
  clear B4 hk hb
  clear XA_0 XA_1 XA_2 XA_3 XA_l R_0 R_1 R_2 R_3 R_l P_0 P_1 P_2 P_3 P_l Q_0 Q_f0 Q_1 Q_f1 Q_2 Q_f2 Q_3 Q_f3 Q_l
  have XA_0 := XA.c 0 _ rfl
  have XA_1 := XA.c 1 _ rfl
  have XA_2 := XA.c 2 _ rfl
  have XA_3 := XA.c 3 _ rfl
  have XA_l := XA.lt
  have R_0 := R.c 0 _ rfl
  have R_1 := R.c 1 _ rfl
  have R_2 := R.c 2 _ rfl
  have R_3 := R.c 3 _ rfl
  have R_l := R.lt
  have P_0 := P.c 0 _ rfl
  have P_1 := P.c 1 _ rfl
  have P_2 := P.c 2 _ rfl
  have P_3 := P.c 3 _ rfl
  have P_l := P.lt
  have Q_0 := Q.c 0 _ rfl
  have Q_f0 := Q.f 0 (by simp)
  have Q_1 := Q.c 1 _ rfl
  have Q_f1 := Q.f 1 (by simp)
  have Q_2 := Q.c 2 _ rfl
  have Q_f2 := Q.f 2 (by simp)
  have Q_3 := Q.c 3 _ rfl
  have Q_f3 := Q.f 3 (by simp)
  have Q_l := Q.lt
  go_wp2_with fail
  go_ret
  exact ⟨rfl, B5⟩
theorem vrl_any (v : Pl.Ver) (ids : List ByteArray) (pa pi : Option Addr) (ca ci : Nat) (w : World) (E : Env w) (ha : VIn w v pa ca) (hi : ∀ x y z, VIn w ⟨x, y, z, ids⟩ pi ci) :
    Calls Tryd.prog 8 #[verV v pa ca, .slice pi ids.length ci] w fun e w' => e = .returned (.bool true) ∧ Below w.heap.size w w' := by
  rcases Pl.vrF_cases ⟨v.maj, v.min, v.pat, ids⟩ with ⟨-, oka⟩ | fa
  · by_cases h0 : ids.length = 0
    · exact vrl_E v ids pa pi ca ci w E ha hi oka h0
    · by_cases hm : v.pat = 1000000000
      · exact vrl_M v ids pa pi ca ci w E ha hi oka h0 hm
      · have hp := Pl.inB_true.1 oka.m3
        have hp2 : v.pat ≤ 1000000000 := hp.2
        have hp1 : 0 ≤ v.pat := hp.1
        obtain ⟨x, r, rfl⟩ : ∃ x r, ids = x :: r := by cases ids with | nil => exact absurd rfl h0 | cons x r => exact ⟨x, r, rfl⟩
        refine vrl_G v (x :: r) pa pi ca ci w E ha hi oka h0 hm ⟨oka.m1, oka.m2, oka.m3, Nat.zero_le _, fun s hs => by cases hs⟩ ⟨oka.m1, oka.m2, Pl.inB_true.2 ⟨by show 0 ≤ v.pat + 1; omega, by show v.pat + 1 ≤ 1000000000; omega⟩, oka.n, oka.i⟩ ?_ ?_ ?_
        · rw [Pl.verCmp_eq]; simp [Pl.sgn_self, show Pl.sgn 0 1 = -1 by decide]
        · rw [Pl.verCmp_eq]; simp [Pl.sgn_self, Pl.sgn_lt (show v.pat < v.pat + 1 by omega)]
        · rw [Pl.verCmp_eq]; simp [Pl.sgn_self, Pl.sgn_lt (show v.pat < v.pat + 1 by omega)]
  · exact vrl_A v ids pa pi ca ci w E ha hi _ _ fa rfl
end Go.Proofs.YthnhajihkdgifaaDoor
