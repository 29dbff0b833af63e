/- Law: versions are totally ordered (walk). -/
import Derived.Test.YthnhajihkdgifaaDoorCb
namespace Go.Proofs.YthnhajihkdgifaaDoor
open Go.RowKit
set_option maxRecDepth 100000 in
set_option maxHeartbeats 4000000 in
theorem vot_A (a b c : Pl.Ver) (pa pb pc : Option Addr) (ca cb cc : Nat) (w : World) (E : Env w) (ha : VIn w a pa ca) (hb : VIn w b pb cb) (hc : VIn w c pc cc) (f1 f2 : Int) (hf : f1 ≠ 0) (ea : Pl.vrF a = (f1, f2)) :
    Calls Tryd.prog 6 #[verV a pa ca, verV b pb cb, verV c pc cc] w fun e w' => e = .returned (.bool true) ∧ Below w.heap.size w w' := by
  have HE := Lib.hid E
  have HA := Lib.hid ha
  have HB := Lib.hid hb
  have HC := Lib.hid hc
  have Fa := Lib.hid (fun (W : World) (h : VIn W a pa ca) => VersionFault_any a pa ca W h)
  rw [ea] at Fa
  simp only [fltV] at Fa
  have u1 := bneT hf
  have u2 := beqF hf
  clear hf
  clear E ha hb hc ea
  go_enter Tryd.func6, Tryd.ntmps6
  have B0 : Below w.heap.size w w := Below.refl _ _
  go_wp2_with fail
  replace B0 := (B0.alloc B0.size (.cells #[.int .i64 a.maj, .int .i64 a.min, .int .i64 a.pat, .slice pa a.pre.length ca] 24))
  have XA : Blk ((w).alloc (.cells #[.int .i64 a.maj, .int .i64 a.min, .int .i64 a.pat, .slice pa a.pre.length ca] 24)) (w.heap.size) [.int .i64 a.maj, .int .i64 a.min, .int .i64 a.pat, .slice pa a.pre.length ca] := Blk.new (w) [.int .i64 a.maj, .int .i64 a.min, .int .i64 a.pat, .slice pa a.pre.length ca] 24 (g := w.heap.size) (by simp)
  replace B0 := (B0.alloc B0.size (.cells #[.int .i64 b.maj, .int .i64 b.min, .int .i64 b.pat, .slice pb b.pre.length cb] 24))
  replace XA := (XA.alloc (.cells #[.int .i64 b.maj, .int .i64 b.min, .int .i64 b.pat, .slice pb b.pre.length cb] 24))
  have XB : Blk (((w).alloc (.cells #[.int .i64 a.maj, .int .i64 a.min, .int .i64 a.pat, .slice pa a.pre.length ca] 24)).alloc (.cells #[.int .i64 b.maj, .int .i64 b.min, .int .i64 b.pat, .slice pb b.pre.length cb] 24)) (w.heap.size + 1) [.int .i64 b.maj, .int .i64 b.min, .int .i64 b.pat, .slice pb b.pre.length cb] := Blk.new ((w).alloc (.cells #[.int .i64 a.maj, .int .i64 a.min, .int .i64 a.pat, .slice pa a.pre.length ca] 24)) [.int .i64 b.maj, .int .i64 b.min, .int .i64 b.pat, .slice pb b.pre.length cb] 24 (g := w.heap.size + 1) (by simp)
  replace B0 := (B0.alloc B0.size (.cells #[.int .i64 c.maj, .int .i64 c.min, .int .i64 c.pat, .slice pc c.pre.length cc] 24))
  replace XA := (XA.alloc (.cells #[.int .i64 c.maj, .int .i64 c.min, .int .i64 c.pat, .slice pc c.pre.length cc] 24))
  replace XB := (XB.alloc (.cells #[.int .i64 c.maj, .int .i64 c.min, .int .i64 c.pat, .slice pc c.pre.length cc] 24))
  have XC : Blk ((((w).alloc (.cells #[.int .i64 a.maj, .int .i64 a.min, .int .i64 a.pat, .slice pa a.pre.length ca] 24)).alloc (.cells #[.int .i64 b.maj, .int .i64 b.min, .int .i64 b.pat, .slice pb b.pre.length cb] 24)).alloc (.cells #[.int .i64 c.maj, .int .i64 c.min, .int .i64 c.pat, .slice pc c.pre.length cc] 24)) (w.heap.size + 1 + 1) [.int .i64 c.maj, .int .i64 c.min, .int .i64 c.pat, .slice pc c.pre.length cc] := Blk.new (((w).alloc (.cells #[.int .i64 a.maj, .int .i64 a.min, .int .i64 a.pat, .slice pa a.pre.length ca] 24)).alloc (.cells #[.int .i64 b.maj, .int .i64 b.min, .int .i64 b.pat, .slice pb b.pre.length cb] 24)) [.int .i64 c.maj, .int .i64 c.min, .int .i64 c.pat, .slice pc c.pre.length cc] 24 (g := w.heap.size + 1 + 1) (by simp)
  refine (orders_any _ (HE.out.below B0 (Nat.le_refl _))).mono ?_
  rintro e w1 ⟨rfl, hb⟩
  have hk : Below ((((w).alloc (.cells #[.int .i64 a.maj, .int .i64 a.min, .int .i64 a.pat, .slice pa a.pre.length ca] 24)).alloc (.cells #[.int .i64 b.maj, .int .i64 b.min, .int .i64 b.pat, .slice pb b.pre.length cb] 24)).alloc (.cells #[.int .i64 c.maj, .int .i64 c.min, .int .i64 c.pat, .slice pc c.pre.length cc] 24)).heap.size ((((w).alloc (.cells #[.int .i64 a.maj, .int .i64 a.min, .int .i64 a.pat, .slice pa a.pre.length ca] 24)).alloc (.cells #[.int .i64 b.maj, .int .i64 b.min, .int .i64 b.pat, .slice pb b.pre.length cb] 24)).alloc (.cells #[.int .i64 c.maj, .int .i64 c.min, .int .i64 c.pat, .slice pc c.pre.length cc] 24)) w1 := hb
  have s1 : w.heap.size ≤ w1.heap.size := Nat.le_trans B0.size hk.size
  have q1 : w.heap.size + 3 ≤ w1.heap.size := by have z := hk.size; (try simp only [World.size_alloc] at z); omega
  have B1 : Below w.heap.size w w1 := bcall B0 hk B0.size
  replace XA := XA.below hk XA.lt
  replace XB := XB.below hk XB.lt
  replace XC := XC.below hk XC.lt
  clear B0 hk hb
  have XA_0 := XA.c 0 _ rfl
  have XA_1 := XA.c 1 _ rfl
  have XA_2 := XA.c 2 _ rfl
  have XA_3 := XA.c 3 _ rfl
  have XA_l := XA.lt
  have XB_0 := XB.c 0 _ rfl
  have XB_1 := XB.c 1 _ rfl
  have XB_2 := XB.c 2 _ rfl
  have XB_3 := XB.c 3 _ rfl
  have XB_l := XB.lt
  have XC_0 := XC.c 0 _ rfl
  have XC_1 := XC.c 1 _ rfl
  have XC_2 := XC.c 2 _ rfl
  have XC_3 := XC.c 3 _ rfl
  have XC_l := XC.lt
  go_wp2_with fail
  refine (Fa.out _ (HA.out.below B1 (Nat.le_refl _))).mono ?_
  rintro e w2 ⟨rfl, hb⟩
  have hk : Below (w1).heap.size (w1) w2 := hb
  have s2 : w.heap.size ≤ w2.heap.size := Nat.le_trans B1.size hk.size
  have q2 : w1.heap.size + 0 ≤ w2.heap.size := by have z := hk.size; (try simp only [World.size_alloc, World.size_setCell] at z); omega
  have B2 : Below w.heap.size w w2 := bcall B1 hk B1.size
  replace XA := XA.below hk XA.lt
  replace XB := XB.below hk XB.lt
  replace XC := XC.below hk XC.lt
  clear B1 hk hb
  clear XA_0 XA_1 XA_2 XA_3 XA_l XB_0 XB_1 XB_2 XB_3 XB_l XC_0 XC_1 XC_2 XC_3 XC_l
  have XA_0 := XA.c 0 _ rfl
  have XA_1 := XA.c 1 _ rfl
  have XA_2 := XA.c 2 _ rfl
  have XA_3 := XA.c 3 _ rfl
  have XA_l := XA.lt
  have XB_0 := XB.c 0 _ rfl
  have XB_1 := XB.c 1 _ rfl
  have XB_2 := XB.c 2 _ rfl
  have XB_3 := XB.c 3 _ rfl
  have XB_l := XB.lt
  have XC_0 := XC.c 0 _ rfl
  have XC_1 := XC.c 1 _ rfl
  have XC_2 := XC.c 2 _ rfl
  have XC_3 := XC.c 3 _ rfl
  have XC_l := XC.lt
  go_wp2_with fail
  go_ret
  exact ⟨rfl, B2⟩
set_option maxRecDepth 100000 in
set_option maxHeartbeats 4000000 in
theorem vot_B (a b c : Pl.Ver) (pa pb pc : Option Addr) (ca cb cc : Nat) (w : World) (E : Env w) (ha : VIn w a pa ca) (hb : VIn w b pb cb) (hc : VIn w c pc cc) (oka : a.Ok) (f1 f2 : Int) (hf : f1 ≠ 0) (eb : Pl.vrF b = (f1, f2)) :
    Calls Tryd.prog 6 #[verV a pa ca, verV b pb cb, verV c pc cc] w fun e w' => e = .returned (.bool true) ∧ Below w.heap.size w w' := by
  have HE := Lib.hid E
  have HA := Lib.hid ha
  have HB := Lib.hid hb
  have HC := Lib.hid hc
  have ea := Pl.vrF_ok oka
  have Fa := Lib.hid (fun (W : World) (h : VIn W a pa ca) => VersionFault_any a pa ca W h)
  rw [ea] at Fa
  simp only [fltV] at Fa
  have Fb := Lib.hid (fun (W : World) (h : VIn W b pb cb) => VersionFault_any b pb cb W h)
  rw [eb] at Fb
  simp only [fltV] at Fb
  have u1 := bneT hf
  have u2 := beqF hf
  clear hf
  clear E ha hb hc ea eb
  go_enter Tryd.func6, Tryd.ntmps6
  have B0 : Below w.heap.size w w := Below.refl _ _
  go_wp2_with fail
  replace B0 := (B0.alloc B0.size (.cells #[.int .i64 a.maj, .int .i64 a.min, .int .i64 a.pat, .slice pa a.pre.length ca] 24))
  have XA : Blk ((w).alloc (.cells #[.int .i64 a.maj, .int .i64 a.min, .int .i64 a.pat, .slice pa a.pre.length ca] 24)) (w.heap.size) [.int .i64 a.maj, .int .i64 a.min, .int .i64 a.pat, .slice pa a.pre.length ca] := Blk.new (w) [.int .i64 a.maj, .int .i64 a.min, .int .i64 a.pat, .slice pa a.pre.length ca] 24 (g := w.heap.size) (by simp)
  replace B0 := (B0.alloc B0.size (.cells #[.int .i64 b.maj, .int .i64 b.min, .int .i64 b.pat, .slice pb b.pre.length cb] 24))
  replace XA := (XA.alloc (.cells #[.int .i64 b.maj, .int .i64 b.min, .int .i64 b.pat, .slice pb b.pre.length cb] 24))
  have XB : Blk (((w).alloc (.cells #[.int .i64 a.maj, .int .i64 a.min, .int .i64 a.pat, .slice pa a.pre.length ca] 24)).alloc (.cells #[.int .i64 b.maj, .int .i64 b.min, .int .i64 b.pat, .slice pb b.pre.length cb] 24)) (w.heap.size + 1) [.int .i64 b.maj, .int .i64 b.min, .int .i64 b.pat, .slice pb b.pre.length cb] := Blk.new ((w).alloc (.cells #[.int .i64 a.maj, .int .i64 a.min, .int .i64 a.pat, .slice pa a.pre.length ca] 24)) [.int .i64 b.maj, .int .i64 b.min, .int .i64 b.pat, .slice pb b.pre.length cb] 24 (g := w.heap.size + 1) (by simp)
  replace B0 := (B0.alloc B0.size (.cells #[.int .i64 c.maj, .int .i64 c.min, .int .i64 c.pat, .slice pc c.pre.length cc] 24))
  replace XA := (XA.alloc (.cells #[.int .i64 c.maj, .int .i64 c.min, .int .i64 c.pat, .slice pc c.pre.length cc] 24))
  replace XB := (XB.alloc (.cells #[.int .i64 c.maj, .int .i64 c.min, .int .i64 c.pat, .slice pc c.pre.length cc] 24))
  have XC : Blk ((((w).alloc (.cells #[.int .i64 a.maj, .int .i64 a.min, .int .i64 a.pat, .slice pa a.pre.length ca] 24)).alloc (.cells #[.int .i64 b.maj, .int .i64 b.min, .int .i64 b.pat, .slice pb b.pre.length cb] 24)).alloc (.cells #[.int .i64 c.maj, .int .i64 c.min, .int .i64 c.pat, .slice pc c.pre.length cc] 24)) (w.heap.size + 1 + 1) [.int .i64 c.maj, .int .i64 c.min, .int .i64 c.pat, .slice pc c.pre.length cc] := Blk.new (((w).alloc (.cells #[.int .i64 a.maj, .int .i64 a.min, .int .i64 a.pat, .slice pa a.pre.length ca] 24)).alloc (.cells #[.int .i64 b.maj, .int .i64 b.min, .int .i64 b.pat, .slice pb b.pre.length cb] 24)) [.int .i64 c.maj, .int .i64 c.min, .int .i64 c.pat, .slice pc c.pre.length cc] 24 (g := w.heap.size + 1 + 1) (by simp)
  refine (orders_any _ (HE.out.below B0 (Nat.le_refl _))).mono ?_
  rintro e w1 ⟨rfl, hb⟩
  have hk : Below ((((w).alloc (.cells #[.int .i64 a.maj, .int .i64 a.min, .int .i64 a.pat, .slice pa a.pre.length ca] 24)).alloc (.cells #[.int .i64 b.maj, .int .i64 b.min, .int .i64 b.pat, .slice pb b.pre.length cb] 24)).alloc (.cells #[.int .i64 c.maj, .int .i64 c.min, .int .i64 c.pat, .slice pc c.pre.length cc] 24)).heap.size ((((w).alloc (.cells #[.int .i64 a.maj, .int .i64 a.min, .int .i64 a.pat, .slice pa a.pre.length ca] 24)).alloc (.cells #[.int .i64 b.maj, .int .i64 b.min, .int .i64 b.pat, .slice pb b.pre.length cb] 24)).alloc (.cells #[.int .i64 c.maj, .int .i64 c.min, .int .i64 c.pat, .slice pc c.pre.length cc] 24)) w1 := hb
  have s1 : w.heap.size ≤ w1.heap.size := Nat.le_trans B0.size hk.size
  have q1 : w.heap.size + 3 ≤ w1.heap.size := by have z := hk.size; (try simp only [World.size_alloc] at z); omega
  have B1 : Below w.heap.size w w1 := bcall B0 hk B0.size
  replace XA := XA.below hk XA.lt
  replace XB := XB.below hk XB.lt
  replace XC := XC.below hk XC.lt
  clear B0 hk hb
  have XA_0 := XA.c 0 _ rfl
  have XA_1 := XA.c 1 _ rfl
  have XA_2 := XA.c 2 _ rfl
  have XA_3 := XA.c 3 _ rfl
  have XA_l := XA.lt
  have XB_0 := XB.c 0 _ rfl
  have XB_1 := XB.c 1 _ rfl
  have XB_2 := XB.c 2 _ rfl
  have XB_3 := XB.c 3 _ rfl
  have XB_l := XB.lt
  have XC_0 := XC.c 0 _ rfl
  have XC_1 := XC.c 1 _ rfl
  have XC_2 := XC.c 2 _ rfl
  have XC_3 := XC.c 3 _ rfl
  have XC_l := XC.lt
  go_wp2_with fail
  refine (Fa.out _ (HA.out.below B1 (Nat.le_refl _))).mono ?_
  rintro e w2 ⟨rfl, hb⟩
  have hk : Below (w1).heap.size (w1) w2 := hb
  have s2 : w.heap.size ≤ w2.heap.size := Nat.le_trans B1.size hk.size
  have q2 : w1.heap.size + 0 ≤ w2.heap.size := by have z := hk.size; (try simp only [World.size_alloc, World.size_setCell] at z); omega
  have B2 : Below w.heap.size w w2 := bcall B1 hk B1.size
  replace XA := XA.below hk XA.lt
  replace XB := XB.below hk XB.lt
  replace XC := XC.below hk XC.lt
  clear B1 hk hb
  clear XA_0 XA_1 XA_2 XA_3 XA_l XB_0 XB_1 XB_2 XB_3 XB_l XC_0 XC_1 XC_2 XC_3 XC_l
  have XA_0 := XA.c 0 _ rfl
  have XA_1 := XA.c 1 _ rfl
  have XA_2 := XA.c 2 _ rfl
  have XA_3 := XA.c 3 _ rfl
  have XA_l := XA.lt
  have XB_0 := XB.c 0 _ rfl
  have XB_1 := XB.c 1 _ rfl
  have XB_2 := XB.c 2 _ rfl
  have XB_3 := XB.c 3 _ rfl
  have XB_l := XB.lt
  have XC_0 := XC.c 0 _ rfl
  have XC_1 := XC.c 1 _ rfl
  have XC_2 := XC.c 2 _ rfl
  have XC_3 := XC.c 3 _ rfl
  have XC_l := XC.lt
  go_wp2_with fail
  refine (Fb.out _ (HB.out.below B2 (Nat.le_refl _))).mono ?_
  rintro e w3 ⟨rfl, hb⟩
  have hk : Below (w2).heap.size (w2) w3 := hb
  have s3 : w.heap.size ≤ w3.heap.size := Nat.le_trans B2.size hk.size
  have q3 : w2.heap.size + 0 ≤ w3.heap.size := by have z := hk.size; (try simp only [World.size_alloc, World.size_setCell] at z); omega
  have B3 : Below w.heap.size w w3 := bcall B2 hk B2.size
  replace XA := XA.below hk XA.lt
  replace XB := XB.below hk XB.lt
  replace XC := XC.below hk XC.lt
  clear B2 hk hb
  clear XA_0 XA_1 XA_2 XA_3 XA_l XB_0 XB_1 XB_2 XB_3 XB_l XC_0 XC_1 XC_2 XC_3 XC_l
  have XA_0 := XA.c 0 _ rfl
  have XA_1 := XA.c 1 _ rfl
  have XA_2 := XA.c 2 _ rfl
  have XA_3 := XA.c 3 _ rfl
  have XA_l := XA.lt
  have XB_0 := XB.c 0 _ rfl
  have XB_1 := XB.c 1 _ rfl
  have XB_2 := XB.c 2 _ rfl
  have XB_3 := XB.c 3 _ rfl
  have XB_l := XB.lt
  have XC_0 := XC.c 0 _ rfl
  have XC_1 := XC.c 1 _ rfl
  have XC_2 := XC.c 2 _ rfl
  have XC_3 := XC.c 3 _ rfl
  have XC_l := XC.lt
  go_wp2_with fail
  go_ret
  exact ⟨rfl, B3⟩
set_option maxRecDepth 100000 in
set_option maxHeartbeats 4000000 in
theorem vot_C (a b c : Pl.Ver) (pa pb pc : Option Addr) (ca cb cc : Nat) (w : World) (E : Env w) (ha : VIn w a pa ca) (hb : VIn w b pb cb) (hc : VIn w c pc cc) (oka : a.Ok) (okb : b.Ok) (f1 f2 : Int) (hf : f1 ≠ 0) (ec : Pl.vrF c = (f1, f2)) :
    Calls Tryd.prog 6 #[verV a pa ca, verV b pb cb, verV c pc cc] w fun e w' => e = .returned (.bool true) ∧ Below w.heap.size w w' := by
  have HE := Lib.hid E
  have HA := Lib.hid ha
  have HB := Lib.hid hb
  have HC := Lib.hid hc
  have ea := Pl.vrF_ok oka
  have Fa := Lib.hid (fun (W : World) (h : VIn W a pa ca) => VersionFault_any a pa ca W h)
  rw [ea] at Fa
  simp only [fltV] at Fa
  have eb := Pl.vrF_ok okb
  have Fb := Lib.hid (fun (W : World) (h : VIn W b pb cb) => VersionFault_any b pb cb W h)
  rw [eb] at Fb
  simp only [fltV] at Fb
  have Fc := Lib.hid (fun (W : World) (h : VIn W c pc cc) => VersionFault_any c pc cc W h)
  rw [ec] at Fc
  simp only [fltV] at Fc
  have u1 := bneT hf
  have u2 := beqF hf
  clear hf
  clear E ha hb hc ea eb ec
  go_enter Tryd.func6, Tryd.ntmps6
  have B0 : Below w.heap.size w w := Below.refl _ _
  go_wp2_with fail
  replace B0 := (B0.alloc B0.size (.cells #[.int .i64 a.maj, .int .i64 a.min, .int .i64 a.pat, .slice pa a.pre.length ca] 24))
  have XA : Blk ((w).alloc (.cells #[.int .i64 a.maj, .int .i64 a.min, .int .i64 a.pat, .slice pa a.pre.length ca] 24)) (w.heap.size) [.int .i64 a.maj, .int .i64 a.min, .int .i64 a.pat, .slice pa a.pre.length ca] := Blk.new (w) [.int .i64 a.maj, .int .i64 a.min, .int .i64 a.pat, .slice pa a.pre.length ca] 24 (g := w.heap.size) (by simp)
  replace B0 := (B0.alloc B0.size (.cells #[.int .i64 b.maj, .int .i64 b.min, .int .i64 b.pat, .slice pb b.pre.length cb] 24))
  replace XA := (XA.alloc (.cells #[.int .i64 b.maj, .int .i64 b.min, .int .i64 b.pat, .slice pb b.pre.length cb] 24))
  have XB : Blk (((w).alloc (.cells #[.int .i64 a.maj, .int .i64 a.min, .int .i64 a.pat, .slice pa a.pre.length ca] 24)).alloc (.cells #[.int .i64 b.maj, .int .i64 b.min, .int .i64 b.pat, .slice pb b.pre.length cb] 24)) (w.heap.size + 1) [.int .i64 b.maj, .int .i64 b.min, .int .i64 b.pat, .slice pb b.pre.length cb] := Blk.new ((w).alloc (.cells #[.int .i64 a.maj, .int .i64 a.min, .int .i64 a.pat, .slice pa a.pre.length ca] 24)) [.int .i64 b.maj, .int .i64 b.min, .int .i64 b.pat, .slice pb b.pre.length cb] 24 (g := w.heap.size + 1) (by simp)
  replace B0 := (B0.alloc B0.size (.cells #[.int .i64 c.maj, .int .i64 c.min, .int .i64 c.pat, .slice pc c.pre.length cc] 24))
  replace XA := (XA.alloc (.cells #[.int .i64 c.maj, .int .i64 c.min, .int .i64 c.pat, .slice pc c.pre.length cc] 24))
  replace XB := (XB.alloc (.cells #[.int .i64 c.maj, .int .i64 c.min, .int .i64 c.pat, .slice pc c.pre.length cc] 24))
  have XC : Blk ((((w).alloc (.cells #[.int .i64 a.maj, .int .i64 a.min, .int .i64 a.pat, .slice pa a.pre.length ca] 24)).alloc (.cells #[.int .i64 b.maj, .int .i64 b.min, .int .i64 b.pat, .slice pb b.pre.length cb] 24)).alloc (.cells #[.int .i64 c.maj, .int .i64 c.min, .int .i64 c.pat, .slice pc c.pre.length cc] 24)) (w.heap.size + 1 + 1) [.int .i64 c.maj, .int .i64 c.min, .int .i64 c.pat, .slice pc c.pre.length cc] := Blk.new (((w).alloc (.cells #[.int .i64 a.maj, .int .i64 a.min, .int .i64 a.pat, .slice pa a.pre.length ca] 24)).alloc (.cells #[.int .i64 b.maj, .int .i64 b.min, .int .i64 b.pat, .slice pb b.pre.length cb] 24)) [.int .i64 c.maj, .int .i64 c.min, .int .i64 c.pat, .slice pc c.pre.length cc] 24 (g := w.heap.size + 1 + 1) (by simp)
  refine (orders_any _ (HE.out.below B0 (Nat.le_refl _))).mono ?_
  rintro e w1 ⟨rfl, hb⟩
  have hk : Below ((((w).alloc (.cells #[.int .i64 a.maj, .int .i64 a.min, .int .i64 a.pat, .slice pa a.pre.length ca] 24)).alloc (.cells #[.int .i64 b.maj, .int .i64 b.min, .int .i64 b.pat, .slice pb b.pre.length cb] 24)).alloc (.cells #[.int .i64 c.maj, .int .i64 c.min, .int .i64 c.pat, .slice pc c.pre.length cc] 24)).heap.size ((((w).alloc (.cells #[.int .i64 a.maj, .int .i64 a.min, .int .i64 a.pat, .slice pa a.pre.length ca] 24)).alloc (.cells #[.int .i64 b.maj, .int .i64 b.min, .int .i64 b.pat, .slice pb b.pre.length cb] 24)).alloc (.cells #[.int .i64 c.maj, .int .i64 c.min, .int .i64 c.pat, .slice pc c.pre.length cc] 24)) w1 := hb
  have s1 : w.heap.size ≤ w1.heap.size := Nat.le_trans B0.size hk.size
  have q1 : w.heap.size + 3 ≤ w1.heap.size := by have z := hk.size; (try simp only [World.size_alloc] at z); omega
  have B1 : Below w.heap.size w w1 := bcall B0 hk B0.size
  replace XA := XA.below hk XA.lt
  replace XB := XB.below hk XB.lt
  replace XC := XC.below hk XC.lt
  clear B0 hk hb
  have XA_0 := XA.c 0 _ rfl
  have XA_1 := XA.c 1 _ rfl
  have XA_2 := XA.c 2 _ rfl
  have XA_3 := XA.c 3 _ rfl
  have XA_l := XA.lt
  have XB_0 := XB.c 0 _ rfl
  have XB_1 := XB.c 1 _ rfl
  have XB_2 := XB.c 2 _ rfl
  have XB_3 := XB.c 3 _ rfl
  have XB_l := XB.lt
  have XC_0 := XC.c 0 _ rfl
  have XC_1 := XC.c 1 _ rfl
  have XC_2 := XC.c 2 _ rfl
  have XC_3 := XC.c 3 _ rfl
  have XC_l := XC.lt
  go_wp2_with fail
  refine (Fa.out _ (HA.out.below B1 (Nat.le_refl _))).mono ?_
  rintro e w2 ⟨rfl, hb⟩
  have hk : Below (w1).heap.size (w1) w2 := hb
  have s2 : w.heap.size ≤ w2.heap.size := Nat.le_trans B1.size hk.size
  have q2 : w1.heap.size + 0 ≤ w2.heap.size := by have z := hk.size; (try simp only [World.size_alloc, World.size_setCell] at z); omega
  have B2 : Below w.heap.size w w2 := bcall B1 hk B1.size
  replace XA := XA.below hk XA.lt
  replace XB := XB.below hk XB.lt
  replace XC := XC.below hk XC.lt
  clear B1 hk hb
  clear XA_0 XA_1 XA_2 XA_3 XA_l XB_0 XB_1 XB_2 XB_3 XB_l XC_0 XC_1 XC_2 XC_3 XC_l
  have XA_0 := XA.c 0 _ rfl
  have XA_1 := XA.c 1 _ rfl
  have XA_2 := XA.c 2 _ rfl
  have XA_3 := XA.c 3 _ rfl
  have XA_l := XA.lt
  have XB_0 := XB.c 0 _ rfl
  have XB_1 := XB.c 1 _ rfl
  have XB_2 := XB.c 2 _ rfl
  have XB_3 := XB.c 3 _ rfl
  have XB_l := XB.lt
  have XC_0 := XC.c 0 _ rfl
  have XC_1 := XC.c 1 _ rfl
  have XC_2 := XC.c 2 _ rfl
  have XC_3 := XC.c 3 _ rfl
  have XC_l := XC.lt
  go_wp2_with fail
  refine (Fb.out _ (HB.out.below B2 (Nat.le_refl _))).mono ?_
  rintro e w3 ⟨rfl, hb⟩
  have hk : Below (w2).heap.size (w2) w3 := hb
  have s3 : w.heap.size ≤ w3.heap.size := Nat.le_trans B2.size hk.size
  have q3 : w2.heap.size + 0 ≤ w3.heap.size := by have z := hk.size; (try simp only [World.size_alloc, World.size_setCell] at z); omega
  have B3 : Below w.heap.size w w3 := bcall B2 hk B2.size
  replace XA := XA.below hk XA.lt
  replace XB := XB.below hk XB.lt
  replace XC := XC.below hk XC.lt
  clear B2 hk hb
  clear XA_0 XA_1 XA_2 XA_3 XA_l XB_0 XB_1 XB_2 XB_3 XB_l XC_0 XC_1 XC_2 XC_3 XC_l
  have XA_0 := XA.c 0 _ rfl
  have XA_1 := XA.c 1 _ rfl
  have XA_2 := XA.c 2 _ rfl
  have XA_3 := XA.c 3 _ rfl
  have XA_l := XA.lt
  have XB_0 := XB.c 0 _ rfl
  have XB_1 := XB.c 1 _ rfl
  have XB_2 := XB.c 2 _ rfl
  have XB_3 := XB.c 3 _ rfl
  have XB_l := XB.lt
  have XC_0 := XC.c 0 _ rfl
  have XC_1 := XC.c 1 _ rfl
  have XC_2 := XC.c 2 _ rfl
  have XC_3 := XC.c 3 _ rfl
  have XC_l := XC.lt
  go_wp2_with fail
  refine (Fc.out _ (HC.out.below B3 (Nat.le_refl _))).mono ?_
  rintro e w4 ⟨rfl, hb⟩
  have hk : Below (w3).heap.size (w3) w4 := hb
  have s4 : w.heap.size ≤ w4.heap.size := Nat.le_trans B3.size hk.size
  have q4 : w3.heap.size + 0 ≤ w4.heap.size := by have z := hk.size; (try simp only [World.size_alloc, World.size_setCell] at z); omega
  have B4 : Below w.heap.size w w4 := bcall B3 hk B3.size
  replace XA := XA.below hk XA.lt
  replace XB := XB.below hk XB.lt
  replace XC := XC.below hk XC.lt
  clear B3 hk hb
  clear XA_0 XA_1 XA_2 XA_3 XA_l XB_0 XB_1 XB_2 XB_3 XB_l XC_0 XC_1 XC_2 XC_3 XC_l
  have XA_0 := XA.c 0 _ rfl
  have XA_1 := XA.c 1 _ rfl
  have XA_2 := XA.c 2 _ rfl
  have XA_3 := XA.c 3 _ rfl
  have XA_l := XA.lt
  have XB_0 := XB.c 0 _ rfl
  have XB_1 := XB.c 1 _ rfl
  have XB_2 := XB.c 2 _ rfl
  have XB_3 := XB.c 3 _ rfl
  have XB_l := XB.lt
  have XC_0 := XC.c 0 _ rfl
  have XC_1 := XC.c 1 _ rfl
  have XC_2 := XC.c 2 _ rfl
  have XC_3 := XC.c 3 _ rfl
  have XC_l := XC.lt
  go_wp2_with fail
  go_ret
  exact ⟨rfl, B4⟩
set_option maxRecDepth 100000 in
set_option maxHeartbeats 4000000 in
theorem vot_p (a b c : Pl.Ver) (pa pb pc : Option Addr) (ca cb cc : Nat) (w : World) (E : Env w) (ha : VIn w a pa ca) (hb : VIn w b pb cb) (hc : VIn w c pc cc) (oka : a.Ok) (okb : b.Ok) (okc : c.Ok) (hk : Pl.verCmp a b = 1) :
    Calls Tryd.prog 6 #[verV a pa ca, verV b pb cb, verV c pc cc] w fun e w' => e = .returned (.bool true) ∧ Below w.heap.size w w' := by
  have HE := Lib.hid E
  have HA := Lib.hid ha
  have HB := Lib.hid hb
  have HC := Lib.hid hc
  have ea := Pl.vrF_ok oka
  have Fa := Lib.hid (fun (W : World) (h : VIn W a pa ca) => VersionFault_any a pa ca W h)
  rw [ea] at Fa
  simp only [fltV] at Fa
  have eb := Pl.vrF_ok okb
  have Fb := Lib.hid (fun (W : World) (h : VIn W b pb cb) => VersionFault_any b pb cb W h)
  rw [eb] at Fb
  simp only [fltV] at Fb
  have ec := Pl.vrF_ok okc
  have Fc := Lib.hid (fun (W : World) (h : VIn W c pc cc) => VersionFault_any c pc cc W h)
  rw [ec] at Fc
  simp only [fltV] at Fc
  have hkb : Pl.verCmp b a = (-1) := by have h := Pl.verCmp_TO.anti a b trivial trivial; omega
  have KAB := Lib.hid (fun (W : World) (h : VIn W a pa ca) (h2 : VIn W b pb cb) => lcompare_any a b pa pb ca cb W h h2 oka okb)
  rw [hk] at KAB
  have KBA := Lib.hid (fun (W : World) (h : VIn W b pb cb) (h2 : VIn W a pa ca) => lcompare_any b a pb pa cb ca W h h2 okb oka)
  rw [hkb] at KBA
  have es : Pl.sameB a b = false := Pl.sameB_false fun e => by rw [(Pl.verCmp_TO.eq a b trivial trivial).2 e] at hk; cases hk
  have KS := Lib.hid (fun (W : World) (h : VIn W a pa ca) (h2 : VIn W b pb cb) => SameVersion_any a b pa pb ca cb W h h2)
  rw [es] at KS
  clear es hk hkb
  have KI := Lib.hid (fun (W : World) => lin_any 1 (-1) 1 W)
  rw [show Pl.inB 1 (-1) 1 = true by decide] at KI
  clear E ha hb hc ea eb ec
  go_enter Tryd.func6, Tryd.ntmps6
  have B0 : Below w.heap.size w w := Below.refl _ _
  go_wp2_with fail
  replace B0 := (B0.alloc B0.size (.cells #[.int .i64 a.maj, .int .i64 a.min, .int .i64 a.pat, .slice pa a.pre.length ca] 24))
  have XA : Blk ((w).alloc (.cells #[.int .i64 a.maj, .int .i64 a.min, .int .i64 a.pat, .slice pa a.pre.length ca] 24)) (w.heap.size) [.int .i64 a.maj, .int .i64 a.min, .int .i64 a.pat, .slice pa a.pre.length ca] := Blk.new (w) [.int .i64 a.maj, .int .i64 a.min, .int .i64 a.pat, .slice pa a.pre.length ca] 24 (g := w.heap.size) (by simp)
  replace B0 := (B0.alloc B0.size (.cells #[.int .i64 b.maj, .int .i64 b.min, .int .i64 b.pat, .slice pb b.pre.length cb] 24))
  replace XA := (XA.alloc (.cells #[.int .i64 b.maj, .int .i64 b.min, .int .i64 b.pat, .slice pb b.pre.length cb] 24))
  have XB : Blk (((w).alloc (.cells #[.int .i64 a.maj, .int .i64 a.min, .int .i64 a.pat, .slice pa a.pre.length ca] 24)).alloc (.cells #[.int .i64 b.maj, .int .i64 b.min, .int .i64 b.pat, .slice pb b.pre.length cb] 24)) (w.heap.size + 1) [.int .i64 b.maj, .int .i64 b.min, .int .i64 b.pat, .slice pb b.pre.length cb] := Blk.new ((w).alloc (.cells #[.int .i64 a.maj, .int .i64 a.min, .int .i64 a.pat, .slice pa a.pre.length ca] 24)) [.int .i64 b.maj, .int .i64 b.min, .int .i64 b.pat, .slice pb b.pre.length cb] 24 (g := w.heap.size + 1) (by simp)
  replace B0 := (B0.alloc B0.size (.cells #[.int .i64 c.maj, .int .i64 c.min, .int .i64 c.pat, .slice pc c.pre.length cc] 24))
  replace XA := (XA.alloc (.cells #[.int .i64 c.maj, .int .i64 c.min, .int .i64 c.pat, .slice pc c.pre.length cc] 24))
  replace XB := (XB.alloc (.cells #[.int .i64 c.maj, .int .i64 c.min, .int .i64 c.pat, .slice pc c.pre.length cc] 24))
  have XC : Blk ((((w).alloc (.cells #[.int .i64 a.maj, .int .i64 a.min, .int .i64 a.pat, .slice pa a.pre.length ca] 24)).alloc (.cells #[.int .i64 b.maj, .int .i64 b.min, .int .i64 b.pat, .slice pb b.pre.length cb] 24)).alloc (.cells #[.int .i64 c.maj, .int .i64 c.min, .int .i64 c.pat, .slice pc c.pre.length cc] 24)) (w.heap.size + 1 + 1) [.int .i64 c.maj, .int .i64 c.min, .int .i64 c.pat, .slice pc c.pre.length cc] := Blk.new (((w).alloc (.cells #[.int .i64 a.maj, .int .i64 a.min, .int .i64 a.pat, .slice pa a.pre.length ca] 24)).alloc (.cells #[.int .i64 b.maj, .int .i64 b.min, .int .i64 b.pat, .slice pb b.pre.length cb] 24)) [.int .i64 c.maj, .int .i64 c.min, .int .i64 c.pat, .slice pc c.pre.length cc] 24 (g := w.heap.size + 1 + 1) (by simp)
  refine (orders_any _ (HE.out.below B0 (Nat.le_refl _))).mono ?_
  rintro e w1 ⟨rfl, hb⟩
  have hk : Below ((((w).alloc (.cells #[.int .i64 a.maj, .int .i64 a.min, .int .i64 a.pat, .slice pa a.pre.length ca] 24)).alloc (.cells #[.int .i64 b.maj, .int .i64 b.min, .int .i64 b.pat, .slice pb b.pre.length cb] 24)).alloc (.cells #[.int .i64 c.maj, .int .i64 c.min, .int .i64 c.pat, .slice pc c.pre.length cc] 24)).heap.size ((((w).alloc (.cells #[.int .i64 a.maj, .int .i64 a.min, .int .i64 a.pat, .slice pa a.pre.length ca] 24)).alloc (.cells #[.int .i64 b.maj, .int .i64 b.min, .int .i64 b.pat, .slice pb b.pre.length cb] 24)).alloc (.cells #[.int .i64 c.maj, .int .i64 c.min, .int .i64 c.pat, .slice pc c.pre.length cc] 24)) w1 := hb
  have s1 : w.heap.size ≤ w1.heap.size := Nat.le_trans B0.size hk.size
  have q1 : w.heap.size + 3 ≤ w1.heap.size := by have z := hk.size; (try simp only [World.size_alloc] at z); omega
  have B1 : Below w.heap.size w w1 := bcall B0 hk B0.size
  replace XA := XA.below hk XA.lt
  replace XB := XB.below hk XB.lt
  replace XC := XC.below hk XC.lt
  clear B0 hk hb
  have XA_0 := XA.c 0 _ rfl
  have XA_1 := XA.c 1 _ rfl
  have XA_2 := XA.c 2 _ rfl
  have XA_3 := XA.c 3 _ rfl
  have XA_l := XA.lt
  have XB_0 := XB.c 0 _ rfl
  have XB_1 := XB.c 1 _ rfl
  have XB_2 := XB.c 2 _ rfl
  have XB_3 := XB.c 3 _ rfl
  have XB_l := XB.lt
  have XC_0 := XC.c 0 _ rfl
  have XC_1 := XC.c 1 _ rfl
  have XC_2 := XC.c 2 _ rfl
  have XC_3 := XC.c 3 _ rfl
  have XC_l := XC.lt
  go_wp2_with fail
  refine (Fa.out _ (HA.out.below B1 (Nat.le_refl _))).mono ?_
  rintro e w2 ⟨rfl, hb⟩
  have hk : Below (w1).heap.size (w1) w2 := hb
  have s2 : w.heap.size ≤ w2.heap.size := Nat.le_trans B1.size hk.size
  have q2 : w1.heap.size + 0 ≤ w2.heap.size := by have z := hk.size; (try simp only [World.size_alloc, World.size_setCell] at z); omega
  have B2 : Below w.heap.size w w2 := bcall B1 hk B1.size
  replace XA := XA.below hk XA.lt
  replace XB := XB.below hk XB.lt
  replace XC := XC.below hk XC.lt
  clear B1 hk hb
  clear XA_0 XA_1 XA_2 XA_3 XA_l XB_0 XB_1 XB_2 XB_3 XB_l XC_0 XC_1 XC_2 XC_3 XC_l
  have XA_0 := XA.c 0 _ rfl
  have XA_1 := XA.c 1 _ rfl
  have XA_2 := XA.c 2 _ rfl
  have XA_3 := XA.c 3 _ rfl
  have XA_l := XA.lt
  have XB_0 := XB.c 0 _ rfl
  have XB_1 := XB.c 1 _ rfl
  have XB_2 := XB.c 2 _ rfl
  have XB_3 := XB.c 3 _ rfl
  have XB_l := XB.lt
  have XC_0 := XC.c 0 _ rfl
  have XC_1 := XC.c 1 _ rfl
  have XC_2 := XC.c 2 _ rfl
  have XC_3 := XC.c 3 _ rfl
  have XC_l := XC.lt
  go_wp2_with fail
  refine (Fb.out _ (HB.out.below B2 (Nat.le_refl _))).mono ?_
  rintro e w3 ⟨rfl, hb⟩
  have hk : Below (w2).heap.size (w2) w3 := hb
  have s3 : w.heap.size ≤ w3.heap.size := Nat.le_trans B2.size hk.size
  have q3 : w2.heap.size + 0 ≤ w3.heap.size := by have z := hk.size; (try simp only [World.size_alloc, World.size_setCell] at z); omega
  have B3 : Below w.heap.size w w3 := bcall B2 hk B2.size
  replace XA := XA.below hk XA.lt
  replace XB := XB.below hk XB.lt
  replace XC := XC.below hk XC.lt
  clear B2 hk hb
  clear XA_0 XA_1 XA_2 XA_3 XA_l XB_0 XB_1 XB_2 XB_3 XB_l XC_0 XC_1 XC_2 XC_3 XC_l
  have XA_0 := XA.c 0 _ rfl
  have XA_1 := XA.c 1 _ rfl
  have XA_2 := XA.c 2 _ rfl
  have XA_3 := XA.c 3 _ rfl
  have XA_l := XA.lt
  have XB_0 := XB.c 0 _ rfl
  have XB_1 := XB.c 1 _ rfl
  have XB_2 := XB.c 2 _ rfl
  have XB_3 := XB.c 3 _ rfl
  have XB_l := XB.lt
  have XC_0 := XC.c 0 _ rfl
  have XC_1 := XC.c 1 _ rfl
  have XC_2 := XC.c 2 _ rfl
  have XC_3 := XC.c 3 _ rfl
  have XC_l := XC.lt
  go_wp2_with fail
  refine (Fc.out _ (HC.out.below B3 (Nat.le_refl _))).mono ?_
  rintro e w4 ⟨rfl, hb⟩
  have hk : Below (w3).heap.size (w3) w4 := hb
  have s4 : w.heap.size ≤ w4.heap.size := Nat.le_trans B3.size hk.size
  have q4 : w3.heap.size + 0 ≤ w4.heap.size := by have z := hk.size; (try simp only [World.size_alloc, World.size_setCell] at z); omega
  have B4 : Below w.heap.size w w4 := bcall B3 hk B3.size
  replace XA := XA.below hk XA.lt
  replace XB := XB.below hk XB.lt
  replace XC := XC.below hk XC.lt
  clear B3 hk hb
  clear XA_0 XA_1 XA_2 XA_3 XA_l XB_0 XB_1 XB_2 XB_3 XB_l XC_0 XC_1 XC_2 XC_3 XC_l
  have XA_0 := XA.c 0 _ rfl
  have XA_1 := XA.c 1 _ rfl
  have XA_2 := XA.c 2 _ rfl
  have XA_3 := XA.c 3 _ rfl
  have XA_l := XA.lt
  have XB_0 := XB.c 0 _ rfl
  have XB_1 := XB.c 1 _ rfl
  have XB_2 := XB.c 2 _ rfl
  have XB_3 := XB.c 3 _ rfl
  have XB_l := XB.lt
  have XC_0 := XC.c 0 _ rfl
  have XC_1 := XC.c 1 _ rfl
  have XC_2 := XC.c 2 _ rfl
  have XC_3 := XC.c 3 _ rfl
  have XC_l := XC.lt
  go_wp2_with fail
  refine (KAB.out _ (HA.out.below B4 (Nat.le_refl _)) (HB.out.below B4 (Nat.le_refl _))).mono ?_
  rintro e w5 ⟨rfl, hb⟩
  have hk : Below (w4).heap.size (w4) w5 := hb
  have s5 : w.heap.size ≤ w5.heap.size := Nat.le_trans B4.size hk.size
  have q5 : w4.heap.size + 0 ≤ w5.heap.size := by have z := hk.size; (try simp only [World.size_alloc, World.size_setCell] at z); omega
  have B5 : Below w.heap.size w w5 := bcall B4 hk B4.size
  replace XA := XA.below hk XA.lt
  replace XB := XB.below hk XB.lt
  replace XC := XC.below hk XC.lt
  clear B4 hk hb
  clear XA_0 XA_1 XA_2 XA_3 XA_l XB_0 XB_1 XB_2 XB_3 XB_l XC_0 XC_1 XC_2 XC_3 XC_l
  have XA_0 := XA.c 0 _ rfl
  have XA_1 := XA.c 1 _ rfl
  have XA_2 := XA.c 2 _ rfl
  have XA_3 := XA.c 3 _ rfl
  have XA_l := XA.lt
  have XB_0 := XB.c 0 _ rfl
  have XB_1 := XB.c 1 _ rfl
  have XB_2 := XB.c 2 _ rfl
  have XB_3 := XB.c 3 _ rfl
  have XB_l := XB.lt
  have XC_0 := XC.c 0 _ rfl
  have XC_1 := XC.c 1 _ rfl
  have XC_2 := XC.c 2 _ rfl
  have XC_3 := XC.c 3 _ rfl
  have XC_l := XC.lt
  go_wp2_with (go_at_call 23; refine (KI.out _).mono ?_; rintro e w' ⟨rfl, rfl⟩)
  refine (KBA.out _ (HB.out.below B5 (Nat.le_refl _)) (HA.out.below B5 (Nat.le_refl _))).mono ?_
  rintro e w6 ⟨rfl, hb⟩
  have hk : Below (w5).heap.size (w5) w6 := hb
  have s6 : w.heap.size ≤ w6.heap.size := Nat.le_trans B5.size hk.size
  have q6 : w5.heap.size + 0 ≤ w6.heap.size := by have z := hk.size; (try simp only [World.size_alloc, World.size_setCell] at z); omega
  have B6 : Below w.heap.size w w6 := bcall B5 hk B5.size
  replace XA := XA.below hk XA.lt
  replace XB := XB.below hk XB.lt
  replace XC := XC.below hk XC.lt
  clear B5 hk hb
  clear XA_0 XA_1 XA_2 XA_3 XA_l XB_0 XB_1 XB_2 XB_3 XB_l XC_0 XC_1 XC_2 XC_3 XC_l
  have XA_0 := XA.c 0 _ rfl
  have XA_1 := XA.c 1 _ rfl
  have XA_2 := XA.c 2 _ rfl
  have XA_3 := XA.c 3 _ rfl
  have XA_l := XA.lt
  have XB_0 := XB.c 0 _ rfl
  have XB_1 := XB.c 1 _ rfl
  have XB_2 := XB.c 2 _ rfl
  have XB_3 := XB.c 3 _ rfl
  have XB_l := XB.lt
  have XC_0 := XC.c 0 _ rfl
  have XC_1 := XC.c 1 _ rfl
  have XC_2 := XC.c 2 _ rfl
  have XC_3 := XC.c 3 _ rfl
  have XC_l := XC.lt
  go_wp2_with fail
  refine (KS.out _ (HA.out.below B6 (Nat.le_refl _)) (HB.out.below B6 (Nat.le_refl _))).mono ?_
  rintro e w7 ⟨rfl, hb⟩
  have hk : Below (w6).heap.size (w6) w7 := hb
  have s7 : w.heap.size ≤ w7.heap.size := Nat.le_trans B6.size hk.size
  have q7 : w6.heap.size + 0 ≤ w7.heap.size := by have z := hk.size; (try simp only [World.size_alloc, World.size_setCell] at z); omega
  have B7 : Below w.heap.size w w7 := bcall B6 hk B6.size
  replace XA := XA.below hk XA.lt
  replace XB := XB.below hk XB.lt
  replace XC := XC.below hk XC.lt
  clear B6 hk hb
  clear XA_0 XA_1 XA_2 XA_3 XA_l XB_0 XB_1 XB_2 XB_3 XB_l XC_0 XC_1 XC_2 XC_3 XC_l
  have XA_0 := XA.c 0 _ rfl
  have XA_1 := XA.c 1 _ rfl
  have XA_2 := XA.c 2 _ rfl
  have XA_3 := XA.c 3 _ rfl
  have XA_l := XA.lt
  have XB_0 := XB.c 0 _ rfl
  have XB_1 := XB.c 1 _ rfl
  have XB_2 := XB.c 2 _ rfl
  have XB_3 := XB.c 3 _ rfl
  have XB_l := XB.lt
  have XC_0 := XC.c 0 _ rfl
  have XC_1 := XC.c 1 _ rfl
  have XC_2 := XC.c 2 _ rfl
  have XC_3 := XC.c 3 _ rfl
  have XC_l := XC.lt
  go_wp2_with fail
  go_ret
  exact ⟨rfl, B7⟩
set_option maxRecDepth 100000 in
set_option maxHeartbeats 4000000 in
theorem vot_q0 (a b c : Pl.Ver) (pa pb pc : Option Addr) (ca cb cc : Nat) (w : World) (E : Env w) (ha : VIn w a pa ca) (hb : VIn w b pb cb) (hc : VIn w c pc cc) (oka : a.Ok) (okb : b.Ok) (okc : c.Ok) (hk : Pl.verCmp a b = 0) (hl : Pl.verCmp b c = 1) :
    Calls Tryd.prog 6 #[verV a pa ca, verV b pb cb, verV c pc cc] w fun e w' => e = .returned (.bool true) ∧ Below w.heap.size w w' := by
  have HE := Lib.hid E
  have HA := Lib.hid ha
  have HB := Lib.hid hb
  have HC := Lib.hid hc
  have ea := Pl.vrF_ok oka
  have Fa := Lib.hid (fun (W : World) (h : VIn W a pa ca) => VersionFault_any a pa ca W h)
  rw [ea] at Fa
  simp only [fltV] at Fa
  have eb := Pl.vrF_ok okb
  have Fb := Lib.hid (fun (W : World) (h : VIn W b pb cb) => VersionFault_any b pb cb W h)
  rw [eb] at Fb
  simp only [fltV] at Fb
  have ec := Pl.vrF_ok okc
  have Fc := Lib.hid (fun (W : World) (h : VIn W c pc cc) => VersionFault_any c pc cc W h)
  rw [ec] at Fc
  simp only [fltV] at Fc
  have hkb : Pl.verCmp b a = 0 := by have h := Pl.verCmp_TO.anti a b trivial trivial; omega
  have KAB := Lib.hid (fun (W : World) (h : VIn W a pa ca) (h2 : VIn W b pb cb) => lcompare_any a b pa pb ca cb W h h2 oka okb)
  rw [hk] at KAB
  have KBA := Lib.hid (fun (W : World) (h : VIn W b pb cb) (h2 : VIn W a pa ca) => lcompare_any b a pb pa cb ca W h h2 okb oka)
  rw [hkb] at KBA
  have KBC := Lib.hid (fun (W : World) (h : VIn W b pb cb) (h2 : VIn W c pc cc) => lcompare_any b c pb pc cb cc W h h2 okb okc)
  rw [hl] at KBC
  have es : Pl.sameB a b = true := Pl.sameB_iff.2 ((Pl.verCmp_TO.eq a b trivial trivial).1 hk)
  have KS := Lib.hid (fun (W : World) (h : VIn W a pa ca) (h2 : VIn W b pb cb) => SameVersion_any a b pa pb ca cb W h h2)
  rw [es] at KS
  clear es hk hkb hl
  have KI := Lib.hid (fun (W : World) => lin_any 0 (-1) 1 W)
  rw [show Pl.inB 0 (-1) 1 = true by decide] at KI
  clear E ha hb hc ea eb ec
  go_enter Tryd.func6, Tryd.ntmps6
  have B0 : Below w.heap.size w w := Below.refl _ _
  go_wp2_with fail
  replace B0 := (B0.alloc B0.size (.cells #[.int .i64 a.maj, .int .i64 a.min, .int .i64 a.pat, .slice pa a.pre.length ca] 24))
  have XA : Blk ((w).alloc (.cells #[.int .i64 a.maj, .int .i64 a.min, .int .i64 a.pat, .slice pa a.pre.length ca] 24)) (w.heap.size) [.int .i64 a.maj, .int .i64 a.min, .int .i64 a.pat, .slice pa a.pre.length ca] := Blk.new (w) [.int .i64 a.maj, .int .i64 a.min, .int .i64 a.pat, .slice pa a.pre.length ca] 24 (g := w.heap.size) (by simp)
  replace B0 := (B0.alloc B0.size (.cells #[.int .i64 b.maj, .int .i64 b.min, .int .i64 b.pat, .slice pb b.pre.length cb] 24))
  replace XA := (XA.alloc (.cells #[.int .i64 b.maj, .int .i64 b.min, .int .i64 b.pat, .slice pb b.pre.length cb] 24))
  have XB : Blk (((w).alloc (.cells #[.int .i64 a.maj, .int .i64 a.min, .int .i64 a.pat, .slice pa a.pre.length ca] 24)).alloc (.cells #[.int .i64 b.maj, .int .i64 b.min, .int .i64 b.pat, .slice pb b.pre.length cb] 24)) (w.heap.size + 1) [.int .i64 b.maj, .int .i64 b.min, .int .i64 b.pat, .slice pb b.pre.length cb] := Blk.new ((w).alloc (.cells #[.int .i64 a.maj, .int .i64 a.min, .int .i64 a.pat, .slice pa a.pre.length ca] 24)) [.int .i64 b.maj, .int .i64 b.min, .int .i64 b.pat, .slice pb b.pre.length cb] 24 (g := w.heap.size + 1) (by simp)
  replace B0 := (B0.alloc B0.size (.cells #[.int .i64 c.maj, .int .i64 c.min, .int .i64 c.pat, .slice pc c.pre.length cc] 24))
  replace XA := (XA.alloc (.cells #[.int .i64 c.maj, .int .i64 c.min, .int .i64 c.pat, .slice pc c.pre.length cc] 24))
  replace XB := (XB.alloc (.cells #[.int .i64 c.maj, .int .i64 c.min, .int .i64 c.pat, .slice pc c.pre.length cc] 24))
  have XC : Blk ((((w).alloc (.cells #[.int .i64 a.maj, .int .i64 a.min, .int .i64 a.pat, .slice pa a.pre.length ca] 24)).alloc (.cells #[.int .i64 b.maj, .int .i64 b.min, .int .i64 b.pat, .slice pb b.pre.length cb] 24)).alloc (.cells #[.int .i64 c.maj, .int .i64 c.min, .int .i64 c.pat, .slice pc c.pre.length cc] 24)) (w.heap.size + 1 + 1) [.int .i64 c.maj, .int .i64 c.min, .int .i64 c.pat, .slice pc c.pre.length cc] := Blk.new (((w).alloc (.cells #[.int .i64 a.maj, .int .i64 a.min, .int .i64 a.pat, .slice pa a.pre.length ca] 24)).alloc (.cells #[.int .i64 b.maj, .int .i64 b.min, .int .i64 b.pat, .slice pb b.pre.length cb] 24)) [.int .i64 c.maj, .int .i64 c.min, .int .i64 c.pat, .slice pc c.pre.length cc] 24 (g := w.heap.size + 1 + 1) (by simp)
  refine (orders_any _ (HE.out.below B0 (Nat.le_refl _))).mono ?_
  rintro e w1 ⟨rfl, hb⟩
  have hk : Below ((((w).alloc (.cells #[.int .i64 a.maj, .int .i64 a.min, .int .i64 a.pat, .slice pa a.pre.length ca] 24)).alloc (.cells #[.int .i64 b.maj, .int .i64 b.min, .int .i64 b.pat, .slice pb b.pre.length cb] 24)).alloc (.cells #[.int .i64 c.maj, .int .i64 c.min, .int .i64 c.pat, .slice pc c.pre.length cc] 24)).heap.size ((((w).alloc (.cells #[.int .i64 a.maj, .int .i64 a.min, .int .i64 a.pat, .slice pa a.pre.length ca] 24)).alloc (.cells #[.int .i64 b.maj, .int .i64 b.min, .int .i64 b.pat, .slice pb b.pre.length cb] 24)).alloc (.cells #[.int .i64 c.maj, .int .i64 c.min, .int .i64 c.pat, .slice pc c.pre.length cc] 24)) w1 := hb
  have s1 : w.heap.size ≤ w1.heap.size := Nat.le_trans B0.size hk.size
  have q1 : w.heap.size + 3 ≤ w1.heap.size := by have z := hk.size; (try simp only [World.size_alloc] at z); omega
  have B1 : Below w.heap.size w w1 := bcall B0 hk B0.size
  replace XA := XA.below hk XA.lt
  replace XB := XB.below hk XB.lt
  replace XC := XC.below hk XC.lt
  clear B0 hk hb
  have XA_0 := XA.c 0 _ rfl
  have XA_1 := XA.c 1 _ rfl
  have XA_2 := XA.c 2 _ rfl
  have XA_3 := XA.c 3 _ rfl
  have XA_l := XA.lt
  have XB_0 := XB.c 0 _ rfl
  have XB_1 := XB.c 1 _ rfl
  have XB_2 := XB.c 2 _ rfl
  have XB_3 := XB.c 3 _ rfl
  have XB_l := XB.lt
  have XC_0 := XC.c 0 _ rfl
  have XC_1 := XC.c 1 _ rfl
  have XC_2 := XC.c 2 _ rfl
  have XC_3 := XC.c 3 _ rfl
  have XC_l := XC.lt
  go_wp2_with fail
  refine (Fa.out _ (HA.out.below B1 (Nat.le_refl _))).mono ?_
  rintro e w2 ⟨rfl, hb⟩
  have hk : Below (w1).heap.size (w1) w2 := hb
  have s2 : w.heap.size ≤ w2.heap.size := Nat.le_trans B1.size hk.size
  have q2 : w1.heap.size + 0 ≤ w2.heap.size := by have z := hk.size; (try simp only [World.size_alloc, World.size_setCell] at z); omega
  have B2 : Below w.heap.size w w2 := bcall B1 hk B1.size
  replace XA := XA.below hk XA.lt
  replace XB := XB.below hk XB.lt
  replace XC := XC.below hk XC.lt
  clear B1 hk hb
  clear XA_0 XA_1 XA_2 XA_3 XA_l XB_0 XB_1 XB_2 XB_3 XB_l XC_0 XC_1 XC_2 XC_3 XC_l
  have XA_0 := XA.c 0 _ rfl
  have XA_1 := XA.c 1 _ rfl
  have XA_2 := XA.c 2 _ rfl
  have XA_3 := XA.c 3 _ rfl
  have XA_l := XA.lt
  have XB_0 := XB.c 0 _ rfl
  have XB_1 := XB.c 1 _ rfl
  have XB_2 := XB.c 2 _ rfl
  have XB_3 := XB.c 3 _ rfl
  have XB_l := XB.lt
  have XC_0 := XC.c 0 _ rfl
  have XC_1 := XC.c 1 _ rfl
  have XC_2 := XC.c 2 _ rfl
  have XC_3 := XC.c 3 _ rfl
  have XC_l := XC.lt
  go_wp2_with fail
  refine (Fb.out _ (HB.out.below B2 (Nat.le_refl _))).mono ?_
  rintro e w3 ⟨rfl, hb⟩
  have hk : Below (w2).heap.size (w2) w3 := hb
  have s3 : w.heap.size ≤ w3.heap.size := Nat.le_trans B2.size hk.size
  have q3 : w2.heap.size + 0 ≤ w3.heap.size := by have z := hk.size; (try simp only [World.size_alloc, World.size_setCell] at z); omega
  have B3 : Below w.heap.size w w3 := bcall B2 hk B2.size
  replace XA := XA.below hk XA.lt
  replace XB := XB.below hk XB.lt
  replace XC := XC.below hk XC.lt
  clear B2 hk hb
  clear XA_0 XA_1 XA_2 XA_3 XA_l XB_0 XB_1 XB_2 XB_3 XB_l XC_0 XC_1 XC_2 XC_3 XC_l
  have XA_0 := XA.c 0 _ rfl
  have XA_1 := XA.c 1 _ rfl
  have XA_2 := XA.c 2 _ rfl
  have XA_3 := XA.c 3 _ rfl
  have XA_l := XA.lt
  have XB_0 := XB.c 0 _ rfl
  have XB_1 := XB.c 1 _ rfl
  have XB_2 := XB.c 2 _ rfl
  have XB_3 := XB.c 3 _ rfl
  have XB_l := XB.lt
  have XC_0 := XC.c 0 _ rfl
  have XC_1 := XC.c 1 _ rfl
  have XC_2 := XC.c 2 _ rfl
  have XC_3 := XC.c 3 _ rfl
  have XC_l := XC.lt
  go_wp2_with fail
  refine (Fc.out _ (HC.out.below B3 (Nat.le_refl _))).mono ?_
  rintro e w4 ⟨rfl, hb⟩
  have hk : Below (w3).heap.size (w3) w4 := hb
  have s4 : w.heap.size ≤ w4.heap.size := Nat.le_trans B3.size hk.size
  have q4 : w3.heap.size + 0 ≤ w4.heap.size := by have z := hk.size; (try simp only [World.size_alloc, World.size_setCell] at z); omega
  have B4 : Below w.heap.size w w4 := bcall B3 hk B3.size
  replace XA := XA.below hk XA.lt
  replace XB := XB.below hk XB.lt
  replace XC := XC.below hk XC.lt
  clear B3 hk hb
  clear XA_0 XA_1 XA_2 XA_3 XA_l XB_0 XB_1 XB_2 XB_3 XB_l XC_0 XC_1 XC_2 XC_3 XC_l
  have XA_0 := XA.c 0 _ rfl
  have XA_1 := XA.c 1 _ rfl
  have XA_2 := XA.c 2 _ rfl
  have XA_3 := XA.c 3 _ rfl
  have XA_l := XA.lt
  have XB_0 := XB.c 0 _ rfl
  have XB_1 := XB.c 1 _ rfl
  have XB_2 := XB.c 2 _ rfl
  have XB_3 := XB.c 3 _ rfl
  have XB_l := XB.lt
  have XC_0 := XC.c 0 _ rfl
  have XC_1 := XC.c 1 _ rfl
  have XC_2 := XC.c 2 _ rfl
  have XC_3 := XC.c 3 _ rfl
  have XC_l := XC.lt
  go_wp2_with fail
  refine (KAB.out _ (HA.out.below B4 (Nat.le_refl _)) (HB.out.below B4 (Nat.le_refl _))).mono ?_
  rintro e w5 ⟨rfl, hb⟩
  have hk : Below (w4).heap.size (w4) w5 := hb
  have s5 : w.heap.size ≤ w5.heap.size := Nat.le_trans B4.size hk.size
  have q5 : w4.heap.size + 0 ≤ w5.heap.size := by have z := hk.size; (try simp only [World.size_alloc, World.size_setCell] at z); omega
  have B5 : Below w.heap.size w w5 := bcall B4 hk B4.size
  replace XA := XA.below hk XA.lt
  replace XB := XB.below hk XB.lt
  replace XC := XC.below hk XC.lt
  clear B4 hk hb
  clear XA_0 XA_1 XA_2 XA_3 XA_l XB_0 XB_1 XB_2 XB_3 XB_l XC_0 XC_1 XC_2 XC_3 XC_l
  have XA_0 := XA.c 0 _ rfl
  have XA_1 := XA.c 1 _ rfl
  have XA_2 := XA.c 2 _ rfl
  have XA_3 := XA.c 3 _ rfl
  have XA_l := XA.lt
  have XB_0 := XB.c 0 _ rfl
  have XB_1 := XB.c 1 _ rfl
  have XB_2 := XB.c 2 _ rfl
  have XB_3 := XB.c 3 _ rfl
  have XB_l := XB.lt
  have XC_0 := XC.c 0 _ rfl
  have XC_1 := XC.c 1 _ rfl
  have XC_2 := XC.c 2 _ rfl
  have XC_3 := XC.c 3 _ rfl
  have XC_l := XC.lt
  go_wp2_with (go_at_call 23; refine (KI.out _).mono ?_; rintro e w' ⟨rfl, rfl⟩)
  refine (KBA.out _ (HB.out.below B5 (Nat.le_refl _)) (HA.out.below B5 (Nat.le_refl _))).mono ?_
  rintro e w6 ⟨rfl, hb⟩
  have hk : Below (w5).heap.size (w5) w6 := hb
  have s6 : w.heap.size ≤ w6.heap.size := Nat.le_trans B5.size hk.size
  have q6 : w5.heap.size + 0 ≤ w6.heap.size := by have z := hk.size; (try simp only [World.size_alloc, World.size_setCell] at z); omega
  have B6 : Below w.heap.size w w6 := bcall B5 hk B5.size
  replace XA := XA.below hk XA.lt
  replace XB := XB.below hk XB.lt
  replace XC := XC.below hk XC.lt
  clear B5 hk hb
  clear XA_0 XA_1 XA_2 XA_3 XA_l XB_0 XB_1 XB_2 XB_3 XB_l XC_0 XC_1 XC_2 XC_3 XC_l
  have XA_0 := XA.c 0 _ rfl
  have XA_1 := XA.c 1 _ rfl
  have XA_2 := XA.c 2 _ rfl
  have XA_3 := XA.c 3 _ rfl
  have XA_l := XA.lt
  have XB_0 := XB.c 0 _ rfl
  have XB_1 := XB.c 1 _ rfl
  have XB_2 := XB.c 2 _ rfl
  have XB_3 := XB.c 3 _ rfl
  have XB_l := XB.lt
  have XC_0 := XC.c 0 _ rfl
  have XC_1 := XC.c 1 _ rfl
  have XC_2 := XC.c 2 _ rfl
  have XC_3 := XC.c 3 _ rfl
  have XC_l := XC.lt
  go_wp2_with fail
  refine (KS.out _ (HA.out.below B6 (Nat.le_refl _)) (HB.out.below B6 (Nat.le_refl _))).mono ?_
  rintro e w7 ⟨rfl, hb⟩
  have hk : Below (w6).heap.size (w6) w7 := hb
  have s7 : w.heap.size ≤ w7.heap.size := Nat.le_trans B6.size hk.size
  have q7 : w6.heap.size + 0 ≤ w7.heap.size := by have z := hk.size; (try simp only [World.size_alloc, World.size_setCell] at z); omega
  have B7 : Below w.heap.size w w7 := bcall B6 hk B6.size
  replace XA := XA.below hk XA.lt
  replace XB := XB.below hk XB.lt
  replace XC := XC.below hk XC.lt
  clear B6 hk hb
  clear XA_0 XA_1 XA_2 XA_3 XA_l XB_0 XB_1 XB_2 XB_3 XB_l XC_0 XC_1 XC_2 XC_3 XC_l
  have XA_0 := XA.c 0 _ rfl
  have XA_1 := XA.c 1 _ rfl
  have XA_2 := XA.c 2 _ rfl
  have XA_3 := XA.c 3 _ rfl
  have XA_l := XA.lt
  have XB_0 := XB.c 0 _ rfl
  have XB_1 := XB.c 1 _ rfl
  have XB_2 := XB.c 2 _ rfl
  have XB_3 := XB.c 3 _ rfl
  have XB_l := XB.lt
  have XC_0 := XC.c 0 _ rfl
  have XC_1 := XC.c 1 _ rfl
  have XC_2 := XC.c 2 _ rfl
  have XC_3 := XC.c 3 _ rfl
  have XC_l := XC.lt
  go_wp2_with fail
  refine (KBC.out _ (HB.out.below B7 (Nat.le_refl _)) (HC.out.below B7 (Nat.le_refl _))).mono ?_
  rintro e w8 ⟨rfl, hb⟩
  have hk : Below (w7).heap.size (w7) w8 := hb
  have s8 : w.heap.size ≤ w8.heap.size := Nat.le_trans B7.size hk.size
  have q8 : w7.heap.size + 0 ≤ w8.heap.size := by have z := hk.size; (try simp only [World.size_alloc, World.size_setCell] at z); omega
  have B8 : Below w.heap.size w w8 := bcall B7 hk B7.size
  replace XA := XA.below hk XA.lt
  replace XB := XB.below hk XB.lt
  replace XC := XC.below hk XC.lt
  clear B7 hk hb
  clear XA_0 XA_1 XA_2 XA_3 XA_l XB_0 XB_1 XB_2 XB_3 XB_l XC_0 XC_1 XC_2 XC_3 XC_l
  have XA_0 := XA.c 0 _ rfl
  have XA_1 := XA.c 1 _ rfl
  have XA_2 := XA.c 2 _ rfl
  have XA_3 := XA.c 3 _ rfl
  have XA_l := XA.lt
  have XB_0 := XB.c 0 _ rfl
  have XB_1 := XB.c 1 _ rfl
  have XB_2 := XB.c 2 _ rfl
  have XB_3 := XB.c 3 _ rfl
  have XB_l := XB.lt
  have XC_0 := XC.c 0 _ rfl
  have XC_1 := XC.c 1 _ rfl
  have XC_2 := XC.c 2 _ rfl
  have XC_3 := XC.c 3 _ rfl
  have XC_l := XC.lt
  go_wp2_with fail
  go_ret
  exact ⟨rfl, B8⟩
set_option maxRecDepth 100000 in
set_option maxHeartbeats 4000000 in
theorem vot_q1 (a b c : Pl.Ver) (pa pb pc : Option Addr) (ca cb cc : Nat) (w : World) (E : Env w) (ha : VIn w a pa ca) (hb : VIn w b pb cb) (hc : VIn w c pc cc) (oka : a.Ok) (okb : b.Ok) (okc : c.Ok) (hk : Pl.verCmp a b = (-1)) (hl : Pl.verCmp b c = 1) :
    Calls Tryd.prog 6 #[verV a pa ca, verV b pb cb, verV c pc cc] w fun e w' => e = .returned (.bool true) ∧ Below w.heap.size w w' := by
  have HE := Lib.hid E
  have HA := Lib.hid ha
  have HB := Lib.hid hb
  have HC := Lib.hid hc
  have ea := Pl.vrF_ok oka
  have Fa := Lib.hid (fun (W : World) (h : VIn W a pa ca) => VersionFault_any a pa ca W h)
  rw [ea] at Fa
  simp only [fltV] at Fa
  have eb := Pl.vrF_ok okb
  have Fb := Lib.hid (fun (W : World) (h : VIn W b pb cb) => VersionFault_any b pb cb W h)
  rw [eb] at Fb
  simp only [fltV] at Fb
  have ec := Pl.vrF_ok okc
  have Fc := Lib.hid (fun (W : World) (h : VIn W c pc cc) => VersionFault_any c pc cc W h)
  rw [ec] at Fc
  simp only [fltV] at Fc
  have hkb : Pl.verCmp b a = 1 := by have h := Pl.verCmp_TO.anti a b trivial trivial; omega
  have KAB := Lib.hid (fun (W : World) (h : VIn W a pa ca) (h2 : VIn W b pb cb) => lcompare_any a b pa pb ca cb W h h2 oka okb)
  rw [hk] at KAB
  have KBA := Lib.hid (fun (W : World) (h : VIn W b pb cb) (h2 : VIn W a pa ca) => lcompare_any b a pb pa cb ca W h h2 okb oka)
  rw [hkb] at KBA
  have KBC := Lib.hid (fun (W : World) (h : VIn W b pb cb) (h2 : VIn W c pc cc) => lcompare_any b c pb pc cb cc W h h2 okb okc)
  rw [hl] at KBC
  have es : Pl.sameB a b = false := Pl.sameB_false fun e => by rw [(Pl.verCmp_TO.eq a b trivial trivial).2 e] at hk; cases hk
  have KS := Lib.hid (fun (W : World) (h : VIn W a pa ca) (h2 : VIn W b pb cb) => SameVersion_any a b pa pb ca cb W h h2)
  rw [es] at KS
  clear es hk hkb hl
  have KI := Lib.hid (fun (W : World) => lin_any (-1) (-1) 1 W)
  rw [show Pl.inB (-1) (-1) 1 = true by decide] at KI
  clear E ha hb hc ea eb ec
  go_enter Tryd.func6, Tryd.ntmps6
  have B0 : Below w.heap.size w w := Below.refl _ _
  go_wp2_with fail
  replace B0 := (B0.alloc B0.size (.cells #[.int .i64 a.maj, .int .i64 a.min, .int .i64 a.pat, .slice pa a.pre.length ca] 24))
  have XA : Blk ((w).alloc (.cells #[.int .i64 a.maj, .int .i64 a.min, .int .i64 a.pat, .slice pa a.pre.length ca] 24)) (w.heap.size) [.int .i64 a.maj, .int .i64 a.min, .int .i64 a.pat, .slice pa a.pre.length ca] := Blk.new (w) [.int .i64 a.maj, .int .i64 a.min, .int .i64 a.pat, .slice pa a.pre.length ca] 24 (g := w.heap.size) (by simp)
  replace B0 := (B0.alloc B0.size (.cells #[.int .i64 b.maj, .int .i64 b.min, .int .i64 b.pat, .slice pb b.pre.length cb] 24))
  replace XA := (XA.alloc (.cells #[.int .i64 b.maj, .int .i64 b.min, .int .i64 b.pat, .slice pb b.pre.length cb] 24))
  have XB : Blk (((w).alloc (.cells #[.int .i64 a.maj, .int .i64 a.min, .int .i64 a.pat, .slice pa a.pre.length ca] 24)).alloc (.cells #[.int .i64 b.maj, .int .i64 b.min, .int .i64 b.pat, .slice pb b.pre.length cb] 24)) (w.heap.size + 1) [.int .i64 b.maj, .int .i64 b.min, .int .i64 b.pat, .slice pb b.pre.length cb] := Blk.new ((w).alloc (.cells #[.int .i64 a.maj, .int .i64 a.min, .int .i64 a.pat, .slice pa a.pre.length ca] 24)) [.int .i64 b.maj, .int .i64 b.min, .int .i64 b.pat, .slice pb b.pre.length cb] 24 (g := w.heap.size + 1) (by simp)
  replace B0 := (B0.alloc B0.size (.cells #[.int .i64 c.maj, .int .i64 c.min, .int .i64 c.pat, .slice pc c.pre.length cc] 24))
  replace XA := (XA.alloc (.cells #[.int .i64 c.maj, .int .i64 c.min, .int .i64 c.pat, .slice pc c.pre.length cc] 24))
  replace XB := (XB.alloc (.cells #[.int .i64 c.maj, .int .i64 c.min, .int .i64 c.pat, .slice pc c.pre.length cc] 24))
  have XC : Blk ((((w).alloc (.cells #[.int .i64 a.maj, .int .i64 a.min, .int .i64 a.pat, .slice pa a.pre.length ca] 24)).alloc (.cells #[.int .i64 b.maj, .int .i64 b.min, .int .i64 b.pat, .slice pb b.pre.length cb] 24)).alloc (.cells #[.int .i64 c.maj, .int .i64 c.min, .int .i64 c.pat, .slice pc c.pre.length cc] 24)) (w.heap.size + 1 + 1) [.int .i64 c.maj, .int .i64 c.min, .int .i64 c.pat, .slice pc c.pre.length cc] := Blk.new (((w).alloc (.cells #[.int .i64 a.maj, .int .i64 a.min, .int .i64 a.pat, .slice pa a.pre.length ca] 24)).alloc (.cells #[.int .i64 b.maj, .int .i64 b.min, .int .i64 b.pat, .slice pb b.pre.length cb] 24)) [.int .i64 c.maj, .int .i64 c.min, .int .i64 c.pat, .slice pc c.pre.length cc] 24 (g := w.heap.size + 1 + 1) (by simp)
  refine (orders_any _ (HE.out.below B0 (Nat.le_refl _))).mono ?_
  rintro e w1 ⟨rfl, hb⟩
  have hk : Below ((((w).alloc (.cells #[.int .i64 a.maj, .int .i64 a.min, .int .i64 a.pat, .slice pa a.pre.length ca] 24)).alloc (.cells #[.int .i64 b.maj, .int .i64 b.min, .int .i64 b.pat, .slice pb b.pre.length cb] 24)).alloc (.cells #[.int .i64 c.maj, .int .i64 c.min, .int .i64 c.pat, .slice pc c.pre.length cc] 24)).heap.size ((((w).alloc (.cells #[.int .i64 a.maj, .int .i64 a.min, .int .i64 a.pat, .slice pa a.pre.length ca] 24)).alloc (.cells #[.int .i64 b.maj, .int .i64 b.min, .int .i64 b.pat, .slice pb b.pre.length cb] 24)).alloc (.cells #[.int .i64 c.maj, .int .i64 c.min, .int .i64 c.pat, .slice pc c.pre.length cc] 24)) w1 := hb
  have s1 : w.heap.size ≤ w1.heap.size := Nat.le_trans B0.size hk.size
  have q1 : w.heap.size + 3 ≤ w1.heap.size := by have z := hk.size; (try simp only [World.size_alloc] at z); omega
  have B1 : Below w.heap.size w w1 := bcall B0 hk B0.size
  replace XA := XA.below hk XA.lt
  replace XB := XB.below hk XB.lt
  replace XC := XC.below hk XC.lt
  clear B0 hk hb
  have XA_0 := XA.c 0 _ rfl
  have XA_1 := XA.c 1 _ rfl
  have XA_2 := XA.c 2 _ rfl
  have XA_3 := XA.c 3 _ rfl
  have XA_l := XA.lt
  have XB_0 := XB.c 0 _ rfl
  have XB_1 := XB.c 1 _ rfl
  have XB_2 := XB.c 2 _ rfl
  have XB_3 := XB.c 3 _ rfl
  have XB_l := XB.lt
  have XC_0 := XC.c 0 _ rfl
  have XC_1 := XC.c 1 _ rfl
  have XC_2 := XC.c 2 _ rfl
  have XC_3 := XC.c 3 _ rfl
  have XC_l := XC.lt
  go_wp2_with fail
  refine (Fa.out _ (HA.out.below B1 (Nat.le_refl _))).mono ?_
  rintro e w2 ⟨rfl, hb⟩
  have hk : Below (w1).heap.size (w1) w2 := hb
  have s2 : w.heap.size ≤ w2.heap.size := Nat.le_trans B1.size hk.size
  have q2 : w1.heap.size + 0 ≤ w2.heap.size := by have z := hk.size; (try simp only [World.size_alloc, World.size_setCell] at z); omega
  have B2 : Below w.heap.size w w2 := bcall B1 hk B1.size
  replace XA := XA.below hk XA.lt
  replace XB := XB.below hk XB.lt
  replace XC := XC.below hk XC.lt
  clear B1 hk hb
  clear XA_0 XA_1 XA_2 XA_3 XA_l XB_0 XB_1 XB_2 XB_3 XB_l XC_0 XC_1 XC_2 XC_3 XC_l
  have XA_0 := XA.c 0 _ rfl
  have XA_1 := XA.c 1 _ rfl
  have XA_2 := XA.c 2 _ rfl
  have XA_3 := XA.c 3 _ rfl
  have XA_l := XA.lt
  have XB_0 := XB.c 0 _ rfl
  have XB_1 := XB.c 1 _ rfl
  have XB_2 := XB.c 2 _ rfl
  have XB_3 := XB.c 3 _ rfl
  have XB_l := XB.lt
  have XC_0 := XC.c 0 _ rfl
  have XC_1 := XC.c 1 _ rfl
  have XC_2 := XC.c 2 _ rfl
  have XC_3 := XC.c 3 _ rfl
  have XC_l := XC.lt
  go_wp2_with fail
  refine (Fb.out _ (HB.out.below B2 (Nat.le_refl _))).mono ?_
  rintro e w3 ⟨rfl, hb⟩
  have hk : Below (w2).heap.size (w2) w3 := hb
  have s3 : w.heap.size ≤ w3.heap.size := Nat.le_trans B2.size hk.size
  have q3 : w2.heap.size + 0 ≤ w3.heap.size := by have z := hk.size; (try simp only [World.size_alloc, World.size_setCell] at z); omega
  have B3 : Below w.heap.size w w3 := bcall B2 hk B2.size
  replace XA := XA.below hk XA.lt
  replace XB := XB.below hk XB.lt
  replace XC := XC.below hk XC.lt
  clear B2 hk hb
  clear XA_0 XA_1 XA_2 XA_3 XA_l XB_0 XB_1 XB_2 XB_3 XB_l XC_0 XC_1 XC_2 XC_3 XC_l
  have XA_0 := XA.c 0 _ rfl
  have XA_1 := XA.c 1 _ rfl
  have XA_2 := XA.c 2 _ rfl
  have XA_3 := XA.c 3 _ rfl
  have XA_l := XA.lt
  have XB_0 := XB.c 0 _ rfl
  have XB_1 := XB.c 1 _ rfl
  have XB_2 := XB.c 2 _ rfl
  have XB_3 := XB.c 3 _ rfl
  have XB_l := XB.lt
  have XC_0 := XC.c 0 _ rfl
  have XC_1 := XC.c 1 _ rfl
  have XC_2 := XC.c 2 _ rfl
  have XC_3 := XC.c 3 _ rfl
  have XC_l := XC.lt
  go_wp2_with fail
  refine (Fc.out _ (HC.out.below B3 (Nat.le_refl _))).mono ?_
  rintro e w4 ⟨rfl, hb⟩
  have hk : Below (w3).heap.size (w3) w4 := hb
  have s4 : w.heap.size ≤ w4.heap.size := Nat.le_trans B3.size hk.size
  have q4 : w3.heap.size + 0 ≤ w4.heap.size := by have z := hk.size; (try simp only [World.size_alloc, World.size_setCell] at z); omega
  have B4 : Below w.heap.size w w4 := bcall B3 hk B3.size
  replace XA := XA.below hk XA.lt
  replace XB := XB.below hk XB.lt
  replace XC := XC.below hk XC.lt
  clear B3 hk hb
  clear XA_0 XA_1 XA_2 XA_3 XA_l XB_0 XB_1 XB_2 XB_3 XB_l XC_0 XC_1 XC_2 XC_3 XC_l
  have XA_0 := XA.c 0 _ rfl
  have XA_1 := XA.c 1 _ rfl
  have XA_2 := XA.c 2 _ rfl
  have XA_3 := XA.c 3 _ rfl
  have XA_l := XA.lt
  have XB_0 := XB.c 0 _ rfl
  have XB_1 := XB.c 1 _ rfl
  have XB_2 := XB.c 2 _ rfl
  have XB_3 := XB.c 3 _ rfl
  have XB_l := XB.lt
  have XC_0 := XC.c 0 _ rfl
  have XC_1 := XC.c 1 _ rfl
  have XC_2 := XC.c 2 _ rfl
  have XC_3 := XC.c 3 _ rfl
  have XC_l := XC.lt
  go_wp2_with fail
  refine (KAB.out _ (HA.out.below B4 (Nat.le_refl _)) (HB.out.below B4 (Nat.le_refl _))).mono ?_
  rintro e w5 ⟨rfl, hb⟩
  have hk : Below (w4).heap.size (w4) w5 := hb
  have s5 : w.heap.size ≤ w5.heap.size := Nat.le_trans B4.size hk.size
  have q5 : w4.heap.size + 0 ≤ w5.heap.size := by have z := hk.size; (try simp only [World.size_alloc, World.size_setCell] at z); omega
  have B5 : Below w.heap.size w w5 := bcall B4 hk B4.size
  replace XA := XA.below hk XA.lt
  replace XB := XB.below hk XB.lt
  replace XC := XC.below hk XC.lt
  clear B4 hk hb
  clear XA_0 XA_1 XA_2 XA_3 XA_l XB_0 XB_1 XB_2 XB_3 XB_l XC_0 XC_1 XC_2 XC_3 XC_l
  have XA_0 := XA.c 0 _ rfl
  have XA_1 := XA.c 1 _ rfl
  have XA_2 := XA.c 2 _ rfl
  have XA_3 := XA.c 3 _ rfl
  have XA_l := XA.lt
  have XB_0 := XB.c 0 _ rfl
  have XB_1 := XB.c 1 _ rfl
  have XB_2 := XB.c 2 _ rfl
  have XB_3 := XB.c 3 _ rfl
  have XB_l := XB.lt
  have XC_0 := XC.c 0 _ rfl
  have XC_1 := XC.c 1 _ rfl
  have XC_2 := XC.c 2 _ rfl
  have XC_3 := XC.c 3 _ rfl
  have XC_l := XC.lt
  go_wp2_with (go_at_call 23; refine (KI.out _).mono ?_; rintro e w' ⟨rfl, rfl⟩)
  refine (KBA.out _ (HB.out.below B5 (Nat.le_refl _)) (HA.out.below B5 (Nat.le_refl _))).mono ?_
  rintro e w6 ⟨rfl, hb⟩
  have hk : Below (w5).heap.size (w5) w6 := hb
  have s6 : w.heap.size ≤ w6.heap.size := Nat.le_trans B5.size hk.size
  have q6 : w5.heap.size + 0 ≤ w6.heap.size := by have z := hk.size; (try simp only [World.size_alloc, World.size_setCell] at z); omega
  have B6 : Below w.heap.size w w6 := bcall B5 hk B5.size
  replace XA := XA.below hk XA.lt
  replace XB := XB.below hk XB.lt
  replace XC := XC.below hk XC.lt
  clear B5 hk hb
  clear XA_0 XA_1 XA_2 XA_3 XA_l XB_0 XB_1 XB_2 XB_3 XB_l XC_0 XC_1 XC_2 XC_3 XC_l
  have XA_0 := XA.c 0 _ rfl
  have XA_1 := XA.c 1 _ rfl
  have XA_2 := XA.c 2 _ rfl
  have XA_3 := XA.c 3 _ rfl
  have XA_l := XA.lt
  have XB_0 := XB.c 0 _ rfl
  have XB_1 := XB.c 1 _ rfl
  have XB_2 := XB.c 2 _ rfl
  have XB_3 := XB.c 3 _ rfl
  have XB_l := XB.lt
  have XC_0 := XC.c 0 _ rfl
  have XC_1 := XC.c 1 _ rfl
  have XC_2 := XC.c 2 _ rfl
  have XC_3 := XC.c 3 _ rfl
  have XC_l := XC.lt
  go_wp2_with fail
  refine (KS.out _ (HA.out.below B6 (Nat.le_refl _)) (HB.out.below B6 (Nat.le_refl _))).mono ?_
  rintro e w7 ⟨rfl, hb⟩
  have hk : Below (w6).heap.size (w6) w7 := hb
  have s7 : w.heap.size ≤ w7.heap.size := Nat.le_trans B6.size hk.size
  have q7 : w6.heap.size + 0 ≤ w7.heap.size := by have z := hk.size; (try simp only [World.size_alloc, World.size_setCell] at z); omega
  have B7 : Below w.heap.size w w7 := bcall B6 hk B6.size
  replace XA := XA.below hk XA.lt
  replace XB := XB.below hk XB.lt
  replace XC := XC.below hk XC.lt
  clear B6 hk hb
  clear XA_0 XA_1 XA_2 XA_3 XA_l XB_0 XB_1 XB_2 XB_3 XB_l XC_0 XC_1 XC_2 XC_3 XC_l
  have XA_0 := XA.c 0 _ rfl
  have XA_1 := XA.c 1 _ rfl
  have XA_2 := XA.c 2 _ rfl
  have XA_3 := XA.c 3 _ rfl
  have XA_l := XA.lt
  have XB_0 := XB.c 0 _ rfl
  have XB_1 := XB.c 1 _ rfl
  have XB_2 := XB.c 2 _ rfl
  have XB_3 := XB.c 3 _ rfl
  have XB_l := XB.lt
  have XC_0 := XC.c 0 _ rfl
  have XC_1 := XC.c 1 _ rfl
  have XC_2 := XC.c 2 _ rfl
  have XC_3 := XC.c 3 _ rfl
  have XC_l := XC.lt
  go_wp2_with fail
  refine (KBC.out _ (HB.out.below B7 (Nat.le_refl _)) (HC.out.below B7 (Nat.le_refl _))).mono ?_
  rintro e w8 ⟨rfl, hb⟩
  have hk : Below (w7).heap.size (w7) w8 := hb
  have s8 : w.heap.size ≤ w8.heap.size := Nat.le_trans B7.size hk.size
  have q8 : w7.heap.size + 0 ≤ w8.heap.size := by have z := hk.size; (try simp only [World.size_alloc, World.size_setCell] at z); omega
  have B8 : Below w.heap.size w w8 := bcall B7 hk B7.size
  replace XA := XA.below hk XA.lt
  replace XB := XB.below hk XB.lt
  replace XC := XC.below hk XC.lt
  clear B7 hk hb
  clear XA_0 XA_1 XA_2 XA_3 XA_l XB_0 XB_1 XB_2 XB_3 XB_l XC_0 XC_1 XC_2 XC_3 XC_l
  have XA_0 := XA.c 0 _ rfl
  have XA_1 := XA.c 1 _ rfl
  have XA_2 := XA.c 2 _ rfl
  have XA_3 := XA.c 3 _ rfl
  have XA_l := XA.lt
  have XB_0 := XB.c 0 _ rfl
  have XB_1 := XB.c 1 _ rfl
  have XB_2 := XB.c 2 _ rfl
  have XB_3 := XB.c 3 _ rfl
  have XB_l := XB.lt
  have XC_0 := XC.c 0 _ rfl
  have XC_1 := XC.c 1 _ rfl
  have XC_2 := XC.c 2 _ rfl
  have XC_3 := XC.c 3 _ rfl
  have XC_l := XC.lt
  go_wp2_with fail
  go_ret
  exact ⟨rfl, B8⟩
set_option maxRecDepth 100000 in
set_option maxHeartbeats 4000000 in
theorem vot_r00 (a b c : Pl.Ver) (pa pb pc : Option Addr) (ca cb cc : Nat) (w : World) (E : Env w) (ha : VIn w a pa ca) (hb : VIn w b pb cb) (hc : VIn w c pc cc) (oka : a.Ok) (okb : b.Ok) (okc : c.Ok) (hk : Pl.verCmp a b = 0) (hl : Pl.verCmp b c = 0) (hm : Pl.verCmp a c = (-1)) :
    Calls Tryd.prog 6 #[verV a pa ca, verV b pb cb, verV c pc cc] w fun e w' => e = .returned (.bool true) ∧ Below w.heap.size w w' := by
  have HE := Lib.hid E
  have HA := Lib.hid ha
  have HB := Lib.hid hb
  have HC := Lib.hid hc
  have ea := Pl.vrF_ok oka
  have Fa := Lib.hid (fun (W : World) (h : VIn W a pa ca) => VersionFault_any a pa ca W h)
  rw [ea] at Fa
  simp only [fltV] at Fa
  have eb := Pl.vrF_ok okb
  have Fb := Lib.hid (fun (W : World) (h : VIn W b pb cb) => VersionFault_any b pb cb W h)
  rw [eb] at Fb
  simp only [fltV] at Fb
  have ec := Pl.vrF_ok okc
  have Fc := Lib.hid (fun (W : World) (h : VIn W c pc cc) => VersionFault_any c pc cc W h)
  rw [ec] at Fc
  simp only [fltV] at Fc
  have hkb : Pl.verCmp b a = 0 := by have h := Pl.verCmp_TO.anti a b trivial trivial; omega
  have KAB := Lib.hid (fun (W : World) (h : VIn W a pa ca) (h2 : VIn W b pb cb) => lcompare_any a b pa pb ca cb W h h2 oka okb)
  rw [hk] at KAB
  have KBA := Lib.hid (fun (W : World) (h : VIn W b pb cb) (h2 : VIn W a pa ca) => lcompare_any b a pb pa cb ca W h h2 okb oka)
  rw [hkb] at KBA
  have KBC := Lib.hid (fun (W : World) (h : VIn W b pb cb) (h2 : VIn W c pc cc) => lcompare_any b c pb pc cb cc W h h2 okb okc)
  rw [hl] at KBC
  have KAC := Lib.hid (fun (W : World) (h : VIn W a pa ca) (h2 : VIn W c pc cc) => lcompare_any a c pa pc ca cc W h h2 oka okc)
  rw [hm] at KAC
  have es : Pl.sameB a b = true := Pl.sameB_iff.2 ((Pl.verCmp_TO.eq a b trivial trivial).1 hk)
  have KS := Lib.hid (fun (W : World) (h : VIn W a pa ca) (h2 : VIn W b pb cb) => SameVersion_any a b pa pb ca cb W h h2)
  rw [es] at KS
  clear es hk hkb hl hm
  have KI := Lib.hid (fun (W : World) => lin_any 0 (-1) 1 W)
  rw [show Pl.inB 0 (-1) 1 = true by decide] at KI
  clear E ha hb hc ea eb ec
  go_enter Tryd.func6, Tryd.ntmps6
  have B0 : Below w.heap.size w w := Below.refl _ _
  go_wp2_with fail
  replace B0 := (B0.alloc B0.size (.cells #[.int .i64 a.maj, .int .i64 a.min, .int .i64 a.pat, .slice pa a.pre.length ca] 24))
  have XA : Blk ((w).alloc (.cells #[.int .i64 a.maj, .int .i64 a.min, .int .i64 a.pat, .slice pa a.pre.length ca] 24)) (w.heap.size) [.int .i64 a.maj, .int .i64 a.min, .int .i64 a.pat, .slice pa a.pre.length ca] := Blk.new (w) [.int .i64 a.maj, .int .i64 a.min, .int .i64 a.pat, .slice pa a.pre.length ca] 24 (g := w.heap.size) (by simp)
  replace B0 := (B0.alloc B0.size (.cells #[.int .i64 b.maj, .int .i64 b.min, .int .i64 b.pat, .slice pb b.pre.length cb] 24))
  replace XA := (XA.alloc (.cells #[.int .i64 b.maj, .int .i64 b.min, .int .i64 b.pat, .slice pb b.pre.length cb] 24))
  have XB : Blk (((w).alloc (.cells #[.int .i64 a.maj, .int .i64 a.min, .int .i64 a.pat, .slice pa a.pre.length ca] 24)).alloc (.cells #[.int .i64 b.maj, .int .i64 b.min, .int .i64 b.pat, .slice pb b.pre.length cb] 24)) (w.heap.size + 1) [.int .i64 b.maj, .int .i64 b.min, .int .i64 b.pat, .slice pb b.pre.length cb] := Blk.new ((w).alloc (.cells #[.int .i64 a.maj, .int .i64 a.min, .int .i64 a.pat, .slice pa a.pre.length ca] 24)) [.int .i64 b.maj, .int .i64 b.min, .int .i64 b.pat, .slice pb b.pre.length cb] 24 (g := w.heap.size + 1) (by simp)
  replace B0 := (B0.alloc B0.size (.cells #[.int .i64 c.maj, .int .i64 c.min, .int .i64 c.pat, .slice pc c.pre.length cc] 24))
  replace XA := (XA.alloc (.cells #[.int .i64 c.maj, .int .i64 c.min, .int .i64 c.pat, .slice pc c.pre.length cc] 24))
  replace XB := (XB.alloc (.cells #[.int .i64 c.maj, .int .i64 c.min, .int .i64 c.pat, .slice pc c.pre.length cc] 24))
  have XC : Blk ((((w).alloc (.cells #[.int .i64 a.maj, .int .i64 a.min, .int .i64 a.pat, .slice pa a.pre.length ca] 24)).alloc (.cells #[.int .i64 b.maj, .int .i64 b.min, .int .i64 b.pat, .slice pb b.pre.length cb] 24)).alloc (.cells #[.int .i64 c.maj, .int .i64 c.min, .int .i64 c.pat, .slice pc c.pre.length cc] 24)) (w.heap.size + 1 + 1) [.int .i64 c.maj, .int .i64 c.min, .int .i64 c.pat, .slice pc c.pre.length cc] := Blk.new (((w).alloc (.cells #[.int .i64 a.maj, .int .i64 a.min, .int .i64 a.pat, .slice pa a.pre.length ca] 24)).alloc (.cells #[.int .i64 b.maj, .int .i64 b.min, .int .i64 b.pat, .slice pb b.pre.length cb] 24)) [.int .i64 c.maj, .int .i64 c.min, .int .i64 c.pat, .slice pc c.pre.length cc] 24 (g := w.heap.size + 1 + 1) (by simp)
  refine (orders_any _ (HE.out.below B0 (Nat.le_refl _))).mono ?_
  rintro e w1 ⟨rfl, hb⟩
  have hk : Below ((((w).alloc (.cells #[.int .i64 a.maj, .int .i64 a.min, .int .i64 a.pat, .slice pa a.pre.length ca] 24)).alloc (.cells #[.int .i64 b.maj, .int .i64 b.min, .int .i64 b.pat, .slice pb b.pre.length cb] 24)).alloc (.cells #[.int .i64 c.maj, .int .i64 c.min, .int .i64 c.pat, .slice pc c.pre.length cc] 24)).heap.size ((((w).alloc (.cells #[.int .i64 a.maj, .int .i64 a.min, .int .i64 a.pat, .slice pa a.pre.length ca] 24)).alloc (.cells #[.int .i64 b.maj, .int .i64 b.min, .int .i64 b.pat, .slice pb b.pre.length cb] 24)).alloc (.cells #[.int .i64 c.maj, .int .i64 c.min, .int .i64 c.pat, .slice pc c.pre.length cc] 24)) w1 := hb
  have s1 : w.heap.size ≤ w1.heap.size := Nat.le_trans B0.size hk.size
  have q1 : w.heap.size + 3 ≤ w1.heap.size := by have z := hk.size; (try simp only [World.size_alloc] at z); omega
  have B1 : Below w.heap.size w w1 := bcall B0 hk B0.size
  replace XA := XA.below hk XA.lt
  replace XB := XB.below hk XB.lt
  replace XC := XC.below hk XC.lt
  clear B0 hk hb
  have XA_0 := XA.c 0 _ rfl
  have XA_1 := XA.c 1 _ rfl
  have XA_2 := XA.c 2 _ rfl
  have XA_3 := XA.c 3 _ rfl
  have XA_l := XA.lt
  have XB_0 := XB.c 0 _ rfl
  have XB_1 := XB.c 1 _ rfl
  have XB_2 := XB.c 2 _ rfl
  have XB_3 := XB.c 3 _ rfl
  have XB_l := XB.lt
  have XC_0 := XC.c 0 _ rfl
  have XC_1 := XC.c 1 _ rfl
  have XC_2 := XC.c 2 _ rfl
  have XC_3 := XC.c 3 _ rfl
  have XC_l := XC.lt
  go_wp2_with fail
  refine (Fa.out _ (HA.out.below B1 (Nat.le_refl _))).mono ?_
  rintro e w2 ⟨rfl, hb⟩
  have hk : Below (w1).heap.size (w1) w2 := hb
  have s2 : w.heap.size ≤ w2.heap.size := Nat.le_trans B1.size hk.size
  have q2 : w1.heap.size + 0 ≤ w2.heap.size := by have z := hk.size; (try simp only [World.size_alloc, World.size_setCell] at z); omega
  have B2 : Below w.heap.size w w2 := bcall B1 hk B1.size
  replace XA := XA.below hk XA.lt
  replace XB := XB.below hk XB.lt
  replace XC := XC.below hk XC.lt
  clear B1 hk hb
  clear XA_0 XA_1 XA_2 XA_3 XA_l XB_0 XB_1 XB_2 XB_3 XB_l XC_0 XC_1 XC_2 XC_3 XC_l
  have XA_0 := XA.c 0 _ rfl
  have XA_1 := XA.c 1 _ rfl
  have XA_2 := XA.c 2 _ rfl
  have XA_3 := XA.c 3 _ rfl
  have XA_l := XA.lt
  have XB_0 := XB.c 0 _ rfl
  have XB_1 := XB.c 1 _ rfl
  have XB_2 := XB.c 2 _ rfl
  have XB_3 := XB.c 3 _ rfl
  have XB_l := XB.lt
  have XC_0 := XC.c 0 _ rfl
  have XC_1 := XC.c 1 _ rfl
  have XC_2 := XC.c 2 _ rfl
  have XC_3 := XC.c 3 _ rfl
  have XC_l := XC.lt
  go_wp2_with fail
  refine (Fb.out _ (HB.out.below B2 (Nat.le_refl _))).mono ?_
  rintro e w3 ⟨rfl, hb⟩
  have hk : Below (w2).heap.size (w2) w3 := hb
  have s3 : w.heap.size ≤ w3.heap.size := Nat.le_trans B2.size hk.size
  have q3 : w2.heap.size + 0 ≤ w3.heap.size := by have z := hk.size; (try simp only [World.size_alloc, World.size_setCell] at z); omega
  have B3 : Below w.heap.size w w3 := bcall B2 hk B2.size
  replace XA := XA.below hk XA.lt
  replace XB := XB.below hk XB.lt
  replace XC := XC.below hk XC.lt
  clear B2 hk hb
  clear XA_0 XA_1 XA_2 XA_3 XA_l XB_0 XB_1 XB_2 XB_3 XB_l XC_0 XC_1 XC_2 XC_3 XC_l
  have XA_0 := XA.c 0 _ rfl
  have XA_1 := XA.c 1 _ rfl
  have XA_2 := XA.c 2 _ rfl
  have XA_3 := XA.c 3 _ rfl
  have XA_l := XA.lt
  have XB_0 := XB.c 0 _ rfl
  have XB_1 := XB.c 1 _ rfl
  have XB_2 := XB.c 2 _ rfl
  have XB_3 := XB.c 3 _ rfl
  have XB_l := XB.lt
  have XC_0 := XC.c 0 _ rfl
  have XC_1 := XC.c 1 _ rfl
  have XC_2 := XC.c 2 _ rfl
  have XC_3 := XC.c 3 _ rfl
  have XC_l := XC.lt
  go_wp2_with fail
  refine (Fc.out _ (HC.out.below B3 (Nat.le_refl _))).mono ?_
  rintro e w4 ⟨rfl, hb⟩
  have hk : Below (w3).heap.size (w3) w4 := hb
  have s4 : w.heap.size ≤ w4.heap.size := Nat.le_trans B3.size hk.size
  have q4 : w3.heap.size + 0 ≤ w4.heap.size := by have z := hk.size; (try simp only [World.size_alloc, World.size_setCell] at z); omega
  have B4 : Below w.heap.size w w4 := bcall B3 hk B3.size
  replace XA := XA.below hk XA.lt
  replace XB := XB.below hk XB.lt
  replace XC := XC.below hk XC.lt
  clear B3 hk hb
  clear XA_0 XA_1 XA_2 XA_3 XA_l XB_0 XB_1 XB_2 XB_3 XB_l XC_0 XC_1 XC_2 XC_3 XC_l
  have XA_0 := XA.c 0 _ rfl
  have XA_1 := XA.c 1 _ rfl
  have XA_2 := XA.c 2 _ rfl
  have XA_3 := XA.c 3 _ rfl
  have XA_l := XA.lt
  have XB_0 := XB.c 0 _ rfl
  have XB_1 := XB.c 1 _ rfl
  have XB_2 := XB.c 2 _ rfl
  have XB_3 := XB.c 3 _ rfl
  have XB_l := XB.lt
  have XC_0 := XC.c 0 _ rfl
  have XC_1 := XC.c 1 _ rfl
  have XC_2 := XC.c 2 _ rfl
  have XC_3 := XC.c 3 _ rfl
  have XC_l := XC.lt
  go_wp2_with fail
  refine (KAB.out _ (HA.out.below B4 (Nat.le_refl _)) (HB.out.below B4 (Nat.le_refl _))).mono ?_
  rintro e w5 ⟨rfl, hb⟩
  have hk : Below (w4).heap.size (w4) w5 := hb
  have s5 : w.heap.size ≤ w5.heap.size := Nat.le_trans B4.size hk.size
  have q5 : w4.heap.size + 0 ≤ w5.heap.size := by have z := hk.size; (try simp only [World.size_alloc, World.size_setCell] at z); omega
  have B5 : Below w.heap.size w w5 := bcall B4 hk B4.size
  replace XA := XA.below hk XA.lt
  replace XB := XB.below hk XB.lt
  replace XC := XC.below hk XC.lt
  clear B4 hk hb
  clear XA_0 XA_1 XA_2 XA_3 XA_l XB_0 XB_1 XB_2 XB_3 XB_l XC_0 XC_1 XC_2 XC_3 XC_l
  have XA_0 := XA.c 0 _ rfl
  have XA_1 := XA.c 1 _ rfl
  have XA_2 := XA.c 2 _ rfl
  have XA_3 := XA.c 3 _ rfl
  have XA_l := XA.lt
  have XB_0 := XB.c 0 _ rfl
  have XB_1 := XB.c 1 _ rfl
  have XB_2 := XB.c 2 _ rfl
  have XB_3 := XB.c 3 _ rfl
  have XB_l := XB.lt
  have XC_0 := XC.c 0 _ rfl
  have XC_1 := XC.c 1 _ rfl
  have XC_2 := XC.c 2 _ rfl
  have XC_3 := XC.c 3 _ rfl
  have XC_l := XC.lt
  go_wp2_with (go_at_call 23; refine (KI.out _).mono ?_; rintro e w' ⟨rfl, rfl⟩)
  refine (KBA.out _ (HB.out.below B5 (Nat.le_refl _)) (HA.out.below B5 (Nat.le_refl _))).mono ?_
  rintro e w6 ⟨rfl, hb⟩
  have hk : Below (w5).heap.size (w5) w6 := hb
  have s6 : w.heap.size ≤ w6.heap.size := Nat.le_trans B5.size hk.size
  have q6 : w5.heap.size + 0 ≤ w6.heap.size := by have z := hk.size; (try simp only [World.size_alloc, World.size_setCell] at z); omega
  have B6 : Below w.heap.size w w6 := bcall B5 hk B5.size
  replace XA := XA.below hk XA.lt
  replace XB := XB.below hk XB.lt
  replace XC := XC.below hk XC.lt
  clear B5 hk hb
  clear XA_0 XA_1 XA_2 XA_3 XA_l XB_0 XB_1 XB_2 XB_3 XB_l XC_0 XC_1 XC_2 XC_3 XC_l
  have XA_0 := XA.c 0 _ rfl
  have XA_1 := XA.c 1 _ rfl
  have XA_2 := XA.c 2 _ rfl
  have XA_3 := XA.c 3 _ rfl
  have XA_l := XA.lt
  have XB_0 := XB.c 0 _ rfl
  have XB_1 := XB.c 1 _ rfl
  have XB_2 := XB.c 2 _ rfl
  have XB_3 := XB.c 3 _ rfl
  have XB_l := XB.lt
  have XC_0 := XC.c 0 _ rfl
  have XC_1 := XC.c 1 _ rfl
  have XC_2 := XC.c 2 _ rfl
  have XC_3 := XC.c 3 _ rfl
  have XC_l := XC.lt
  go_wp2_with fail
  refine (KS.out _ (HA.out.below B6 (Nat.le_refl _)) (HB.out.below B6 (Nat.le_refl _))).mono ?_
  rintro e w7 ⟨rfl, hb⟩
  have hk : Below (w6).heap.size (w6) w7 := hb
  have s7 : w.heap.size ≤ w7.heap.size := Nat.le_trans B6.size hk.size
  have q7 : w6.heap.size + 0 ≤ w7.heap.size := by have z := hk.size; (try simp only [World.size_alloc, World.size_setCell] at z); omega
  have B7 : Below w.heap.size w w7 := bcall B6 hk B6.size
  replace XA := XA.below hk XA.lt
  replace XB := XB.below hk XB.lt
  replace XC := XC.below hk XC.lt
  clear B6 hk hb
  clear XA_0 XA_1 XA_2 XA_3 XA_l XB_0 XB_1 XB_2 XB_3 XB_l XC_0 XC_1 XC_2 XC_3 XC_l
  have XA_0 := XA.c 0 _ rfl
  have XA_1 := XA.c 1 _ rfl
  have XA_2 := XA.c 2 _ rfl
  have XA_3 := XA.c 3 _ rfl
  have XA_l := XA.lt
  have XB_0 := XB.c 0 _ rfl
  have XB_1 := XB.c 1 _ rfl
  have XB_2 := XB.c 2 _ rfl
  have XB_3 := XB.c 3 _ rfl
  have XB_l := XB.lt
  have XC_0 := XC.c 0 _ rfl
  have XC_1 := XC.c 1 _ rfl
  have XC_2 := XC.c 2 _ rfl
  have XC_3 := XC.c 3 _ rfl
  have XC_l := XC.lt
  go_wp2_with fail
  refine (KBC.out _ (HB.out.below B7 (Nat.le_refl _)) (HC.out.below B7 (Nat.le_refl _))).mono ?_
  rintro e w8 ⟨rfl, hb⟩
  have hk : Below (w7).heap.size (w7) w8 := hb
  have s8 : w.heap.size ≤ w8.heap.size := Nat.le_trans B7.size hk.size
  have q8 : w7.heap.size + 0 ≤ w8.heap.size := by have z := hk.size; (try simp only [World.size_alloc, World.size_setCell] at z); omega
  have B8 : Below w.heap.size w w8 := bcall B7 hk B7.size
  replace XA := XA.below hk XA.lt
  replace XB := XB.below hk XB.lt
  replace XC := XC.below hk XC.lt
  clear B7 hk hb
  clear XA_0 XA_1 XA_2 XA_3 XA_l XB_0 XB_1 XB_2 XB_3 XB_l XC_0 XC_1 XC_2 XC_3 XC_l
  have XA_0 := XA.c 0 _ rfl
  have XA_1 := XA.c 1 _ rfl
  have XA_2 := XA.c 2 _ rfl
  have XA_3 := XA.c 3 _ rfl
  have XA_l := XA.lt
  have XB_0 := XB.c 0 _ rfl
  have XB_1 := XB.c 1 _ rfl
  have XB_2 := XB.c 2 _ rfl
  have XB_3 := XB.c 3 _ rfl
  have XB_l := XB.lt
  have XC_0 := XC.c 0 _ rfl
  have XC_1 := XC.c 1 _ rfl
  have XC_2 := XC.c 2 _ rfl
  have XC_3 := XC.c 3 _ rfl
  have XC_l := XC.lt
  go_wp2_with fail
  refine (KAC.out _ (HA.out.below B8 (Nat.le_refl _)) (HC.out.below B8 (Nat.le_refl _))).mono ?_
  rintro e w9 ⟨rfl, hb⟩
  have hk : Below (w8).heap.size (w8) w9 := hb
  have s9 : w.heap.size ≤ w9.heap.size := Nat.le_trans B8.size hk.size
  have q9 : w8.heap.size + 0 ≤ w9.heap.size := by have z := hk.size; (try simp only [World.size_alloc, World.size_setCell] at z); omega
  have B9 : Below w.heap.size w w9 := bcall B8 hk B8.size
  replace XA := XA.below hk XA.lt
  replace XB := XB.below hk XB.lt
  replace XC := XC.below hk XC.lt
  clear B8 hk hb
  clear XA_0 XA_1 XA_2 XA_3 XA_l XB_0 XB_1 XB_2 XB_3 XB_l XC_0 XC_1 XC_2 XC_3 XC_l
  have XA_0 := XA.c 0 _ rfl
  have XA_1 := XA.c 1 _ rfl
  have XA_2 := XA.c 2 _ rfl
  have XA_3 := XA.c 3 _ rfl
  have XA_l := XA.lt
  have XB_0 := XB.c 0 _ rfl
  have XB_1 := XB.c 1 _ rfl
  have XB_2 := XB.c 2 _ rfl
  have XB_3 := XB.c 3 _ rfl
  have XB_l := XB.lt
  have XC_0 := XC.c 0 _ rfl
  have XC_1 := XC.c 1 _ rfl
  have XC_2 := XC.c 2 _ rfl
  have XC_3 := XC.c 3 _ rfl
  have XC_l := XC.lt
  go_wp2_with fail
  refine (KAC.out _ (HA.out.below B9 (Nat.le_refl _)) (HC.out.below B9 (Nat.le_refl _))).mono ?_
  rintro e w10 ⟨rfl, hb⟩
  have hk : Below (w9).heap.size (w9) w10 := hb
  have s10 : w.heap.size ≤ w10.heap.size := Nat.le_trans B9.size hk.size
  have q10 : w9.heap.size + 0 ≤ w10.heap.size := by have z := hk.size; (try simp only [World.size_alloc, World.size_setCell] at z); omega
  have B10 : Below w.heap.size w w10 := bcall B9 hk B9.size
  replace XA := XA.below hk XA.lt
  replace XB := XB.below hk XB.lt
  replace XC := XC.below hk XC.lt
  clear B9 hk hb
  clear XA_0 XA_1 XA_2 XA_3 XA_l XB_0 XB_1 XB_2 XB_3 XB_l XC_0 XC_1 XC_2 XC_3 XC_l
  have XA_0 := XA.c 0 _ rfl
  have XA_1 := XA.c 1 _ rfl
  have XA_2 := XA.c 2 _ rfl
  have XA_3 := XA.c 3 _ rfl
  have XA_l := XA.lt
  have XB_0 := XB.c 0 _ rfl
  have XB_1 := XB.c 1 _ rfl
  have XB_2 := XB.c 2 _ rfl
  have XB_3 := XB.c 3 _ rfl
  have XB_l := XB.lt
  have XC_0 := XC.c 0 _ rfl
  have XC_1 := XC.c 1 _ rfl
  have XC_2 := XC.c 2 _ rfl
  have XC_3 := XC.c 3 _ rfl
  have XC_l := XC.lt
  go_wp2_with fail
  go_ret
  exact ⟨rfl, B10⟩
set_option maxRecDepth 100000 in
set_option maxHeartbeats 4000000 in
theorem vot_r01 (a b c : Pl.Ver) (pa pb pc : Option Addr) (ca cb cc : Nat) (w : World) (E : Env w) (ha : VIn w a pa ca) (hb : VIn w b pb cb) (hc : VIn w c pc cc) (oka : a.Ok) (okb : b.Ok) (okc : c.Ok) (hk : Pl.verCmp a b = 0) (hl : Pl.verCmp b c = (-1)) (hm : Pl.verCmp a c = (-1)) :
    Calls Tryd.prog 6 #[verV a pa ca, verV b pb cb, verV c pc cc] w fun e w' => e = .returned (.bool true) ∧ Below w.heap.size w w' := by
  have HE := Lib.hid E
  have HA := Lib.hid ha
  have HB := Lib.hid hb
  have HC := Lib.hid hc
  have ea := Pl.vrF_ok oka
  have Fa := Lib.hid (fun (W : World) (h : VIn W a pa ca) => VersionFault_any a pa ca W h)
  rw [ea] at Fa
  simp only [fltV] at Fa
  have eb := Pl.vrF_ok okb
  have Fb := Lib.hid (fun (W : World) (h : VIn W b pb cb) => VersionFault_any b pb cb W h)
  rw [eb] at Fb
  simp only [fltV] at Fb
  have ec := Pl.vrF_ok okc
  have Fc := Lib.hid (fun (W : World) (h : VIn W c pc cc) => VersionFault_any c pc cc W h)
  rw [ec] at Fc
  simp only [fltV] at Fc
  have hkb : Pl.verCmp b a = 0 := by have h := Pl.verCmp_TO.anti a b trivial trivial; omega
  have KAB := Lib.hid (fun (W : World) (h : VIn W a pa ca) (h2 : VIn W b pb cb) => lcompare_any a b pa pb ca cb W h h2 oka okb)
  rw [hk] at KAB
  have KBA := Lib.hid (fun (W : World) (h : VIn W b pb cb) (h2 : VIn W a pa ca) => lcompare_any b a pb pa cb ca W h h2 okb oka)
  rw [hkb] at KBA
  have KBC := Lib.hid (fun (W : World) (h : VIn W b pb cb) (h2 : VIn W c pc cc) => lcompare_any b c pb pc cb cc W h h2 okb okc)
  rw [hl] at KBC
  have KAC := Lib.hid (fun (W : World) (h : VIn W a pa ca) (h2 : VIn W c pc cc) => lcompare_any a c pa pc ca cc W h h2 oka okc)
  rw [hm] at KAC
  have es : Pl.sameB a b = true := Pl.sameB_iff.2 ((Pl.verCmp_TO.eq a b trivial trivial).1 hk)
  have KS := Lib.hid (fun (W : World) (h : VIn W a pa ca) (h2 : VIn W b pb cb) => SameVersion_any a b pa pb ca cb W h h2)
  rw [es] at KS
  clear es hk hkb hl hm
  have KI := Lib.hid (fun (W : World) => lin_any 0 (-1) 1 W)
  rw [show Pl.inB 0 (-1) 1 = true by decide] at KI
  clear E ha hb hc ea eb ec
  go_enter Tryd.func6, Tryd.ntmps6
  have B0 : Below w.heap.size w w := Below.refl _ _
  go_wp2_with fail
  replace B0 := (B0.alloc B0.size (.cells #[.int .i64 a.maj, .int .i64 a.min, .int .i64 a.pat, .slice pa a.pre.length ca] 24))
  have XA : Blk ((w).alloc (.cells #[.int .i64 a.maj, .int .i64 a.min, .int .i64 a.pat, .slice pa a.pre.length ca] 24)) (w.heap.size) [.int .i64 a.maj, .int .i64 a.min, .int .i64 a.pat, .slice pa a.pre.length ca] := Blk.new (w) [.int .i64 a.maj, .int .i64 a.min, .int .i64 a.pat, .slice pa a.pre.length ca] 24 (g := w.heap.size) (by simp)
  replace B0 := (B0.alloc B0.size (.cells #[.int .i64 b.maj, .int .i64 b.min, .int .i64 b.pat, .slice pb b.pre.length cb] 24))
  replace XA := (XA.alloc (.cells #[.int .i64 b.maj, .int .i64 b.min, .int .i64 b.pat, .slice pb b.pre.length cb] 24))
  have XB : Blk (((w).alloc (.cells #[.int .i64 a.maj, .int .i64 a.min, .int .i64 a.pat, .slice pa a.pre.length ca] 24)).alloc (.cells #[.int .i64 b.maj, .int .i64 b.min, .int .i64 b.pat, .slice pb b.pre.length cb] 24)) (w.heap.size + 1) [.int .i64 b.maj, .int .i64 b.min, .int .i64 b.pat, .slice pb b.pre.length cb] := Blk.new ((w).alloc (.cells #[.int .i64 a.maj, .int .i64 a.min, .int .i64 a.pat, .slice pa a.pre.length ca] 24)) [.int .i64 b.maj, .int .i64 b.min, .int .i64 b.pat, .slice pb b.pre.length cb] 24 (g := w.heap.size + 1) (by simp)
  replace B0 := (B0.alloc B0.size (.cells #[.int .i64 c.maj, .int .i64 c.min, .int .i64 c.pat, .slice pc c.pre.length cc] 24))
  replace XA := (XA.alloc (.cells #[.int .i64 c.maj, .int .i64 c.min, .int .i64 c.pat, .slice pc c.pre.length cc] 24))
  replace XB := (XB.alloc (.cells #[.int .i64 c.maj, .int .i64 c.min, .int .i64 c.pat, .slice pc c.pre.length cc] 24))
  have XC : Blk ((((w).alloc (.cells #[.int .i64 a.maj, .int .i64 a.min, .int .i64 a.pat, .slice pa a.pre.length ca] 24)).alloc (.cells #[.int .i64 b.maj, .int .i64 b.min, .int .i64 b.pat, .slice pb b.pre.length cb] 24)).alloc (.cells #[.int .i64 c.maj, .int .i64 c.min, .int .i64 c.pat, .slice pc c.pre.length cc] 24)) (w.heap.size + 1 + 1) [.int .i64 c.maj, .int .i64 c.min, .int .i64 c.pat, .slice pc c.pre.length cc] := Blk.new (((w).alloc (.cells #[.int .i64 a.maj, .int .i64 a.min, .int .i64 a.pat, .slice pa a.pre.length ca] 24)).alloc (.cells #[.int .i64 b.maj, .int .i64 b.min, .int .i64 b.pat, .slice pb b.pre.length cb] 24)) [.int .i64 c.maj, .int .i64 c.min, .int .i64 c.pat, .slice pc c.pre.length cc] 24 (g := w.heap.size + 1 + 1) (by simp)
  refine (orders_any _ (HE.out.below B0 (Nat.le_refl _))).mono ?_
  rintro e w1 ⟨rfl, hb⟩
  have hk : Below ((((w).alloc (.cells #[.int .i64 a.maj, .int .i64 a.min, .int .i64 a.pat, .slice pa a.pre.length ca] 24)).alloc (.cells #[.int .i64 b.maj, .int .i64 b.min, .int .i64 b.pat, .slice pb b.pre.length cb] 24)).alloc (.cells #[.int .i64 c.maj, .int .i64 c.min, .int .i64 c.pat, .slice pc c.pre.length cc] 24)).heap.size ((((w).alloc (.cells #[.int .i64 a.maj, .int .i64 a.min, .int .i64 a.pat, .slice pa a.pre.length ca] 24)).alloc (.cells #[.int .i64 b.maj, .int .i64 b.min, .int .i64 b.pat, .slice pb b.pre.length cb] 24)).alloc (.cells #[.int .i64 c.maj, .int .i64 c.min, .int .i64 c.pat, .slice pc c.pre.length cc] 24)) w1 := hb
  have s1 : w.heap.size ≤ w1.heap.size := Nat.le_trans B0.size hk.size
  have q1 : w.heap.size + 3 ≤ w1.heap.size := by have z := hk.size; (try simp only [World.size_alloc] at z); omega
  have B1 : Below w.heap.size w w1 := bcall B0 hk B0.size
  replace XA := XA.below hk XA.lt
  replace XB := XB.below hk XB.lt
  replace XC := XC.below hk XC.lt
  clear B0 hk hb
  have XA_0 := XA.c 0 _ rfl
  have XA_1 := XA.c 1 _ rfl
  have XA_2 := XA.c 2 _ rfl
  have XA_3 := XA.c 3 _ rfl
  have XA_l := XA.lt
  have XB_0 := XB.c 0 _ rfl
  have XB_1 := XB.c 1 _ rfl
  have XB_2 := XB.c 2 _ rfl
  have XB_3 := XB.c 3 _ rfl
  have XB_l := XB.lt
  have XC_0 := XC.c 0 _ rfl
  have XC_1 := XC.c 1 _ rfl
  have XC_2 := XC.c 2 _ rfl
  have XC_3 := XC.c 3 _ rfl
  have XC_l := XC.lt
  go_wp2_with fail
  refine (Fa.out _ (HA.out.below B1 (Nat.le_refl _))).mono ?_
  rintro e w2 ⟨rfl, hb⟩
  have hk : Below (w1).heap.size (w1) w2 := hb
  have s2 : w.heap.size ≤ w2.heap.size := Nat.le_trans B1.size hk.size
  have q2 : w1.heap.size + 0 ≤ w2.heap.size := by have z := hk.size; (try simp only [World.size_alloc, World.size_setCell] at z); omega
  have B2 : Below w.heap.size w w2 := bcall B1 hk B1.size
  replace XA := XA.below hk XA.lt
  replace XB := XB.below hk XB.lt
  replace XC := XC.below hk XC.lt
  clear B1 hk hb
  clear XA_0 XA_1 XA_2 XA_3 XA_l XB_0 XB_1 XB_2 XB_3 XB_l XC_0 XC_1 XC_2 XC_3 XC_l
  have XA_0 := XA.c 0 _ rfl
  have XA_1 := XA.c 1 _ rfl
  have XA_2 := XA.c 2 _ rfl
  have XA_3 := XA.c 3 _ rfl
  have XA_l := XA.lt
  have XB_0 := XB.c 0 _ rfl
  have XB_1 := XB.c 1 _ rfl
  have XB_2 := XB.c 2 _ rfl
  have XB_3 := XB.c 3 _ rfl
  have XB_l := XB.lt
  have XC_0 := XC.c 0 _ rfl
  have XC_1 := XC.c 1 _ rfl
  have XC_2 := XC.c 2 _ rfl
  have XC_3 := XC.c 3 _ rfl
  have XC_l := XC.lt
  go_wp2_with fail
  refine (Fb.out _ (HB.out.below B2 (Nat.le_refl _))).mono ?_
  rintro e w3 ⟨rfl, hb⟩
  have hk : Below (w2).heap.size (w2) w3 := hb
  have s3 : w.heap.size ≤ w3.heap.size := Nat.le_trans B2.size hk.size
  have q3 : w2.heap.size + 0 ≤ w3.heap.size := by have z := hk.size; (try simp only [World.size_alloc, World.size_setCell] at z); omega
  have B3 : Below w.heap.size w w3 := bcall B2 hk B2.size
  replace XA := XA.below hk XA.lt
  replace XB := XB.below hk XB.lt
  replace XC := XC.below hk XC.lt
  clear B2 hk hb
  clear XA_0 XA_1 XA_2 XA_3 XA_l XB_0 XB_1 XB_2 XB_3 XB_l XC_0 XC_1 XC_2 XC_3 XC_l
  have XA_0 := XA.c 0 _ rfl
  have XA_1 := XA.c 1 _ rfl
  have XA_2 := XA.c 2 _ rfl
  have XA_3 := XA.c 3 _ rfl
  have XA_l := XA.lt
  have XB_0 := XB.c 0 _ rfl
  have XB_1 := XB.c 1 _ rfl
  have XB_2 := XB.c 2 _ rfl
  have XB_3 := XB.c 3 _ rfl
  have XB_l := XB.lt
  have XC_0 := XC.c 0 _ rfl
  have XC_1 := XC.c 1 _ rfl
  have XC_2 := XC.c 2 _ rfl
  have XC_3 := XC.c 3 _ rfl
  have XC_l := XC.lt
  go_wp2_with fail
  refine (Fc.out _ (HC.out.below B3 (Nat.le_refl _))).mono ?_
  rintro e w4 ⟨rfl, hb⟩
  have hk : Below (w3).heap.size (w3) w4 := hb
  have s4 : w.heap.size ≤ w4.heap.size := Nat.le_trans B3.size hk.size
  have q4 : w3.heap.size + 0 ≤ w4.heap.size := by have z := hk.size; (try simp only [World.size_alloc, World.size_setCell] at z); omega
  have B4 : Below w.heap.size w w4 := bcall B3 hk B3.size
  replace XA := XA.below hk XA.lt
  replace XB := XB.below hk XB.lt
  replace XC := XC.below hk XC.lt
  clear B3 hk hb
  clear XA_0 XA_1 XA_2 XA_3 XA_l XB_0 XB_1 XB_2 XB_3 XB_l XC_0 XC_1 XC_2 XC_3 XC_l
  have XA_0 := XA.c 0 _ rfl
  have XA_1 := XA.c 1 _ rfl
  have XA_2 := XA.c 2 _ rfl
  have XA_3 := XA.c 3 _ rfl
  have XA_l := XA.lt
  have XB_0 := XB.c 0 _ rfl
  have XB_1 := XB.c 1 _ rfl
  have XB_2 := XB.c 2 _ rfl
  have XB_3 := XB.c 3 _ rfl
  have XB_l := XB.lt
  have XC_0 := XC.c 0 _ rfl
  have XC_1 := XC.c 1 _ rfl
  have XC_2 := XC.c 2 _ rfl
  have XC_3 := XC.c 3 _ rfl
  have XC_l := XC.lt
  go_wp2_with fail
  refine (KAB.out _ (HA.out.below B4 (Nat.le_refl _)) (HB.out.below B4 (Nat.le_refl _))).mono ?_
  rintro e w5 ⟨rfl, hb⟩
  have hk : Below (w4).heap.size (w4) w5 := hb
  have s5 : w.heap.size ≤ w5.heap.size := Nat.le_trans B4.size hk.size
  have q5 : w4.heap.size + 0 ≤ w5.heap.size := by have z := hk.size; (try simp only [World.size_alloc, World.size_setCell] at z); omega
  have B5 : Below w.heap.size w w5 := bcall B4 hk B4.size
  replace XA := XA.below hk XA.lt
  replace XB := XB.below hk XB.lt
  replace XC := XC.below hk XC.lt
  clear B4 hk hb
  clear XA_0 XA_1 XA_2 XA_3 XA_l XB_0 XB_1 XB_2 XB_3 XB_l XC_0 XC_1 XC_2 XC_3 XC_l
  have XA_0 := XA.c 0 _ rfl
  have XA_1 := XA.c 1 _ rfl
  have XA_2 := XA.c 2 _ rfl
  have XA_3 := XA.c 3 _ rfl
  have XA_l := XA.lt
  have XB_0 := XB.c 0 _ rfl
  have XB_1 := XB.c 1 _ rfl
  have XB_2 := XB.c 2 _ rfl
  have XB_3 := XB.c 3 _ rfl
  have XB_l := XB.lt
  have XC_0 := XC.c 0 _ rfl
  have XC_1 := XC.c 1 _ rfl
  have XC_2 := XC.c 2 _ rfl
  have XC_3 := XC.c 3 _ rfl
  have XC_l := XC.lt
  go_wp2_with (go_at_call 23; refine (KI.out _).mono ?_; rintro e w' ⟨rfl, rfl⟩)
  refine (KBA.out _ (HB.out.below B5 (Nat.le_refl _)) (HA.out.below B5 (Nat.le_refl _))).mono ?_
  rintro e w6 ⟨rfl, hb⟩
  have hk : Below (w5).heap.size (w5) w6 := hb
  have s6 : w.heap.size ≤ w6.heap.size := Nat.le_trans B5.size hk.size
  have q6 : w5.heap.size + 0 ≤ w6.heap.size := by have z := hk.size; (try simp only [World.size_alloc, World.size_setCell] at z); omega
  have B6 : Below w.heap.size w w6 := bcall B5 hk B5.size
  replace XA := XA.below hk XA.lt
  replace XB := XB.below hk XB.lt
  replace XC := XC.below hk XC.lt
  clear B5 hk hb
  clear XA_0 XA_1 XA_2 XA_3 XA_l XB_0 XB_1 XB_2 XB_3 XB_l XC_0 XC_1 XC_2 XC_3 XC_l
  have XA_0 := XA.c 0 _ rfl
  have XA_1 := XA.c 1 _ rfl
  have XA_2 := XA.c 2 _ rfl
  have XA_3 := XA.c 3 _ rfl
  have XA_l := XA.lt
  have XB_0 := XB.c 0 _ rfl
  have XB_1 := XB.c 1 _ rfl
  have XB_2 := XB.c 2 _ rfl
  have XB_3 := XB.c 3 _ rfl
  have XB_l := XB.lt
  have XC_0 := XC.c 0 _ rfl
  have XC_1 := XC.c 1 _ rfl
  have XC_2 := XC.c 2 _ rfl
  have XC_3 := XC.c 3 _ rfl
  have XC_l := XC.lt
  go_wp2_with fail
  refine (KS.out _ (HA.out.below B6 (Nat.le_refl _)) (HB.out.below B6 (Nat.le_refl _))).mono ?_
  rintro e w7 ⟨rfl, hb⟩
  have hk : Below (w6).heap.size (w6) w7 := hb
  have s7 : w.heap.size ≤ w7.heap.size := Nat.le_trans B6.size hk.size
  have q7 : w6.heap.size + 0 ≤ w7.heap.size := by have z := hk.size; (try simp only [World.size_alloc, World.size_setCell] at z); omega
  have B7 : Below w.heap.size w w7 := bcall B6 hk B6.size
  replace XA := XA.below hk XA.lt
  replace XB := XB.below hk XB.lt
  replace XC := XC.below hk XC.lt
  clear B6 hk hb
  clear XA_0 XA_1 XA_2 XA_3 XA_l XB_0 XB_1 XB_2 XB_3 XB_l XC_0 XC_1 XC_2 XC_3 XC_l
  have XA_0 := XA.c 0 _ rfl
  have XA_1 := XA.c 1 _ rfl
  have XA_2 := XA.c 2 _ rfl
  have XA_3 := XA.c 3 _ rfl
  have XA_l := XA.lt
  have XB_0 := XB.c 0 _ rfl
  have XB_1 := XB.c 1 _ rfl
  have XB_2 := XB.c 2 _ rfl
  have XB_3 := XB.c 3 _ rfl
  have XB_l := XB.lt
  have XC_0 := XC.c 0 _ rfl
  have XC_1 := XC.c 1 _ rfl
  have XC_2 := XC.c 2 _ rfl
  have XC_3 := XC.c 3 _ rfl
  have XC_l := XC.lt
  go_wp2_with fail
  refine (KBC.out _ (HB.out.below B7 (Nat.le_refl _)) (HC.out.below B7 (Nat.le_refl _))).mono ?_
  rintro e w8 ⟨rfl, hb⟩
  have hk : Below (w7).heap.size (w7) w8 := hb
  have s8 : w.heap.size ≤ w8.heap.size := Nat.le_trans B7.size hk.size
  have q8 : w7.heap.size + 0 ≤ w8.heap.size := by have z := hk.size; (try simp only [World.size_alloc, World.size_setCell] at z); omega
  have B8 : Below w.heap.size w w8 := bcall B7 hk B7.size
  replace XA := XA.below hk XA.lt
  replace XB := XB.below hk XB.lt
  replace XC := XC.below hk XC.lt
  clear B7 hk hb
  clear XA_0 XA_1 XA_2 XA_3 XA_l XB_0 XB_1 XB_2 XB_3 XB_l XC_0 XC_1 XC_2 XC_3 XC_l
  have XA_0 := XA.c 0 _ rfl
  have XA_1 := XA.c 1 _ rfl
  have XA_2 := XA.c 2 _ rfl
  have XA_3 := XA.c 3 _ rfl
  have XA_l := XA.lt
  have XB_0 := XB.c 0 _ rfl
  have XB_1 := XB.c 1 _ rfl
  have XB_2 := XB.c 2 _ rfl
  have XB_3 := XB.c 3 _ rfl
  have XB_l := XB.lt
  have XC_0 := XC.c 0 _ rfl
  have XC_1 := XC.c 1 _ rfl
  have XC_2 := XC.c 2 _ rfl
  have XC_3 := XC.c 3 _ rfl
  have XC_l := XC.lt
  go_wp2_with fail
  refine (KAC.out _ (HA.out.below B8 (Nat.le_refl _)) (HC.out.below B8 (Nat.le_refl _))).mono ?_
  rintro e w9 ⟨rfl, hb⟩
  have hk : Below (w8).heap.size (w8) w9 := hb
  have s9 : w.heap.size ≤ w9.heap.size := Nat.le_trans B8.size hk.size
  have q9 : w8.heap.size + 0 ≤ w9.heap.size := by have z := hk.size; (try simp only [World.size_alloc, World.size_setCell] at z); omega
  have B9 : Below w.heap.size w w9 := bcall B8 hk B8.size
  replace XA := XA.below hk XA.lt
  replace XB := XB.below hk XB.lt
  replace XC := XC.below hk XC.lt
  clear B8 hk hb
  clear XA_0 XA_1 XA_2 XA_3 XA_l XB_0 XB_1 XB_2 XB_3 XB_l XC_0 XC_1 XC_2 XC_3 XC_l
  have XA_0 := XA.c 0 _ rfl
  have XA_1 := XA.c 1 _ rfl
  have XA_2 := XA.c 2 _ rfl
  have XA_3 := XA.c 3 _ rfl
  have XA_l := XA.lt
  have XB_0 := XB.c 0 _ rfl
  have XB_1 := XB.c 1 _ rfl
  have XB_2 := XB.c 2 _ rfl
  have XB_3 := XB.c 3 _ rfl
  have XB_l := XB.lt
  have XC_0 := XC.c 0 _ rfl
  have XC_1 := XC.c 1 _ rfl
  have XC_2 := XC.c 2 _ rfl
  have XC_3 := XC.c 3 _ rfl
  have XC_l := XC.lt
  go_wp2_with fail
  refine (KAC.out _ (HA.out.below B9 (Nat.le_refl _)) (HC.out.below B9 (Nat.le_refl _))).mono ?_
  rintro e w10 ⟨rfl, hb⟩
  have hk : Below (w9).heap.size (w9) w10 := hb
  have s10 : w.heap.size ≤ w10.heap.size := Nat.le_trans B9.size hk.size
  have q10 : w9.heap.size + 0 ≤ w10.heap.size := by have z := hk.size; (try simp only [World.size_alloc, World.size_setCell] at z); omega
  have B10 : Below w.heap.size w w10 := bcall B9 hk B9.size
  replace XA := XA.below hk XA.lt
  replace XB := XB.below hk XB.lt
  replace XC := XC.below hk XC.lt
  clear B9 hk hb
  clear XA_0 XA_1 XA_2 XA_3 XA_l XB_0 XB_1 XB_2 XB_3 XB_l XC_0 XC_1 XC_2 XC_3 XC_l
  have XA_0 := XA.c 0 _ rfl
  have XA_1 := XA.c 1 _ rfl
  have XA_2 := XA.c 2 _ rfl
  have XA_3 := XA.c 3 _ rfl
  have XA_l := XA.lt
  have XB_0 := XB.c 0 _ rfl
  have XB_1 := XB.c 1 _ rfl
  have XB_2 := XB.c 2 _ rfl
  have XB_3 := XB.c 3 _ rfl
  have XB_l := XB.lt
  have XC_0 := XC.c 0 _ rfl
  have XC_1 := XC.c 1 _ rfl
  have XC_2 := XC.c 2 _ rfl
  have XC_3 := XC.c 3 _ rfl
  have XC_l := XC.lt
  go_wp2_with fail
  go_ret
  exact ⟨rfl, B10⟩
set_option maxRecDepth 100000 in
set_option maxHeartbeats 4000000 in
theorem vot_r10 (a b c : Pl.Ver) (pa pb pc : Option Addr) (ca cb cc : Nat) (w : World) (E : Env w) (ha : VIn w a pa ca) (hb : VIn w b pb cb) (hc : VIn w c pc cc) (oka : a.Ok) (okb : b.Ok) (okc : c.Ok) (hk : Pl.verCmp a b = (-1)) (hl : Pl.verCmp b c = 0) (hm : Pl.verCmp a c = (-1)) :
    Calls Tryd.prog 6 #[verV a pa ca, verV b pb cb, verV c pc cc] w fun e w' => e = .returned (.bool true) ∧ Below w.heap.size w w' := by
  have HE := Lib.hid E
  have HA := Lib.hid ha
  have HB := Lib.hid hb
  have HC := Lib.hid hc
  have ea := Pl.vrF_ok oka
  have Fa := Lib.hid (fun (W : World) (h : VIn W a pa ca) => VersionFault_any a pa ca W h)
  rw [ea] at Fa
  simp only [fltV] at Fa
  have eb := Pl.vrF_ok okb
  have Fb := Lib.hid (fun (W : World) (h : VIn W b pb cb) => VersionFault_any b pb cb W h)
  rw [eb] at Fb
  simp only [fltV] at Fb
  have ec := Pl.vrF_ok okc
  have Fc := Lib.hid (fun (W : World) (h : VIn W c pc cc) => VersionFault_any c pc cc W h)
  rw [ec] at Fc
  simp only [fltV] at Fc
  have hkb : Pl.verCmp b a = 1 := by have h := Pl.verCmp_TO.anti a b trivial trivial; omega
  have KAB := Lib.hid (fun (W : World) (h : VIn W a pa ca) (h2 : VIn W b pb cb) => lcompare_any a b pa pb ca cb W h h2 oka okb)
  rw [hk] at KAB
  have KBA := Lib.hid (fun (W : World) (h : VIn W b pb cb) (h2 : VIn W a pa ca) => lcompare_any b a pb pa cb ca W h h2 okb oka)
  rw [hkb] at KBA
  have KBC := Lib.hid (fun (W : World) (h : VIn W b pb cb) (h2 : VIn W c pc cc) => lcompare_any b c pb pc cb cc W h h2 okb okc)
  rw [hl] at KBC
  have KAC := Lib.hid (fun (W : World) (h : VIn W a pa ca) (h2 : VIn W c pc cc) => lcompare_any a c pa pc ca cc W h h2 oka okc)
  rw [hm] at KAC
  have es : Pl.sameB a b = false := Pl.sameB_false fun e => by rw [(Pl.verCmp_TO.eq a b trivial trivial).2 e] at hk; cases hk
  have KS := Lib.hid (fun (W : World) (h : VIn W a pa ca) (h2 : VIn W b pb cb) => SameVersion_any a b pa pb ca cb W h h2)
  rw [es] at KS
  clear es hk hkb hl hm
  have KI := Lib.hid (fun (W : World) => lin_any (-1) (-1) 1 W)
  rw [show Pl.inB (-1) (-1) 1 = true by decide] at KI
  clear E ha hb hc ea eb ec
  go_enter Tryd.func6, Tryd.ntmps6
  have B0 : Below w.heap.size w w := Below.refl _ _
  go_wp2_with fail
  replace B0 := (B0.alloc B0.size (.cells #[.int .i64 a.maj, .int .i64 a.min, .int .i64 a.pat, .slice pa a.pre.length ca] 24))
  have XA : Blk ((w).alloc (.cells #[.int .i64 a.maj, .int .i64 a.min, .int .i64 a.pat, .slice pa a.pre.length ca] 24)) (w.heap.size) [.int .i64 a.maj, .int .i64 a.min, .int .i64 a.pat, .slice pa a.pre.length ca] := Blk.new (w) [.int .i64 a.maj, .int .i64 a.min, .int .i64 a.pat, .slice pa a.pre.length ca] 24 (g := w.heap.size) (by simp)
  replace B0 := (B0.alloc B0.size (.cells #[.int .i64 b.maj, .int .i64 b.min, .int .i64 b.pat, .slice pb b.pre.length cb] 24))
  replace XA := (XA.alloc (.cells #[.int .i64 b.maj, .int .i64 b.min, .int .i64 b.pat, .slice pb b.pre.length cb] 24))
  have XB : Blk (((w).alloc (.cells #[.int .i64 a.maj, .int .i64 a.min, .int .i64 a.pat, .slice pa a.pre.length ca] 24)).alloc (.cells #[.int .i64 b.maj, .int .i64 b.min, .int .i64 b.pat, .slice pb b.pre.length cb] 24)) (w.heap.size + 1) [.int .i64 b.maj, .int .i64 b.min, .int .i64 b.pat, .slice pb b.pre.length cb] := Blk.new ((w).alloc (.cells #[.int .i64 a.maj, .int .i64 a.min, .int .i64 a.pat, .slice pa a.pre.length ca] 24)) [.int .i64 b.maj, .int .i64 b.min, .int .i64 b.pat, .slice pb b.pre.length cb] 24 (g := w.heap.size + 1) (by simp)
  replace B0 := (B0.alloc B0.size (.cells #[.int .i64 c.maj, .int .i64 c.min, .int .i64 c.pat, .slice pc c.pre.length cc] 24))
  replace XA := (XA.alloc (.cells #[.int .i64 c.maj, .int .i64 c.min, .int .i64 c.pat, .slice pc c.pre.length cc] 24))
  replace XB := (XB.alloc (.cells #[.int .i64 c.maj, .int .i64 c.min, .int .i64 c.pat, .slice pc c.pre.length cc] 24))
  have XC : Blk ((((w).alloc (.cells #[.int .i64 a.maj, .int .i64 a.min, .int .i64 a.pat, .slice pa a.pre.length ca] 24)).alloc (.cells #[.int .i64 b.maj, .int .i64 b.min, .int .i64 b.pat, .slice pb b.pre.length cb] 24)).alloc (.cells #[.int .i64 c.maj, .int .i64 c.min, .int .i64 c.pat, .slice pc c.pre.length cc] 24)) (w.heap.size + 1 + 1) [.int .i64 c.maj, .int .i64 c.min, .int .i64 c.pat, .slice pc c.pre.length cc] := Blk.new (((w).alloc (.cells #[.int .i64 a.maj, .int .i64 a.min, .int .i64 a.pat, .slice pa a.pre.length ca] 24)).alloc (.cells #[.int .i64 b.maj, .int .i64 b.min, .int .i64 b.pat, .slice pb b.pre.length cb] 24)) [.int .i64 c.maj, .int .i64 c.min, .int .i64 c.pat, .slice pc c.pre.length cc] 24 (g := w.heap.size + 1 + 1) (by simp)
  refine (orders_any _ (HE.out.below B0 (Nat.le_refl _))).mono ?_
  rintro e w1 ⟨rfl, hb⟩
  have hk : Below ((((w).alloc (.cells #[.int .i64 a.maj, .int .i64 a.min, .int .i64 a.pat, .slice pa a.pre.length ca] 24)).alloc (.cells #[.int .i64 b.maj, .int .i64 b.min, .int .i64 b.pat, .slice pb b.pre.length cb] 24)).alloc (.cells #[.int .i64 c.maj, .int .i64 c.min, .int .i64 c.pat, .slice pc c.pre.length cc] 24)).heap.size ((((w).alloc (.cells #[.int .i64 a.maj, .int .i64 a.min, .int .i64 a.pat, .slice pa a.pre.length ca] 24)).alloc (.cells #[.int .i64 b.maj, .int .i64 b.min, .int .i64 b.pat, .slice pb b.pre.length cb] 24)).alloc (.cells #[.int .i64 c.maj, .int .i64 c.min, .int .i64 c.pat, .slice pc c.pre.length cc] 24)) w1 := hb
  have s1 : w.heap.size ≤ w1.heap.size := Nat.le_trans B0.size hk.size
  have q1 : w.heap.size + 3 ≤ w1.heap.size := by have z := hk.size; (try simp only [World.size_alloc] at z); omega
  have B1 : Below w.heap.size w w1 := bcall B0 hk B0.size
  replace XA := XA.below hk XA.lt
  replace XB := XB.below hk XB.lt
  replace XC := XC.below hk XC.lt
  clear B0 hk hb
  have XA_0 := XA.c 0 _ rfl
  have XA_1 := XA.c 1 _ rfl
  have XA_2 := XA.c 2 _ rfl
  have XA_3 := XA.c 3 _ rfl
  have XA_l := XA.lt
  have XB_0 := XB.c 0 _ rfl
  have XB_1 := XB.c 1 _ rfl
  have XB_2 := XB.c 2 _ rfl
  have XB_3 := XB.c 3 _ rfl
  have XB_l := XB.lt
  have XC_0 := XC.c 0 _ rfl
  have XC_1 := XC.c 1 _ rfl
  have XC_2 := XC.c 2 _ rfl
  have XC_3 := XC.c 3 _ rfl
  have XC_l := XC.lt
  go_wp2_with fail
  refine (Fa.out _ (HA.out.below B1 (Nat.le_refl _))).mono ?_
  rintro e w2 ⟨rfl, hb⟩
  have hk : Below (w1).heap.size (w1) w2 := hb
  have s2 : w.heap.size ≤ w2.heap.size := Nat.le_trans B1.size hk.size
  have q2 : w1.heap.size + 0 ≤ w2.heap.size := by have z := hk.size; (try simp only [World.size_alloc, World.size_setCell] at z); omega
  have B2 : Below w.heap.size w w2 := bcall B1 hk B1.size
  replace XA := XA.below hk XA.lt
  replace XB := XB.below hk XB.lt
  replace XC := XC.below hk XC.lt
  clear B1 hk hb
  clear XA_0 XA_1 XA_2 XA_3 XA_l XB_0 XB_1 XB_2 XB_3 XB_l XC_0 XC_1 XC_2 XC_3 XC_l
  have XA_0 := XA.c 0 _ rfl
  have XA_1 := XA.c 1 _ rfl
  have XA_2 := XA.c 2 _ rfl
  have XA_3 := XA.c 3 _ rfl
  have XA_l := XA.lt
  have XB_0 := XB.c 0 _ rfl
  have XB_1 := XB.c 1 _ rfl
  have XB_2 := XB.c 2 _ rfl
  have XB_3 := XB.c 3 _ rfl
  have XB_l := XB.lt
  have XC_0 := XC.c 0 _ rfl
  have XC_1 := XC.c 1 _ rfl
  have XC_2 := XC.c 2 _ rfl
  have XC_3 := XC.c 3 _ rfl
  have XC_l := XC.lt
  go_wp2_with fail
  refine (Fb.out _ (HB.out.below B2 (Nat.le_refl _))).mono ?_
  rintro e w3 ⟨rfl, hb⟩
  have hk : Below (w2).heap.size (w2) w3 := hb
  have s3 : w.heap.size ≤ w3.heap.size := Nat.le_trans B2.size hk.size
  have q3 : w2.heap.size + 0 ≤ w3.heap.size := by have z := hk.size; (try simp only [World.size_alloc, World.size_setCell] at z); omega
  have B3 : Below w.heap.size w w3 := bcall B2 hk B2.size
  replace XA := XA.below hk XA.lt
  replace XB := XB.below hk XB.lt
  replace XC := XC.below hk XC.lt
  clear B2 hk hb
  clear XA_0 XA_1 XA_2 XA_3 XA_l XB_0 XB_1 XB_2 XB_3 XB_l XC_0 XC_1 XC_2 XC_3 XC_l
  have XA_0 := XA.c 0 _ rfl
  have XA_1 := XA.c 1 _ rfl
  have XA_2 := XA.c 2 _ rfl
  have XA_3 := XA.c 3 _ rfl
  have XA_l := XA.lt
  have XB_0 := XB.c 0 _ rfl
  have XB_1 := XB.c 1 _ rfl
  have XB_2 := XB.c 2 _ rfl
  have XB_3 := XB.c 3 _ rfl
  have XB_l := XB.lt
  have XC_0 := XC.c 0 _ rfl
  have XC_1 := XC.c 1 _ rfl
  have XC_2 := XC.c 2 _ rfl
  have XC_3 := XC.c 3 _ rfl
  have XC_l := XC.lt
  go_wp2_with fail
  refine (Fc.out _ (HC.out.below B3 (Nat.le_refl _))).mono ?_
  rintro e w4 ⟨rfl, hb⟩
  have hk : Below (w3).heap.size (w3) w4 := hb
  have s4 : w.heap.size ≤ w4.heap.size := Nat.le_trans B3.size hk.size
  have q4 : w3.heap.size + 0 ≤ w4.heap.size := by have z := hk.size; (try simp only [World.size_alloc, World.size_setCell] at z); omega
  have B4 : Below w.heap.size w w4 := bcall B3 hk B3.size
  replace XA := XA.below hk XA.lt
  replace XB := XB.below hk XB.lt
  replace XC := XC.below hk XC.lt
  clear B3 hk hb
  clear XA_0 XA_1 XA_2 XA_3 XA_l XB_0 XB_1 XB_2 XB_3 XB_l XC_0 XC_1 XC_2 XC_3 XC_l
  have XA_0 := XA.c 0 _ rfl
  have XA_1 := XA.c 1 _ rfl
  have XA_2 := XA.c 2 _ rfl
  have XA_3 := XA.c 3 _ rfl
  have XA_l := XA.lt
  have XB_0 := XB.c 0 _ rfl
  have XB_1 := XB.c 1 _ rfl
  have XB_2 := XB.c 2 _ rfl
  have XB_3 := XB.c 3 _ rfl
  have XB_l := XB.lt
  have XC_0 := XC.c 0 _ rfl
  have XC_1 := XC.c 1 _ rfl
  have XC_2 := XC.c 2 _ rfl
  have XC_3 := XC.c 3 _ rfl
  have XC_l := XC.lt
  go_wp2_with fail
  refine (KAB.out _ (HA.out.below B4 (Nat.le_refl _)) (HB.out.below B4 (Nat.le_refl _))).mono ?_
  rintro e w5 ⟨rfl, hb⟩
  have hk : Below (w4).heap.size (w4) w5 := hb
  have s5 : w.heap.size ≤ w5.heap.size := Nat.le_trans B4.size hk.size
  have q5 : w4.heap.size + 0 ≤ w5.heap.size := by have z := hk.size; (try simp only [World.size_alloc, World.size_setCell] at z); omega
  have B5 : Below w.heap.size w w5 := bcall B4 hk B4.size
  replace XA := XA.below hk XA.lt
  replace XB := XB.below hk XB.lt
  replace XC := XC.below hk XC.lt
  clear B4 hk hb
  clear XA_0 XA_1 XA_2 XA_3 XA_l XB_0 XB_1 XB_2 XB_3 XB_l XC_0 XC_1 XC_2 XC_3 XC_l
  have XA_0 := XA.c 0 _ rfl
  have XA_1 := XA.c 1 _ rfl
  have XA_2 := XA.c 2 _ rfl
  have XA_3 := XA.c 3 _ rfl
  have XA_l := XA.lt
  have XB_0 := XB.c 0 _ rfl
  have XB_1 := XB.c 1 _ rfl
  have XB_2 := XB.c 2 _ rfl
  have XB_3 := XB.c 3 _ rfl
  have XB_l := XB.lt
  have XC_0 := XC.c 0 _ rfl
  have XC_1 := XC.c 1 _ rfl
  have XC_2 := XC.c 2 _ rfl
  have XC_3 := XC.c 3 _ rfl
  have XC_l := XC.lt
  go_wp2_with (go_at_call 23; refine (KI.out _).mono ?_; rintro e w' ⟨rfl, rfl⟩)
  refine (KBA.out _ (HB.out.below B5 (Nat.le_refl _)) (HA.out.below B5 (Nat.le_refl _))).mono ?_
  rintro e w6 ⟨rfl, hb⟩
  have hk : Below (w5).heap.size (w5) w6 := hb
  have s6 : w.heap.size ≤ w6.heap.size := Nat.le_trans B5.size hk.size
  have q6 : w5.heap.size + 0 ≤ w6.heap.size := by have z := hk.size; (try simp only [World.size_alloc, World.size_setCell] at z); omega
  have B6 : Below w.heap.size w w6 := bcall B5 hk B5.size
  replace XA := XA.below hk XA.lt
  replace XB := XB.below hk XB.lt
  replace XC := XC.below hk XC.lt
  clear B5 hk hb
  clear XA_0 XA_1 XA_2 XA_3 XA_l XB_0 XB_1 XB_2 XB_3 XB_l XC_0 XC_1 XC_2 XC_3 XC_l
  have XA_0 := XA.c 0 _ rfl
  have XA_1 := XA.c 1 _ rfl
  have XA_2 := XA.c 2 _ rfl
  have XA_3 := XA.c 3 _ rfl
  have XA_l := XA.lt
  have XB_0 := XB.c 0 _ rfl
  have XB_1 := XB.c 1 _ rfl
  have XB_2 := XB.c 2 _ rfl
  have XB_3 := XB.c 3 _ rfl
  have XB_l := XB.lt
  have XC_0 := XC.c 0 _ rfl
  have XC_1 := XC.c 1 _ rfl
  have XC_2 := XC.c 2 _ rfl
  have XC_3 := XC.c 3 _ rfl
  have XC_l := XC.lt
  go_wp2_with fail
  refine (KS.out _ (HA.out.below B6 (Nat.le_refl _)) (HB.out.below B6 (Nat.le_refl _))).mono ?_
  rintro e w7 ⟨rfl, hb⟩
  have hk : Below (w6).heap.size (w6) w7 := hb
  have s7 : w.heap.size ≤ w7.heap.size := Nat.le_trans B6.size hk.size
  have q7 : w6.heap.size + 0 ≤ w7.heap.size := by have z := hk.size; (try simp only [World.size_alloc, World.size_setCell] at z); omega
  have B7 : Below w.heap.size w w7 := bcall B6 hk B6.size
  replace XA := XA.below hk XA.lt
  replace XB := XB.below hk XB.lt
  replace XC := XC.below hk XC.lt
  clear B6 hk hb
  clear XA_0 XA_1 XA_2 XA_3 XA_l XB_0 XB_1 XB_2 XB_3 XB_l XC_0 XC_1 XC_2 XC_3 XC_l
  have XA_0 := XA.c 0 _ rfl
  have XA_1 := XA.c 1 _ rfl
  have XA_2 := XA.c 2 _ rfl
  have XA_3 := XA.c 3 _ rfl
  have XA_l := XA.lt
  have XB_0 := XB.c 0 _ rfl
  have XB_1 := XB.c 1 _ rfl
  have XB_2 := XB.c 2 _ rfl
  have XB_3 := XB.c 3 _ rfl
  have XB_l := XB.lt
  have XC_0 := XC.c 0 _ rfl
  have XC_1 := XC.c 1 _ rfl
  have XC_2 := XC.c 2 _ rfl
  have XC_3 := XC.c 3 _ rfl
  have XC_l := XC.lt
  go_wp2_with fail
  refine (KBC.out _ (HB.out.below B7 (Nat.le_refl _)) (HC.out.below B7 (Nat.le_refl _))).mono ?_
  rintro e w8 ⟨rfl, hb⟩
  have hk : Below (w7).heap.size (w7) w8 := hb
  have s8 : w.heap.size ≤ w8.heap.size := Nat.le_trans B7.size hk.size
  have q8 : w7.heap.size + 0 ≤ w8.heap.size := by have z := hk.size; (try simp only [World.size_alloc, World.size_setCell] at z); omega
  have B8 : Below w.heap.size w w8 := bcall B7 hk B7.size
  replace XA := XA.below hk XA.lt
  replace XB := XB.below hk XB.lt
  replace XC := XC.below hk XC.lt
  clear B7 hk hb
  clear XA_0 XA_1 XA_2 XA_3 XA_l XB_0 XB_1 XB_2 XB_3 XB_l XC_0 XC_1 XC_2 XC_3 XC_l
  have XA_0 := XA.c 0 _ rfl
  have XA_1 := XA.c 1 _ rfl
  have XA_2 := XA.c 2 _ rfl
  have XA_3 := XA.c 3 _ rfl
  have XA_l := XA.lt
  have XB_0 := XB.c 0 _ rfl
  have XB_1 := XB.c 1 _ rfl
  have XB_2 := XB.c 2 _ rfl
  have XB_3 := XB.c 3 _ rfl
  have XB_l := XB.lt
  have XC_0 := XC.c 0 _ rfl
  have XC_1 := XC.c 1 _ rfl
  have XC_2 := XC.c 2 _ rfl
  have XC_3 := XC.c 3 _ rfl
  have XC_l := XC.lt
  go_wp2_with fail
  refine (KAC.out _ (HA.out.below B8 (Nat.le_refl _)) (HC.out.below B8 (Nat.le_refl _))).mono ?_
  rintro e w9 ⟨rfl, hb⟩
  have hk : Below (w8).heap.size (w8) w9 := hb
  have s9 : w.heap.size ≤ w9.heap.size := Nat.le_trans B8.size hk.size
  have q9 : w8.heap.size + 0 ≤ w9.heap.size := by have z := hk.size; (try simp only [World.size_alloc, World.size_setCell] at z); omega
  have B9 : Below w.heap.size w w9 := bcall B8 hk B8.size
  replace XA := XA.below hk XA.lt
  replace XB := XB.below hk XB.lt
  replace XC := XC.below hk XC.lt
  clear B8 hk hb
  clear XA_0 XA_1 XA_2 XA_3 XA_l XB_0 XB_1 XB_2 XB_3 XB_l XC_0 XC_1 XC_2 XC_3 XC_l
  have XA_0 := XA.c 0 _ rfl
  have XA_1 := XA.c 1 _ rfl
  have XA_2 := XA.c 2 _ rfl
  have XA_3 := XA.c 3 _ rfl
  have XA_l := XA.lt
  have XB_0 := XB.c 0 _ rfl
  have XB_1 := XB.c 1 _ rfl
  have XB_2 := XB.c 2 _ rfl
  have XB_3 := XB.c 3 _ rfl
  have XB_l := XB.lt
  have XC_0 := XC.c 0 _ rfl
  have XC_1 := XC.c 1 _ rfl
  have XC_2 := XC.c 2 _ rfl
  have XC_3 := XC.c 3 _ rfl
  have XC_l := XC.lt
  go_wp2_with fail
  refine (KAC.out _ (HA.out.below B9 (Nat.le_refl _)) (HC.out.below B9 (Nat.le_refl _))).mono ?_
  rintro e w10 ⟨rfl, hb⟩
  have hk : Below (w9).heap.size (w9) w10 := hb
  have s10 : w.heap.size ≤ w10.heap.size := Nat.le_trans B9.size hk.size
  have q10 : w9.heap.size + 0 ≤ w10.heap.size := by have z := hk.size; (try simp only [World.size_alloc, World.size_setCell] at z); omega
  have B10 : Below w.heap.size w w10 := bcall B9 hk B9.size
  replace XA := XA.below hk XA.lt
  replace XB := XB.below hk XB.lt
  replace XC := XC.below hk XC.lt
  clear B9 hk hb
  clear XA_0 XA_1 XA_2 XA_3 XA_l XB_0 XB_1 XB_2 XB_3 XB_l XC_0 XC_1 XC_2 XC_3 XC_l
  have XA_0 := XA.c 0 _ rfl
  have XA_1 := XA.c 1 _ rfl
  have XA_2 := XA.c 2 _ rfl
  have XA_3 := XA.c 3 _ rfl
  have XA_l := XA.lt
  have XB_0 := XB.c 0 _ rfl
  have XB_1 := XB.c 1 _ rfl
  have XB_2 := XB.c 2 _ rfl
  have XB_3 := XB.c 3 _ rfl
  have XB_l := XB.lt
  have XC_0 := XC.c 0 _ rfl
  have XC_1 := XC.c 1 _ rfl
  have XC_2 := XC.c 2 _ rfl
  have XC_3 := XC.c 3 _ rfl
  have XC_l := XC.lt
  go_wp2_with fail
  go_ret
  exact ⟨rfl, B10⟩
set_option maxRecDepth 100000 in
set_option maxHeartbeats 4000000 in
theorem vot_r11 (a b c : Pl.Ver) (pa pb pc : Option Addr) (ca cb cc : Nat) (w : World) (E : Env w) (ha : VIn w a pa ca) (hb : VIn w b pb cb) (hc : VIn w c pc cc) (oka : a.Ok) (okb : b.Ok) (okc : c.Ok) (hk : Pl.verCmp a b = (-1)) (hl : Pl.verCmp b c = (-1)) (hm : Pl.verCmp a c = (-1)) :
    Calls Tryd.prog 6 #[verV a pa ca, verV b pb cb, verV c pc cc] w fun e w' => e = .returned (.bool true) ∧ Below w.heap.size w w' := by
  have HE := Lib.hid E
  have HA := Lib.hid ha
  have HB := Lib.hid hb
  have HC := Lib.hid hc
  have ea := Pl.vrF_ok oka
  have Fa := Lib.hid (fun (W : World) (h : VIn W a pa ca) => VersionFault_any a pa ca W h)
  rw [ea] at Fa
  simp only [fltV] at Fa
  have eb := Pl.vrF_ok okb
  have Fb := Lib.hid (fun (W : World) (h : VIn W b pb cb) => VersionFault_any b pb cb W h)
  rw [eb] at Fb
  simp only [fltV] at Fb
  have ec := Pl.vrF_ok okc
  have Fc := Lib.hid (fun (W : World) (h : VIn W c pc cc) => VersionFault_any c pc cc W h)
  rw [ec] at Fc
  simp only [fltV] at Fc
  have hkb : Pl.verCmp b a = 1 := by have h := Pl.verCmp_TO.anti a b trivial trivial; omega
  have KAB := Lib.hid (fun (W : World) (h : VIn W a pa ca) (h2 : VIn W b pb cb) => lcompare_any a b pa pb ca cb W h h2 oka okb)
  rw [hk] at KAB
  have KBA := Lib.hid (fun (W : World) (h : VIn W b pb cb) (h2 : VIn W a pa ca) => lcompare_any b a pb pa cb ca W h h2 okb oka)
  rw [hkb] at KBA
  have KBC := Lib.hid (fun (W : World) (h : VIn W b pb cb) (h2 : VIn W c pc cc) => lcompare_any b c pb pc cb cc W h h2 okb okc)
  rw [hl] at KBC
  have KAC := Lib.hid (fun (W : World) (h : VIn W a pa ca) (h2 : VIn W c pc cc) => lcompare_any a c pa pc ca cc W h h2 oka okc)
  rw [hm] at KAC
  have es : Pl.sameB a b = false := Pl.sameB_false fun e => by rw [(Pl.verCmp_TO.eq a b trivial trivial).2 e] at hk; cases hk
  have KS := Lib.hid (fun (W : World) (h : VIn W a pa ca) (h2 : VIn W b pb cb) => SameVersion_any a b pa pb ca cb W h h2)
  rw [es] at KS
  clear es hk hkb hl hm
  have KI := Lib.hid (fun (W : World) => lin_any (-1) (-1) 1 W)
  rw [show Pl.inB (-1) (-1) 1 = true by decide] at KI
  clear E ha hb hc ea eb ec
  go_enter Tryd.func6, Tryd.ntmps6
  have B0 : Below w.heap.size w w := Below.refl _ _
  go_wp2_with fail
  replace B0 := (B0.alloc B0.size (.cells #[.int .i64 a.maj, .int .i64 a.min, .int .i64 a.pat, .slice pa a.pre.length ca] 24))
  have XA : Blk ((w).alloc (.cells #[.int .i64 a.maj, .int .i64 a.min, .int .i64 a.pat, .slice pa a.pre.length ca] 24)) (w.heap.size) [.int .i64 a.maj, .int .i64 a.min, .int .i64 a.pat, .slice pa a.pre.length ca] := Blk.new (w) [.int .i64 a.maj, .int .i64 a.min, .int .i64 a.pat, .slice pa a.pre.length ca] 24 (g := w.heap.size) (by simp)
  replace B0 := (B0.alloc B0.size (.cells #[.int .i64 b.maj, .int .i64 b.min, .int .i64 b.pat, .slice pb b.pre.length cb] 24))
  replace XA := (XA.alloc (.cells #[.int .i64 b.maj, .int .i64 b.min, .int .i64 b.pat, .slice pb b.pre.length cb] 24))
  have XB : Blk (((w).alloc (.cells #[.int .i64 a.maj, .int .i64 a.min, .int .i64 a.pat, .slice pa a.pre.length ca] 24)).alloc (.cells #[.int .i64 b.maj, .int .i64 b.min, .int .i64 b.pat, .slice pb b.pre.length cb] 24)) (w.heap.size + 1) [.int .i64 b.maj, .int .i64 b.min, .int .i64 b.pat, .slice pb b.pre.length cb] := Blk.new ((w).alloc (.cells #[.int .i64 a.maj, .int .i64 a.min, .int .i64 a.pat, .slice pa a.pre.length ca] 24)) [.int .i64 b.maj, .int .i64 b.min, .int .i64 b.pat, .slice pb b.pre.length cb] 24 (g := w.heap.size + 1) (by simp)
  replace B0 := (B0.alloc B0.size (.cells #[.int .i64 c.maj, .int .i64 c.min, .int .i64 c.pat, .slice pc c.pre.length cc] 24))
  replace XA := (XA.alloc (.cells #[.int .i64 c.maj, .int .i64 c.min, .int .i64 c.pat, .slice pc c.pre.length cc] 24))
  replace XB := (XB.alloc (.cells #[.int .i64 c.maj, .int .i64 c.min, .int .i64 c.pat, .slice pc c.pre.length cc] 24))
  have XC : Blk ((((w).alloc (.cells #[.int .i64 a.maj, .int .i64 a.min, .int .i64 a.pat, .slice pa a.pre.length ca] 24)).alloc (.cells #[.int .i64 b.maj, .int .i64 b.min, .int .i64 b.pat, .slice pb b.pre.length cb] 24)).alloc (.cells #[.int .i64 c.maj, .int .i64 c.min, .int .i64 c.pat, .slice pc c.pre.length cc] 24)) (w.heap.size + 1 + 1) [.int .i64 c.maj, .int .i64 c.min, .int .i64 c.pat, .slice pc c.pre.length cc] := Blk.new (((w).alloc (.cells #[.int .i64 a.maj, .int .i64 a.min, .int .i64 a.pat, .slice pa a.pre.length ca] 24)).alloc (.cells #[.int .i64 b.maj, .int .i64 b.min, .int .i64 b.pat, .slice pb b.pre.length cb] 24)) [.int .i64 c.maj, .int .i64 c.min, .int .i64 c.pat, .slice pc c.pre.length cc] 24 (g := w.heap.size + 1 + 1) (by simp)
  refine (orders_any _ (HE.out.below B0 (Nat.le_refl _))).mono ?_
  rintro e w1 ⟨rfl, hb⟩
  have hk : Below ((((w).alloc (.cells #[.int .i64 a.maj, .int .i64 a.min, .int .i64 a.pat, .slice pa a.pre.length ca] 24)).alloc (.cells #[.int .i64 b.maj, .int .i64 b.min, .int .i64 b.pat, .slice pb b.pre.length cb] 24)).alloc (.cells #[.int .i64 c.maj, .int .i64 c.min, .int .i64 c.pat, .slice pc c.pre.length cc] 24)).heap.size ((((w).alloc (.cells #[.int .i64 a.maj, .int .i64 a.min, .int .i64 a.pat, .slice pa a.pre.length ca] 24)).alloc (.cells #[.int .i64 b.maj, .int .i64 b.min, .int .i64 b.pat, .slice pb b.pre.length cb] 24)).alloc (.cells #[.int .i64 c.maj, .int .i64 c.min, .int .i64 c.pat, .slice pc c.pre.length cc] 24)) w1 := hb
  have s1 : w.heap.size ≤ w1.heap.size := Nat.le_trans B0.size hk.size
  have q1 : w.heap.size + 3 ≤ w1.heap.size := by have z := hk.size; (try simp only [World.size_alloc] at z); omega
  have B1 : Below w.heap.size w w1 := bcall B0 hk B0.size
  replace XA := XA.below hk XA.lt
  replace XB := XB.below hk XB.lt
  replace XC := XC.below hk XC.lt
  clear B0 hk hb
  have XA_0 := XA.c 0 _ rfl
  have XA_1 := XA.c 1 _ rfl
  have XA_2 := XA.c 2 _ rfl
  have XA_3 := XA.c 3 _ rfl
  have XA_l := XA.lt
  have XB_0 := XB.c 0 _ rfl
  have XB_1 := XB.c 1 _ rfl
  have XB_2 := XB.c 2 _ rfl
  have XB_3 := XB.c 3 _ rfl
  have XB_l := XB.lt
  have XC_0 := XC.c 0 _ rfl
  have XC_1 := XC.c 1 _ rfl
  have XC_2 := XC.c 2 _ rfl
  have XC_3 := XC.c 3 _ rfl
  have XC_l := XC.lt
  go_wp2_with fail
  refine (Fa.out _ (HA.out.below B1 (Nat.le_refl _))).mono ?_
  rintro e w2 ⟨rfl, hb⟩
  have hk : Below (w1).heap.size (w1) w2 := hb
  have s2 : w.heap.size ≤ w2.heap.size := Nat.le_trans B1.size hk.size
  have q2 : w1.heap.size + 0 ≤ w2.heap.size := by have z := hk.size; (try simp only [World.size_alloc, World.size_setCell] at z); omega
  have B2 : Below w.heap.size w w2 := bcall B1 hk B1.size
  replace XA := XA.below hk XA.lt
  replace XB := XB.below hk XB.lt
  replace XC := XC.below hk XC.lt
  clear B1 hk hb
  clear XA_0 XA_1 XA_2 XA_3 XA_l XB_0 XB_1 XB_2 XB_3 XB_l XC_0 XC_1 XC_2 XC_3 XC_l
  have XA_0 := XA.c 0 _ rfl
  have XA_1 := XA.c 1 _ rfl
  have XA_2 := XA.c 2 _ rfl
  have XA_3 := XA.c 3 _ rfl
  have XA_l := XA.lt
  have XB_0 := XB.c 0 _ rfl
  have XB_1 := XB.c 1 _ rfl
  have XB_2 := XB.c 2 _ rfl
  have XB_3 := XB.c 3 _ rfl
  have XB_l := XB.lt
  have XC_0 := XC.c 0 _ rfl
  have XC_1 := XC.c 1 _ rfl
  have XC_2 := XC.c 2 _ rfl
  have XC_3 := XC.c 3 _ rfl
  have XC_l := XC.lt
  go_wp2_with fail
  refine (Fb.out _ (HB.out.below B2 (Nat.le_refl _))).mono ?_
  rintro e w3 ⟨rfl, hb⟩
  have hk : Below (w2).heap.size (w2) w3 := hb
  have s3 : w.heap.size ≤ w3.heap.size := Nat.le_trans B2.size hk.size
  have q3 : w2.heap.size + 0 ≤ w3.heap.size := by have z := hk.size; (try simp only [World.size_alloc, World.size_setCell] at z); omega
  have B3 : Below w.heap.size w w3 := bcall B2 hk B2.size
  replace XA := XA.below hk XA.lt
  replace XB := XB.below hk XB.lt
  replace XC := XC.below hk XC.lt
  clear B2 hk hb
  clear XA_0 XA_1 XA_2 XA_3 XA_l XB_0 XB_1 XB_2 XB_3 XB_l XC_0 XC_1 XC_2 XC_3 XC_l
  have XA_0 := XA.c 0 _ rfl
  have XA_1 := XA.c 1 _ rfl
  have XA_2 := XA.c 2 _ rfl
  have XA_3 := XA.c 3 _ rfl
  have XA_l := XA.lt
  have XB_0 := XB.c 0 _ rfl
  have XB_1 := XB.c 1 _ rfl
  have XB_2 := XB.c 2 _ rfl
  have XB_3 := XB.c 3 _ rfl
  have XB_l := XB.lt
  have XC_0 := XC.c 0 _ rfl
  have XC_1 := XC.c 1 _ rfl
  have XC_2 := XC.c 2 _ rfl
  have XC_3 := XC.c 3 _ rfl
  have XC_l := XC.lt
  go_wp2_with fail
  refine (Fc.out _ (HC.out.below B3 (Nat.le_refl _))).mono ?_
  rintro e w4 ⟨rfl, hb⟩
  have hk : Below (w3).heap.size (w3) w4 := hb
  have s4 : w.heap.size ≤ w4.heap.size := Nat.le_trans B3.size hk.size
  have q4 : w3.heap.size + 0 ≤ w4.heap.size := by have z := hk.size; (try simp only [World.size_alloc, World.size_setCell] at z); omega
  have B4 : Below w.heap.size w w4 := bcall B3 hk B3.size
  replace XA := XA.below hk XA.lt
  replace XB := XB.below hk XB.lt
  replace XC := XC.below hk XC.lt
  clear B3 hk hb
  clear XA_0 XA_1 XA_2 XA_3 XA_l XB_0 XB_1 XB_2 XB_3 XB_l XC_0 XC_1 XC_2 XC_3 XC_l
  have XA_0 := XA.c 0 _ rfl
  have XA_1 := XA.c 1 _ rfl
  have XA_2 := XA.c 2 _ rfl
  have XA_3 := XA.c 3 _ rfl
  have XA_l := XA.lt
  have XB_0 := XB.c 0 _ rfl
  have XB_1 := XB.c 1 _ rfl
  have XB_2 := XB.c 2 _ rfl
  have XB_3 := XB.c 3 _ rfl
  have XB_l := XB.lt
  have XC_0 := XC.c 0 _ rfl
  have XC_1 := XC.c 1 _ rfl
  have XC_2 := XC.c 2 _ rfl
  have XC_3 := XC.c 3 _ rfl
  have XC_l := XC.lt
  go_wp2_with fail
  refine (KAB.out _ (HA.out.below B4 (Nat.le_refl _)) (HB.out.below B4 (Nat.le_refl _))).mono ?_
  rintro e w5 ⟨rfl, hb⟩
  have hk : Below (w4).heap.size (w4) w5 := hb
  have s5 : w.heap.size ≤ w5.heap.size := Nat.le_trans B4.size hk.size
  have q5 : w4.heap.size + 0 ≤ w5.heap.size := by have z := hk.size; (try simp only [World.size_alloc, World.size_setCell] at z); omega
  have B5 : Below w.heap.size w w5 := bcall B4 hk B4.size
  replace XA := XA.below hk XA.lt
  replace XB := XB.below hk XB.lt
  replace XC := XC.below hk XC.lt
  clear B4 hk hb
  clear XA_0 XA_1 XA_2 XA_3 XA_l XB_0 XB_1 XB_2 XB_3 XB_l XC_0 XC_1 XC_2 XC_3 XC_l
  have XA_0 := XA.c 0 _ rfl
  have XA_1 := XA.c 1 _ rfl
  have XA_2 := XA.c 2 _ rfl
  have XA_3 := XA.c 3 _ rfl
  have XA_l := XA.lt
  have XB_0 := XB.c 0 _ rfl
  have XB_1 := XB.c 1 _ rfl
  have XB_2 := XB.c 2 _ rfl
  have XB_3 := XB.c 3 _ rfl
  have XB_l := XB.lt
  have XC_0 := XC.c 0 _ rfl
  have XC_1 := XC.c 1 _ rfl
  have XC_2 := XC.c 2 _ rfl
  have XC_3 := XC.c 3 _ rfl
  have XC_l := XC.lt
  go_wp2_with (go_at_call 23; refine (KI.out _).mono ?_; rintro e w' ⟨rfl, rfl⟩)
  refine (KBA.out _ (HB.out.below B5 (Nat.le_refl _)) (HA.out.below B5 (Nat.le_refl _))).mono ?_
  rintro e w6 ⟨rfl, hb⟩
  have hk : Below (w5).heap.size (w5) w6 := hb
  have s6 : w.heap.size ≤ w6.heap.size := Nat.le_trans B5.size hk.size
  have q6 : w5.heap.size + 0 ≤ w6.heap.size := by have z := hk.size; (try simp only [World.size_alloc, World.size_setCell] at z); omega
  have B6 : Below w.heap.size w w6 := bcall B5 hk B5.size
  replace XA := XA.below hk XA.lt
  replace XB := XB.below hk XB.lt
  replace XC := XC.below hk XC.lt
  clear B5 hk hb
  clear XA_0 XA_1 XA_2 XA_3 XA_l XB_0 XB_1 XB_2 XB_3 XB_l XC_0 XC_1 XC_2 XC_3 XC_l
  have XA_0 := XA.c 0 _ rfl
  have XA_1 := XA.c 1 _ rfl
  have XA_2 := XA.c 2 _ rfl
  have XA_3 := XA.c 3 _ rfl
  have XA_l := XA.lt
  have XB_0 := XB.c 0 _ rfl
  have XB_1 := XB.c 1 _ rfl
  have XB_2 := XB.c 2 _ rfl
  have XB_3 := XB.c 3 _ rfl
  have XB_l := XB.lt
  have XC_0 := XC.c 0 _ rfl
  have XC_1 := XC.c 1 _ rfl
  have XC_2 := XC.c 2 _ rfl
  have XC_3 := XC.c 3 _ rfl
  have XC_l := XC.lt
  go_wp2_with fail
  refine (KS.out _ (HA.out.below B6 (Nat.le_refl _)) (HB.out.below B6 (Nat.le_refl _))).mono ?_
  rintro e w7 ⟨rfl, hb⟩
  have hk : Below (w6).heap.size (w6) w7 := hb
  have s7 : w.heap.size ≤ w7.heap.size := Nat.le_trans B6.size hk.size
  have q7 : w6.heap.size + 0 ≤ w7.heap.size := by have z := hk.size; (try simp only [World.size_alloc, World.size_setCell] at z); omega
  have B7 : Below w.heap.size w w7 := bcall B6 hk B6.size
  replace XA := XA.below hk XA.lt
  replace XB := XB.below hk XB.lt
  replace XC := XC.below hk XC.lt
  clear B6 hk hb
  clear XA_0 XA_1 XA_2 XA_3 XA_l XB_0 XB_1 XB_2 XB_3 XB_l XC_0 XC_1 XC_2 XC_3 XC_l
  have XA_0 := XA.c 0 _ rfl
  have XA_1 := XA.c 1 _ rfl
  have XA_2 := XA.c 2 _ rfl
  have XA_3 := XA.c 3 _ rfl
  have XA_l := XA.lt
  have XB_0 := XB.c 0 _ rfl
  have XB_1 := XB.c 1 _ rfl
  have XB_2 := XB.c 2 _ rfl
  have XB_3 := XB.c 3 _ rfl
  have XB_l := XB.lt
  have XC_0 := XC.c 0 _ rfl
  have XC_1 := XC.c 1 _ rfl
  have XC_2 := XC.c 2 _ rfl
  have XC_3 := XC.c 3 _ rfl
  have XC_l := XC.lt
  go_wp2_with fail
  refine (KBC.out _ (HB.out.below B7 (Nat.le_refl _)) (HC.out.below B7 (Nat.le_refl _))).mono ?_
  rintro e w8 ⟨rfl, hb⟩
  have hk : Below (w7).heap.size (w7) w8 := hb
  have s8 : w.heap.size ≤ w8.heap.size := Nat.le_trans B7.size hk.size
  have q8 : w7.heap.size + 0 ≤ w8.heap.size := by have z := hk.size; (try simp only [World.size_alloc, World.size_setCell] at z); omega
  have B8 : Below w.heap.size w w8 := bcall B7 hk B7.size
  replace XA := XA.below hk XA.lt
  replace XB := XB.below hk XB.lt
  replace XC := XC.below hk XC.lt
  clear B7 hk hb
  clear XA_0 XA_1 XA_2 XA_3 XA_l XB_0 XB_1 XB_2 XB_3 XB_l XC_0 XC_1 XC_2 XC_3 XC_l
  have XA_0 := XA.c 0 _ rfl
  have XA_1 := XA.c 1 _ rfl
  have XA_2 := XA.c 2 _ rfl
  have XA_3 := XA.c 3 _ rfl
  have XA_l := XA.lt
  have XB_0 := XB.c 0 _ rfl
  have XB_1 := XB.c 1 _ rfl
  have XB_2 := XB.c 2 _ rfl
  have XB_3 := XB.c 3 _ rfl
  have XB_l := XB.lt
  have XC_0 := XC.c 0 _ rfl
  have XC_1 := XC.c 1 _ rfl
  have XC_2 := XC.c 2 _ rfl
  have XC_3 := XC.c 3 _ rfl
  have XC_l := XC.lt
  go_wp2_with fail
  refine (KAC.out _ (HA.out.below B8 (Nat.le_refl _)) (HC.out.below B8 (Nat.le_refl _))).mono ?_
  rintro e w9 ⟨rfl, hb⟩
  have hk : Below (w8).heap.size (w8) w9 := hb
  have s9 : w.heap.size ≤ w9.heap.size := Nat.le_trans B8.size hk.size
  have q9 : w8.heap.size + 0 ≤ w9.heap.size := by have z := hk.size; (try simp only [World.size_alloc, World.size_setCell] at z); omega
  have B9 : Below w.heap.size w w9 := bcall B8 hk B8.size
  replace XA := XA.below hk XA.lt
  replace XB := XB.below hk XB.lt
  replace XC := XC.below hk XC.lt
  clear B8 hk hb
  clear XA_0 XA_1 XA_2 XA_3 XA_l XB_0 XB_1 XB_2 XB_3 XB_l XC_0 XC_1 XC_2 XC_3 XC_l
  have XA_0 := XA.c 0 _ rfl
  have XA_1 := XA.c 1 _ rfl
  have XA_2 := XA.c 2 _ rfl
  have XA_3 := XA.c 3 _ rfl
  have XA_l := XA.lt
  have XB_0 := XB.c 0 _ rfl
  have XB_1 := XB.c 1 _ rfl
  have XB_2 := XB.c 2 _ rfl
  have XB_3 := XB.c 3 _ rfl
  have XB_l := XB.lt
  have XC_0 := XC.c 0 _ rfl
  have XC_1 := XC.c 1 _ rfl
  have XC_2 := XC.c 2 _ rfl
  have XC_3 := XC.c 3 _ rfl
  have XC_l := XC.lt
  go_wp2_with fail
  refine (KAC.out _ (HA.out.below B9 (Nat.le_refl _)) (HC.out.below B9 (Nat.le_refl _))).mono ?_
  rintro e w10 ⟨rfl, hb⟩
  have hk : Below (w9).heap.size (w9) w10 := hb
  have s10 : w.heap.size ≤ w10.heap.size := Nat.le_trans B9.size hk.size
  have q10 : w9.heap.size + 0 ≤ w10.heap.size := by have z := hk.size; (try simp only [World.size_alloc, World.size_setCell] at z); omega
  have B10 : Below w.heap.size w w10 := bcall B9 hk B9.size
  replace XA := XA.below hk XA.lt
  replace XB := XB.below hk XB.lt
  replace XC := XC.below hk XC.lt
  clear B9 hk hb
  clear XA_0 XA_1 XA_2 XA_3 XA_l XB_0 XB_1 XB_2 XB_3 XB_l XC_0 XC_1 XC_2 XC_3 XC_l
  have XA_0 := XA.c 0 _ rfl
  have XA_1 := XA.c 1 _ rfl
  have XA_2 := XA.c 2 _ rfl
  have XA_3 := XA.c 3 _ rfl
  have XA_l := XA.lt
  have XB_0 := XB.c 0 _ rfl
  have XB_1 := XB.c 1 _ rfl
  have XB_2 := XB.c 2 _ rfl
  have XB_3 := XB.c 3 _ rfl
  have XB_l := XB.lt
  have XC_0 := XC.c 0 _ rfl
  have XC_1 := XC.c 1 _ rfl
  have XC_2 := XC.c 2 _ rfl
  have XC_3 := XC.c 3 _ rfl
  have XC_l := XC.lt
  go_wp2_with fail
  go_ret
  exact ⟨rfl, B10⟩
set_option maxRecDepth 100000 in
set_option maxHeartbeats 4000000 in
theorem vot_z (a b c : Pl.Ver) (pa pb pc : Option Addr) (ca cb cc : Nat) (w : World) (E : Env w) (ha : VIn w a pa ca) (hb : VIn w b pb cb) (hc : VIn w c pc cc) (oka : a.Ok) (okb : b.Ok) (okc : c.Ok) (hk : Pl.verCmp a b = 0) (hl : Pl.verCmp b c = 0) (hm : Pl.verCmp a c = 0) :
    Calls Tryd.prog 6 #[verV a pa ca, verV b pb cb, verV c pc cc] w fun e w' => e = .returned (.bool true) ∧ Below w.heap.size w w' := by
  have HE := Lib.hid E
  have HA := Lib.hid ha
  have HB := Lib.hid hb
  have HC := Lib.hid hc
  have ea := Pl.vrF_ok oka
  have Fa := Lib.hid (fun (W : World) (h : VIn W a pa ca) => VersionFault_any a pa ca W h)
  rw [ea] at Fa
  simp only [fltV] at Fa
  have eb := Pl.vrF_ok okb
  have Fb := Lib.hid (fun (W : World) (h : VIn W b pb cb) => VersionFault_any b pb cb W h)
  rw [eb] at Fb
  simp only [fltV] at Fb
  have ec := Pl.vrF_ok okc
  have Fc := Lib.hid (fun (W : World) (h : VIn W c pc cc) => VersionFault_any c pc cc W h)
  rw [ec] at Fc
  simp only [fltV] at Fc
  have hkb : Pl.verCmp b a = 0 := by have h := Pl.verCmp_TO.anti a b trivial trivial; omega
  have KAB := Lib.hid (fun (W : World) (h : VIn W a pa ca) (h2 : VIn W b pb cb) => lcompare_any a b pa pb ca cb W h h2 oka okb)
  rw [hk] at KAB
  have KBA := Lib.hid (fun (W : World) (h : VIn W b pb cb) (h2 : VIn W a pa ca) => lcompare_any b a pb pa cb ca W h h2 okb oka)
  rw [hkb] at KBA
  have KBC := Lib.hid (fun (W : World) (h : VIn W b pb cb) (h2 : VIn W c pc cc) => lcompare_any b c pb pc cb cc W h h2 okb okc)
  rw [hl] at KBC
  have KAC := Lib.hid (fun (W : World) (h : VIn W a pa ca) (h2 : VIn W c pc cc) => lcompare_any a c pa pc ca cc W h h2 oka okc)
  rw [hm] at KAC
  have es : Pl.sameB a b = true := Pl.sameB_iff.2 ((Pl.verCmp_TO.eq a b trivial trivial).1 hk)
  have KS := Lib.hid (fun (W : World) (h : VIn W a pa ca) (h2 : VIn W b pb cb) => SameVersion_any a b pa pb ca cb W h h2)
  rw [es] at KS
  clear es hk hkb hl hm
  have KI := Lib.hid (fun (W : World) => lin_any 0 (-1) 1 W)
  rw [show Pl.inB 0 (-1) 1 = true by decide] at KI
  clear E ha hb hc ea eb ec
  go_enter Tryd.func6, Tryd.ntmps6
  have B0 : Below w.heap.size w w := Below.refl _ _
  go_wp2_with fail
  replace B0 := (B0.alloc B0.size (.cells #[.int .i64 a.maj, .int .i64 a.min, .int .i64 a.pat, .slice pa a.pre.length ca] 24))
  have XA : Blk ((w).alloc (.cells #[.int .i64 a.maj, .int .i64 a.min, .int .i64 a.pat, .slice pa a.pre.length ca] 24)) (w.heap.size) [.int .i64 a.maj, .int .i64 a.min, .int .i64 a.pat, .slice pa a.pre.length ca] := Blk.new (w) [.int .i64 a.maj, .int .i64 a.min, .int .i64 a.pat, .slice pa a.pre.length ca] 24 (g := w.heap.size) (by simp)
  replace B0 := (B0.alloc B0.size (.cells #[.int .i64 b.maj, .int .i64 b.min, .int .i64 b.pat, .slice pb b.pre.length cb] 24))
  replace XA := (XA.alloc (.cells #[.int .i64 b.maj, .int .i64 b.min, .int .i64 b.pat, .slice pb b.pre.length cb] 24))
  have XB : Blk (((w).alloc (.cells #[.int .i64 a.maj, .int .i64 a.min, .int .i64 a.pat, .slice pa a.pre.length ca] 24)).alloc (.cells #[.int .i64 b.maj, .int .i64 b.min, .int .i64 b.pat, .slice pb b.pre.length cb] 24)) (w.heap.size + 1) [.int .i64 b.maj, .int .i64 b.min, .int .i64 b.pat, .slice pb b.pre.length cb] := Blk.new ((w).alloc (.cells #[.int .i64 a.maj, .int .i64 a.min, .int .i64 a.pat, .slice pa a.pre.length ca] 24)) [.int .i64 b.maj, .int .i64 b.min, .int .i64 b.pat, .slice pb b.pre.length cb] 24 (g := w.heap.size + 1) (by simp)
  replace B0 := (B0.alloc B0.size (.cells #[.int .i64 c.maj, .int .i64 c.min, .int .i64 c.pat, .slice pc c.pre.length cc] 24))
  replace XA := (XA.alloc (.cells #[.int .i64 c.maj, .int .i64 c.min, .int .i64 c.pat, .slice pc c.pre.length cc] 24))
  replace XB := (XB.alloc (.cells #[.int .i64 c.maj, .int .i64 c.min, .int .i64 c.pat, .slice pc c.pre.length cc] 24))
  have XC : Blk ((((w).alloc (.cells #[.int .i64 a.maj, .int .i64 a.min, .int .i64 a.pat, .slice pa a.pre.length ca] 24)).alloc (.cells #[.int .i64 b.maj, .int .i64 b.min, .int .i64 b.pat, .slice pb b.pre.length cb] 24)).alloc (.cells #[.int .i64 c.maj, .int .i64 c.min, .int .i64 c.pat, .slice pc c.pre.length cc] 24)) (w.heap.size + 1 + 1) [.int .i64 c.maj, .int .i64 c.min, .int .i64 c.pat, .slice pc c.pre.length cc] := Blk.new (((w).alloc (.cells #[.int .i64 a.maj, .int .i64 a.min, .int .i64 a.pat, .slice pa a.pre.length ca] 24)).alloc (.cells #[.int .i64 b.maj, .int .i64 b.min, .int .i64 b.pat, .slice pb b.pre.length cb] 24)) [.int .i64 c.maj, .int .i64 c.min, .int .i64 c.pat, .slice pc c.pre.length cc] 24 (g := w.heap.size + 1 + 1) (by simp)
  refine (orders_any _ (HE.out.below B0 (Nat.le_refl _))).mono ?_
  rintro e w1 ⟨rfl, hb⟩
  have hk : Below ((((w).alloc (.cells #[.int .i64 a.maj, .int .i64 a.min, .int .i64 a.pat, .slice pa a.pre.length ca] 24)).alloc (.cells #[.int .i64 b.maj, .int .i64 b.min, .int .i64 b.pat, .slice pb b.pre.length cb] 24)).alloc (.cells #[.int .i64 c.maj, .int .i64 c.min, .int .i64 c.pat, .slice pc c.pre.length cc] 24)).heap.size ((((w).alloc (.cells #[.int .i64 a.maj, .int .i64 a.min, .int .i64 a.pat, .slice pa a.pre.length ca] 24)).alloc (.cells #[.int .i64 b.maj, .int .i64 b.min, .int .i64 b.pat, .slice pb b.pre.length cb] 24)).alloc (.cells #[.int .i64 c.maj, .int .i64 c.min, .int .i64 c.pat, .slice pc c.pre.length cc] 24)) w1 := hb
  have s1 : w.heap.size ≤ w1.heap.size := Nat.le_trans B0.size hk.size
  have q1 : w.heap.size + 3 ≤ w1.heap.size := by have z := hk.size; (try simp only [World.size_alloc] at z); omega
  have B1 : Below w.heap.size w w1 := bcall B0 hk B0.size
  replace XA := XA.below hk XA.lt
  replace XB := XB.below hk XB.lt
  replace XC := XC.below hk XC.lt
  clear B0 hk hb
  have XA_0 := XA.c 0 _ rfl
  have XA_1 := XA.c 1 _ rfl
  have XA_2 := XA.c 2 _ rfl
  have XA_3 := XA.c 3 _ rfl
  have XA_l := XA.lt
  have XB_0 := XB.c 0 _ rfl
  have XB_1 := XB.c 1 _ rfl
  have XB_2 := XB.c 2 _ rfl
  have XB_3 := XB.c 3 _ rfl
  have XB_l := XB.lt
  have XC_0 := XC.c 0 _ rfl
  have XC_1 := XC.c 1 _ rfl
  have XC_2 := XC.c 2 _ rfl
  have XC_3 := XC.c 3 _ rfl
  have XC_l := XC.lt
  go_wp2_with fail
  refine (Fa.out _ (HA.out.below B1 (Nat.le_refl _))).mono ?_
  rintro e w2 ⟨rfl, hb⟩
  have hk : Below (w1).heap.size (w1) w2 := hb
  have s2 : w.heap.size ≤ w2.heap.size := Nat.le_trans B1.size hk.size
  have q2 : w1.heap.size + 0 ≤ w2.heap.size := by have z := hk.size; (try simp only [World.size_alloc, World.size_setCell] at z); omega
  have B2 : Below w.heap.size w w2 := bcall B1 hk B1.size
  replace XA := XA.below hk XA.lt
  replace XB := XB.below hk XB.lt
  replace XC := XC.below hk XC.lt
  clear B1 hk hb
  clear XA_0 XA_1 XA_2 XA_3 XA_l XB_0 XB_1 XB_2 XB_3 XB_l XC_0 XC_1 XC_2 XC_3 XC_l
  have XA_0 := XA.c 0 _ rfl
  have XA_1 := XA.c 1 _ rfl
  have XA_2 := XA.c 2 _ rfl
  have XA_3 := XA.c 3 _ rfl
  have XA_l := XA.lt
  have XB_0 := XB.c 0 _ rfl
  have XB_1 := XB.c 1 _ rfl
  have XB_2 := XB.c 2 _ rfl
  have XB_3 := XB.c 3 _ rfl
  have XB_l := XB.lt
  have XC_0 := XC.c 0 _ rfl
  have XC_1 := XC.c 1 _ rfl
  have XC_2 := XC.c 2 _ rfl
  have XC_3 := XC.c 3 _ rfl
  have XC_l := XC.lt
  go_wp2_with fail
  refine (Fb.out _ (HB.out.below B2 (Nat.le_refl _))).mono ?_
  rintro e w3 ⟨rfl, hb⟩
  have hk : Below (w2).heap.size (w2) w3 := hb
  have s3 : w.heap.size ≤ w3.heap.size := Nat.le_trans B2.size hk.size
  have q3 : w2.heap.size + 0 ≤ w3.heap.size := by have z := hk.size; (try simp only [World.size_alloc, World.size_setCell] at z); omega
  have B3 : Below w.heap.size w w3 := bcall B2 hk B2.size
  replace XA := XA.below hk XA.lt
  replace XB := XB.below hk XB.lt
  replace XC := XC.below hk XC.lt
  clear B2 hk hb
  clear XA_0 XA_1 XA_2 XA_3 XA_l XB_0 XB_1 XB_2 XB_3 XB_l XC_0 XC_1 XC_2 XC_3 XC_l
  have XA_0 := XA.c 0 _ rfl
  have XA_1 := XA.c 1 _ rfl
  have XA_2 := XA.c 2 _ rfl
  have XA_3 := XA.c 3 _ rfl
  have XA_l := XA.lt
  have XB_0 := XB.c 0 _ rfl
  have XB_1 := XB.c 1 _ rfl
  have XB_2 := XB.c 2 _ rfl
  have XB_3 := XB.c 3 _ rfl
  have XB_l := XB.lt
  have XC_0 := XC.c 0 _ rfl
  have XC_1 := XC.c 1 _ rfl
  have XC_2 := XC.c 2 _ rfl
  have XC_3 := XC.c 3 _ rfl
  have XC_l := XC.lt
  go_wp2_with fail
  refine (Fc.out _ (HC.out.below B3 (Nat.le_refl _))).mono ?_
  rintro e w4 ⟨rfl, hb⟩
  have hk : Below (w3).heap.size (w3) w4 := hb
  have s4 : w.heap.size ≤ w4.heap.size := Nat.le_trans B3.size hk.size
  have q4 : w3.heap.size + 0 ≤ w4.heap.size := by have z := hk.size; (try simp only [World.size_alloc, World.size_setCell] at z); omega
  have B4 : Below w.heap.size w w4 := bcall B3 hk B3.size
  replace XA := XA.below hk XA.lt
  replace XB := XB.below hk XB.lt
  replace XC := XC.below hk XC.lt
  clear B3 hk hb
  clear XA_0 XA_1 XA_2 XA_3 XA_l XB_0 XB_1 XB_2 XB_3 XB_l XC_0 XC_1 XC_2 XC_3 XC_l
  have XA_0 := XA.c 0 _ rfl
  have XA_1 := XA.c 1 _ rfl
  have XA_2 := XA.c 2 _ rfl
  have XA_3 := XA.c 3 _ rfl
  have XA_l := XA.lt
  have XB_0 := XB.c 0 _ rfl
  have XB_1 := XB.c 1 _ rfl
  have XB_2 := XB.c 2 _ rfl
  have XB_3 := XB.c 3 _ rfl
  have XB_l := XB.lt
  have XC_0 := XC.c 0 _ rfl
  have XC_1 := XC.c 1 _ rfl
  have XC_2 := XC.c 2 _ rfl
  have XC_3 := XC.c 3 _ rfl
  have XC_l := XC.lt
  go_wp2_with fail
  refine (KAB.out _ (HA.out.below B4 (Nat.le_refl _)) (HB.out.below B4 (Nat.le_refl _))).mono ?_
  rintro e w5 ⟨rfl, hb⟩
  have hk : Below (w4).heap.size (w4) w5 := hb
  have s5 : w.heap.size ≤ w5.heap.size := Nat.le_trans B4.size hk.size
  have q5 : w4.heap.size + 0 ≤ w5.heap.size := by have z := hk.size; (try simp only [World.size_alloc, World.size_setCell] at z); omega
  have B5 : Below w.heap.size w w5 := bcall B4 hk B4.size
  replace XA := XA.below hk XA.lt
  replace XB := XB.below hk XB.lt
  replace XC := XC.below hk XC.lt
  clear B4 hk hb
  clear XA_0 XA_1 XA_2 XA_3 XA_l XB_0 XB_1 XB_2 XB_3 XB_l XC_0 XC_1 XC_2 XC_3 XC_l
  have XA_0 := XA.c 0 _ rfl
  have XA_1 := XA.c 1 _ rfl
  have XA_2 := XA.c 2 _ rfl
  have XA_3 := XA.c 3 _ rfl
  have XA_l := XA.lt
  have XB_0 := XB.c 0 _ rfl
  have XB_1 := XB.c 1 _ rfl
  have XB_2 := XB.c 2 _ rfl
  have XB_3 := XB.c 3 _ rfl
  have XB_l := XB.lt
  have XC_0 := XC.c 0 _ rfl
  have XC_1 := XC.c 1 _ rfl
  have XC_2 := XC.c 2 _ rfl
  have XC_3 := XC.c 3 _ rfl
  have XC_l := XC.lt
  go_wp2_with (go_at_call 23; refine (KI.out _).mono ?_; rintro e w' ⟨rfl, rfl⟩)
  refine (KBA.out _ (HB.out.below B5 (Nat.le_refl _)) (HA.out.below B5 (Nat.le_refl _))).mono ?_
  rintro e w6 ⟨rfl, hb⟩
  have hk : Below (w5).heap.size (w5) w6 := hb
  have s6 : w.heap.size ≤ w6.heap.size := Nat.le_trans B5.size hk.size
  have q6 : w5.heap.size + 0 ≤ w6.heap.size := by have z := hk.size; (try simp only [World.size_alloc, World.size_setCell] at z); omega
  have B6 : Below w.heap.size w w6 := bcall B5 hk B5.size
  replace XA := XA.below hk XA.lt
  replace XB := XB.below hk XB.lt
  replace XC := XC.below hk XC.lt
  clear B5 hk hb
  clear XA_0 XA_1 XA_2 XA_3 XA_l XB_0 XB_1 XB_2 XB_3 XB_l XC_0 XC_1 XC_2 XC_3 XC_l
  have XA_0 := XA.c 0 _ rfl
  have XA_1 := XA.c 1 _ rfl
  have XA_2 := XA.c 2 _ rfl
  have XA_3 := XA.c 3 _ rfl
  have XA_l := XA.lt
  have XB_0 := XB.c 0 _ rfl
  have XB_1 := XB.c 1 _ rfl
  have XB_2 := XB.c 2 _ rfl
  have XB_3 := XB.c 3 _ rfl
  have XB_l := XB.lt
  have XC_0 := XC.c 0 _ rfl
  have XC_1 := XC.c 1 _ rfl
  have XC_2 := XC.c 2 _ rfl
  have XC_3 := XC.c 3 _ rfl
  have XC_l := XC.lt
  go_wp2_with fail
  refine (KS.out _ (HA.out.below B6 (Nat.le_refl _)) (HB.out.below B6 (Nat.le_refl _))).mono ?_
  rintro e w7 ⟨rfl, hb⟩
  have hk : Below (w6).heap.size (w6) w7 := hb
  have s7 : w.heap.size ≤ w7.heap.size := Nat.le_trans B6.size hk.size
  have q7 : w6.heap.size + 0 ≤ w7.heap.size := by have z := hk.size; (try simp only [World.size_alloc, World.size_setCell] at z); omega
  have B7 : Below w.heap.size w w7 := bcall B6 hk B6.size
  replace XA := XA.below hk XA.lt
  replace XB := XB.below hk XB.lt
  replace XC := XC.below hk XC.lt
  clear B6 hk hb
  clear XA_0 XA_1 XA_2 XA_3 XA_l XB_0 XB_1 XB_2 XB_3 XB_l XC_0 XC_1 XC_2 XC_3 XC_l
  have XA_0 := XA.c 0 _ rfl
  have XA_1 := XA.c 1 _ rfl
  have XA_2 := XA.c 2 _ rfl
  have XA_3 := XA.c 3 _ rfl
  have XA_l := XA.lt
  have XB_0 := XB.c 0 _ rfl
  have XB_1 := XB.c 1 _ rfl
  have XB_2 := XB.c 2 _ rfl
  have XB_3 := XB.c 3 _ rfl
  have XB_l := XB.lt
  have XC_0 := XC.c 0 _ rfl
  have XC_1 := XC.c 1 _ rfl
  have XC_2 := XC.c 2 _ rfl
  have XC_3 := XC.c 3 _ rfl
  have XC_l := XC.lt
  go_wp2_with fail
  refine (KBC.out _ (HB.out.below B7 (Nat.le_refl _)) (HC.out.below B7 (Nat.le_refl _))).mono ?_
  rintro e w8 ⟨rfl, hb⟩
  have hk : Below (w7).heap.size (w7) w8 := hb
  have s8 : w.heap.size ≤ w8.heap.size := Nat.le_trans B7.size hk.size
  have q8 : w7.heap.size + 0 ≤ w8.heap.size := by have z := hk.size; (try simp only [World.size_alloc, World.size_setCell] at z); omega
  have B8 : Below w.heap.size w w8 := bcall B7 hk B7.size
  replace XA := XA.below hk XA.lt
  replace XB := XB.below hk XB.lt
  replace XC := XC.below hk XC.lt
  clear B7 hk hb
  clear XA_0 XA_1 XA_2 XA_3 XA_l XB_0 XB_1 XB_2 XB_3 XB_l XC_0 XC_1 XC_2 XC_3 XC_l
  have XA_0 := XA.c 0 _ rfl
  have XA_1 := XA.c 1 _ rfl
  have XA_2 := XA.c 2 _ rfl
  have XA_3 := XA.c 3 _ rfl
  have XA_l := XA.lt
  have XB_0 := XB.c 0 _ rfl
  have XB_1 := XB.c 1 _ rfl
  have XB_2 := XB.c 2 _ rfl
  have XB_3 := XB.c 3 _ rfl
  have XB_l := XB.lt
  have XC_0 := XC.c 0 _ rfl
  have XC_1 := XC.c 1 _ rfl
  have XC_2 := XC.c 2 _ rfl
  have XC_3 := XC.c 3 _ rfl
  have XC_l := XC.lt
  go_wp2_with fail
  refine (KAC.out _ (HA.out.below B8 (Nat.le_refl _)) (HC.out.below B8 (Nat.le_refl _))).mono ?_
  rintro e w9 ⟨rfl, hb⟩
  have hk : Below (w8).heap.size (w8) w9 := hb
  have s9 : w.heap.size ≤ w9.heap.size := Nat.le_trans B8.size hk.size
  have q9 : w8.heap.size + 0 ≤ w9.heap.size := by have z := hk.size; (try simp only [World.size_alloc, World.size_setCell] at z); omega
  have B9 : Below w.heap.size w w9 := bcall B8 hk B8.size
  replace XA := XA.below hk XA.lt
  replace XB := XB.below hk XB.lt
  replace XC := XC.below hk XC.lt
  clear B8 hk hb
  clear XA_0 XA_1 XA_2 XA_3 XA_l XB_0 XB_1 XB_2 XB_3 XB_l XC_0 XC_1 XC_2 XC_3 XC_l
  have XA_0 := XA.c 0 _ rfl
  have XA_1 := XA.c 1 _ rfl
  have XA_2 := XA.c 2 _ rfl
  have XA_3 := XA.c 3 _ rfl
  have XA_l := XA.lt
  have XB_0 := XB.c 0 _ rfl
  have XB_1 := XB.c 1 _ rfl
  have XB_2 := XB.c 2 _ rfl
  have XB_3 := XB.c 3 _ rfl
  have XB_l := XB.lt
  have XC_0 := XC.c 0 _ rfl
  have XC_1 := XC.c 1 _ rfl
  have XC_2 := XC.c 2 _ rfl
  have XC_3 := XC.c 3 _ rfl
  have XC_l := XC.lt
  go_wp2_with fail
  refine (KAC.out _ (HA.out.below B9 (Nat.le_refl _)) (HC.out.below B9 (Nat.le_refl _))).mono ?_
  rintro e w10 ⟨rfl, hb⟩
  have hk : Below (w9).heap.size (w9) w10 := hb
  have s10 : w.heap.size ≤ w10.heap.size := Nat.le_trans B9.size hk.size
  have q10 : w9.heap.size + 0 ≤ w10.heap.size := by have z := hk.size; (try simp only [World.size_alloc, World.size_setCell] at z); omega
  have B10 : Below w.heap.size w w10 := bcall B9 hk B9.size
  replace XA := XA.below hk XA.lt
  replace XB := XB.below hk XB.lt
  replace XC := XC.below hk XC.lt
  clear B9 hk hb
  clear XA_0 XA_1 XA_2 XA_3 XA_l XB_0 XB_1 XB_2 XB_3 XB_l XC_0 XC_1 XC_2 XC_3 XC_l
  have XA_0 := XA.c 0 _ rfl
  have XA_1 := XA.c 1 _ rfl
  have XA_2 := XA.c 2 _ rfl
  have XA_3 := XA.c 3 _ rfl
  have XA_l := XA.lt
  have XB_0 := XB.c 0 _ rfl
  have XB_1 := XB.c 1 _ rfl
  have XB_2 := XB.c 2 _ rfl
  have XB_3 := XB.c 3 _ rfl
  have XB_l := XB.lt
  have XC_0 := XC.c 0 _ rfl
  have XC_1 := XC.c 1 _ rfl
  have XC_2 := XC.c 2 _ rfl
  have XC_3 := XC.c 3 _ rfl
  have XC_l := XC.lt
  go_wp2_with fail
  refine (KBC.out _ (HB.out.below B10 (Nat.le_refl _)) (HC.out.below B10 (Nat.le_refl _))).mono ?_
  rintro e w11 ⟨rfl, hb⟩
  have hk : Below (w10).heap.size (w10) w11 := hb
  have s11 : w.heap.size ≤ w11.heap.size := Nat.le_trans B10.size hk.size
  have q11 : w10.heap.size + 0 ≤ w11.heap.size := by have z := hk.size; (try simp only [World.size_alloc, World.size_setCell] at z); omega
  have B11 : Below w.heap.size w w11 := bcall B10 hk B10.size
  replace XA := XA.below hk XA.lt
  replace XB := XB.below hk XB.lt
  replace XC := XC.below hk XC.lt
  clear B10 hk hb
  clear XA_0 XA_1 XA_2 XA_3 XA_l XB_0 XB_1 XB_2 XB_3 XB_l XC_0 XC_1 XC_2 XC_3 XC_l
  have XA_0 := XA.c 0 _ rfl
  have XA_1 := XA.c 1 _ rfl
  have XA_2 := XA.c 2 _ rfl
  have XA_3 := XA.c 3 _ rfl
  have XA_l := XA.lt
  have XB_0 := XB.c 0 _ rfl
  have XB_1 := XB.c 1 _ rfl
  have XB_2 := XB.c 2 _ rfl
  have XB_3 := XB.c 3 _ rfl
  have XB_l := XB.lt
  have XC_0 := XC.c 0 _ rfl
  have XC_1 := XC.c 1 _ rfl
  have XC_2 := XC.c 2 _ rfl
  have XC_3 := XC.c 3 _ rfl
  have XC_l := XC.lt
  go_wp2_with fail
  go_ret
  exact ⟨rfl, B11⟩
theorem vot_any (a b c : Pl.Ver) (pa pb pc : Option Addr) (ca cb cc : Nat) (w : World) (E : Env w) (ha : VIn w a pa ca) (hb : VIn w b pb cb) (hc : VIn w c pc cc) :
    Calls Tryd.prog 6 #[verV a pa ca, verV b pb cb, verV c pc cc] w fun e w' => e = .returned (.bool true) ∧ Below w.heap.size w w' := by
  rcases Pl.vrF_cases a with ⟨-, oka⟩ | fa
  · rcases Pl.vrF_cases b with ⟨-, okb⟩ | fb
    · rcases Pl.vrF_cases c with ⟨-, okc⟩ | fc
      · have T := Pl.verCmp_TO
        have t3 := T.tr a b c trivial trivial trivial
        have t4 := @T.lt_le _ _ _ a b c trivial trivial trivial
        have t5 := @T.le_lt _ _ _ a b c trivial trivial trivial
        rcases T.rng a b with hk | hk | hk
        · rcases T.rng b c with hl | hl | hl
          · rcases T.rng a c with hm | hm | hm
            · exact vot_r11 a b c pa pb pc ca cb cc w E ha hb hc oka okb okc hk hl hm
            · have := t4 (by omega) (by omega); omega
            · have := t4 (by omega) (by omega); omega
          · rcases T.rng a c with hm | hm | hm
            · exact vot_r10 a b c pa pb pc ca cb cc w E ha hb hc oka okb okc hk hl hm
            · have := t4 (by omega) (by omega); omega
            · have := t4 (by omega) (by omega); omega
          · exact vot_q1 a b c pa pb pc ca cb cc w E ha hb hc oka okb okc hk hl
        · rcases T.rng b c with hl | hl | hl
          · rcases T.rng a c with hm | hm | hm
            · exact vot_r01 a b c pa pb pc ca cb cc w E ha hb hc oka okb okc hk hl hm
            · have := t5 (by omega) (by omega); omega
            · have := t5 (by omega) (by omega); omega
          · rcases T.rng a c with hm | hm | hm
            · exact vot_r00 a b c pa pb pc ca cb cc w E ha hb hc oka okb okc hk hl hm
            · exact vot_z a b c pa pb pc ca cb cc w E ha hb hc oka okb okc hk hl hm
            · have := t3 (by omega) (by omega); omega
          · exact vot_q0 a b c pa pb pc ca cb cc w E ha hb hc oka okb okc hk hl
        · exact vot_p a b c pa pb pc ca cb cc w E ha hb hc oka okb okc hk
      · exact vot_C a b c pa pb pc ca cb cc w E ha hb hc oka okb _ _ fc rfl
    · exact vot_B a b c pa pb pc ca cb cc w E ha hb hc oka _ _ fb rfl
  · exact vot_A a b c pa pb pc ca cb cc w E ha hb hc _ _ fa rfl
end Go.Proofs.YthnhajihkdgifaaDoor
