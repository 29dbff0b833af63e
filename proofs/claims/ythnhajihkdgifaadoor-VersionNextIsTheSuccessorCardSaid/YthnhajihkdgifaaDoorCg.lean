/- Law: the next version is the successor (walk). -/
import Derived.Test.YthnhajihkdgifaaDoorCb
namespace Go.Proofs.YthnhajihkdgifaaDoor
open Go.RowKit
theorem Pl.next_lt (a : Pl.Ver) (h : ∀ s ∈ (Pl.verNext a).pre, Pl.identB (Pl.bsl s) = true) : Pl.verCmp a (Pl.verNext a) = -1 := by
  have h1 := (Pl.next_succ a (Pl.verNext a) h).2 (by rw [(Pl.verCmp_TO.eq _ _ trivial trivial).2 rfl]; exact Int.le_refl _)
  rcases Pl.verCmp_TO.rng a (Pl.verNext a) with h2 | h2 | h2 <;> omega
set_option maxRecDepth 100000 in
set_option maxHeartbeats 4000000 in
theorem vns_N (a b : Pl.Ver) (pa pb : Option Addr) (ca cb : Nat) (w : World) (E : Env w) (ha : VIn w a pa ca) (hb : VIn w b pb cb) (f1 f2 : Int) (hf : f1 ≠ 0) (en : Pl.nextF a = (f1, f2)) (em : Pl.nextV a = Pl.Ver.zero) :
    Calls Tryd.prog 7 #[verV a pa ca, verV b pb cb] w fun e w' => e = .returned (.bool true) ∧ Below w.heap.size w w' := by
  have HE := Lib.hid E
  have HA := Lib.hid ha
  have HB := Lib.hid hb
  have u1 := bneT hf
  have u2 := beqF hf
  have CX := Lib.hid (fun (W : World) (h : VIn W a pa ca) => Next_any a pa ca W h)
  rw [en, em] at CX
  delta RVerF at CX
  simp only [fltV] at CX
  have CS := Lib.hid (fun (W : World) (p q : Option Addr) (c d : Nat) (h : VIn W Pl.Ver.zero p c) (h2 : VIn W Pl.Ver.zero q d) => SameVersion_any Pl.Ver.zero Pl.Ver.zero p q c d W h h2)
  rw [Pl.sameB_iff.2 rfl] at CS
  clear E ha hb en em hf
  go_enter Tryd.func7, Tryd.ntmps7
  have B0 : Below w.heap.size w w := Below.refl _ _
  go_wp2_with fail
  replace B0 := (B0.alloc B0.size (.cells #[.int .i64 a.maj, .int .i64 a.min, .int .i64 a.pat, .slice pa a.pre.length ca] 24))
  have XA : Blk ((w).alloc (.cells #[.int .i64 a.maj, .int .i64 a.min, .int .i64 a.pat, .slice pa a.pre.length ca] 24)) (w.heap.size) [.int .i64 a.maj, .int .i64 a.min, .int .i64 a.pat, .slice pa a.pre.length ca] := Blk.new (w) [.int .i64 a.maj, .int .i64 a.min, .int .i64 a.pat, .slice pa a.pre.length ca] 24 (g := w.heap.size) (by simp)
  replace B0 := (B0.alloc B0.size (.cells #[.int .i64 b.maj, .int .i64 b.min, .int .i64 b.pat, .slice pb b.pre.length cb] 24))
  replace XA := (XA.alloc (.cells #[.int .i64 b.maj, .int .i64 b.min, .int .i64 b.pat, .slice pb b.pre.length cb] 24))
  have XB : Blk (((w).alloc (.cells #[.int .i64 a.maj, .int .i64 a.min, .int .i64 a.pat, .slice pa a.pre.length ca] 24)).alloc (.cells #[.int .i64 b.maj, .int .i64 b.min, .int .i64 b.pat, .slice pb b.pre.length cb] 24)) (w.heap.size + 1) [.int .i64 b.maj, .int .i64 b.min, .int .i64 b.pat, .slice pb b.pre.length cb] := Blk.new ((w).alloc (.cells #[.int .i64 a.maj, .int .i64 a.min, .int .i64 a.pat, .slice pa a.pre.length ca] 24)) [.int .i64 b.maj, .int .i64 b.min, .int .i64 b.pat, .slice pb b.pre.length cb] 24 (g := w.heap.size + 1) (by simp)
  refine (orders_any _ (HE.out.below B0 (Nat.le_refl _))).mono ?_
  rintro e w1 ⟨rfl, hb⟩
  have hk : Below (((w).alloc (.cells #[.int .i64 a.maj, .int .i64 a.min, .int .i64 a.pat, .slice pa a.pre.length ca] 24)).alloc (.cells #[.int .i64 b.maj, .int .i64 b.min, .int .i64 b.pat, .slice pb b.pre.length cb] 24)).heap.size (((w).alloc (.cells #[.int .i64 a.maj, .int .i64 a.min, .int .i64 a.pat, .slice pa a.pre.length ca] 24)).alloc (.cells #[.int .i64 b.maj, .int .i64 b.min, .int .i64 b.pat, .slice pb b.pre.length cb] 24)) w1 := hb
  have s1 : w.heap.size ≤ w1.heap.size := Nat.le_trans B0.size hk.size
  have q1 : w.heap.size + 2 ≤ w1.heap.size := by have z := hk.size; (try simp only [World.size_alloc] at z); omega
  have B1 : Below w.heap.size w w1 := bcall B0 hk B0.size
  replace XA := XA.below hk XA.lt
  replace XB := XB.below hk XB.lt
  clear B0 hk hb
  have XA_0 := XA.c 0 _ rfl
  have XA_1 := XA.c 1 _ rfl
  have XA_2 := XA.c 2 _ rfl
  have XA_3 := XA.c 3 _ rfl
  have XA_l := XA.lt
  have XB_0 := XB.c 0 _ rfl
  have XB_1 := XB.c 1 _ rfl
  have XB_2 := XB.c 2 _ rfl
  have XB_3 := XB.c 3 _ rfl
  have XB_l := XB.lt
  go_wp2_with fail
  refine (CX.out _ (HA.out.below B1 (Nat.le_refl _))).mono ?_
  rintro e w2 ⟨px, cx, rfl, vx, hb⟩
  have VX := Lib.hid vx
  clear vx
  have hk : Below (w1).heap.size (w1) w2 := hb
  have s2 : w.heap.size ≤ w2.heap.size := Nat.le_trans B1.size hk.size
  have q2 : w1.heap.size + 0 ≤ w2.heap.size := by have z := hk.size; (try simp only [World.size_alloc, World.size_setCell] at z); omega
  have B2 : Below w.heap.size w w2 := bcall B1 hk B1.size
  replace XA := XA.below hk XA.lt
  replace XB := XB.below hk XB.lt
  clear B1 hk hb
  clear XA_0 XA_1 XA_2 XA_3 XA_l XB_0 XB_1 XB_2 XB_3 XB_l
  have XA_0 := XA.c 0 _ rfl
  have XA_1 := XA.c 1 _ rfl
  have XA_2 := XA.c 2 _ rfl
  have XA_3 := XA.c 3 _ rfl
  have XA_l := XA.lt
  have XB_0 := XB.c 0 _ rfl
  have XB_1 := XB.c 1 _ rfl
  have XB_2 := XB.c 2 _ rfl
  have XB_3 := XB.c 3 _ rfl
  have XB_l := XB.lt
  go_wp2_with fail
  replace B2 := (B2.alloc B2.size (.cells #[.int .i64 Pl.Ver.zero.maj, .int .i64 Pl.Ver.zero.min, .int .i64 Pl.Ver.zero.pat, .slice px Pl.Ver.zero.pre.length cx] 24))
  replace XA := (XA.alloc (.cells #[.int .i64 Pl.Ver.zero.maj, .int .i64 Pl.Ver.zero.min, .int .i64 Pl.Ver.zero.pat, .slice px Pl.Ver.zero.pre.length cx] 24))
  replace XB := (XB.alloc (.cells #[.int .i64 Pl.Ver.zero.maj, .int .i64 Pl.Ver.zero.min, .int .i64 Pl.Ver.zero.pat, .slice px Pl.Ver.zero.pre.length cx] 24))
  replace VX := Lib.hid (VX.out.below (B := (w2).heap.size) (w' := (w2).alloc (.cells #[.int .i64 Pl.Ver.zero.maj, .int .i64 Pl.Ver.zero.min, .int .i64 Pl.Ver.zero.pat, .slice px Pl.Ver.zero.pre.length cx] 24)) ((Below.refl _ _).alloc (Nat.le_refl _) _) (Nat.le_refl _))
  have T5 : Blk ((w2).alloc (.cells #[.int .i64 Pl.Ver.zero.maj, .int .i64 Pl.Ver.zero.min, .int .i64 Pl.Ver.zero.pat, .slice px Pl.Ver.zero.pre.length cx] 24)) (w2.heap.size) [.int .i64 Pl.Ver.zero.maj, .int .i64 Pl.Ver.zero.min, .int .i64 Pl.Ver.zero.pat, .slice px Pl.Ver.zero.pre.length cx] := Blk.new (w2) [.int .i64 Pl.Ver.zero.maj, .int .i64 Pl.Ver.zero.min, .int .i64 Pl.Ver.zero.pat, .slice px Pl.Ver.zero.pre.length cx] 24 (g := w2.heap.size) (by simp)
  replace B2 := (B2.alloc B2.size (.cells #[.int .i64 f1, .int .i64 f2] 27))
  replace XA := (XA.alloc (.cells #[.int .i64 f1, .int .i64 f2] 27))
  replace XB := (XB.alloc (.cells #[.int .i64 f1, .int .i64 f2] 27))
  replace VX := Lib.hid (VX.out.below (B := ((w2).alloc (.cells #[.int .i64 Pl.Ver.zero.maj, .int .i64 Pl.Ver.zero.min, .int .i64 Pl.Ver.zero.pat, .slice px Pl.Ver.zero.pre.length cx] 24)).heap.size) (w' := ((w2).alloc (.cells #[.int .i64 Pl.Ver.zero.maj, .int .i64 Pl.Ver.zero.min, .int .i64 Pl.Ver.zero.pat, .slice px Pl.Ver.zero.pre.length cx] 24)).alloc (.cells #[.int .i64 f1, .int .i64 f2] 27)) ((Below.refl _ _).alloc (Nat.le_refl _) _) (Nat.le_refl _))
  replace T5 := (T5.alloc (.cells #[.int .i64 f1, .int .i64 f2] 27))
  have T6 : Box2 (((w2).alloc (.cells #[.int .i64 Pl.Ver.zero.maj, .int .i64 Pl.Ver.zero.min, .int .i64 Pl.Ver.zero.pat, .slice px Pl.Ver.zero.pre.length cx] 24)).alloc (.cells #[.int .i64 f1, .int .i64 f2] 27)) (w2.heap.size + 1) (.int .i64 f1) (.int .i64 f2) := Box2.newAt (w := (w2).alloc (.cells #[.int .i64 Pl.Ver.zero.maj, .int .i64 Pl.Ver.zero.min, .int .i64 Pl.Ver.zero.pat, .slice px Pl.Ver.zero.pre.length cx] 24)) (r := w2.heap.size + 1) (x := .int .i64 f1) (y := .int .i64 f2) (t := 27) (by simp)
  refine (CS.out _ _ _ _ _ VX.out (VIn.zero _)).mono ?_
  rintro e w3 ⟨rfl, hb⟩
  have hk : Below (((w2).alloc (.cells #[.int .i64 Pl.Ver.zero.maj, .int .i64 Pl.Ver.zero.min, .int .i64 Pl.Ver.zero.pat, .slice px Pl.Ver.zero.pre.length cx] 24)).alloc (.cells #[.int .i64 f1, .int .i64 f2] 27)).heap.size (((w2).alloc (.cells #[.int .i64 Pl.Ver.zero.maj, .int .i64 Pl.Ver.zero.min, .int .i64 Pl.Ver.zero.pat, .slice px Pl.Ver.zero.pre.length cx] 24)).alloc (.cells #[.int .i64 f1, .int .i64 f2] 27)) w3 := hb
  have s3 : w.heap.size ≤ w3.heap.size := Nat.le_trans B2.size hk.size
  have q3 : w2.heap.size + 2 ≤ w3.heap.size := by have z := hk.size; (try simp only [World.size_alloc] at z); omega
  have B3 : Below w.heap.size w w3 := bcall B2 hk B2.size
  replace XA := XA.below hk XA.lt
  replace XB := XB.below hk XB.lt
  replace VX := Lib.hid (VX.out.below hk (Nat.le_refl _))
  replace T5 := T5.below hk T5.lt
  replace T6 := T6.below hk T6.lt
  clear B2 hk hb
  clear XA_0 XA_1 XA_2 XA_3 XA_l XB_0 XB_1 XB_2 XB_3 XB_l
  have XA_0 := XA.c 0 _ rfl
  have XA_1 := XA.c 1 _ rfl
  have XA_2 := XA.c 2 _ rfl
  have XA_3 := XA.c 3 _ rfl
  have XA_l := XA.lt
  have XB_0 := XB.c 0 _ rfl
  have XB_1 := XB.c 1 _ rfl
  have XB_2 := XB.c 2 _ rfl
  have XB_3 := XB.c 3 _ rfl
  have XB_l := XB.lt
  have T5_0 := T5.c 0 _ rfl
  have T5_1 := T5.c 1 _ rfl
  have T5_2 := T5.c 2 _ rfl
  have T5_3 := T5.c 3 _ rfl
  have T5_l := T5.lt
  obtain ⟨T6_0, T6_1, T6_f0, T6_f1, T6_l⟩ := id T6
  go_wp2_with fail
  go_ret
  exact ⟨rfl, B3⟩
set_option maxRecDepth 100000 in
set_option maxHeartbeats 4000000 in
theorem vns_B (a b : Pl.Ver) (pa pb : Option Addr) (ca cb : Nat) (w : World) (E : Env w) (ha : VIn w a pa ca) (hb : VIn w b pb cb) (en : Pl.nextF a = (0, 0)) (f1 f2 : Int) (hf : f1 ≠ 0) (eb : Pl.vrF b = (f1, f2)) :
    Calls Tryd.prog 7 #[verV a pa ca, verV b pb cb] w fun e w' => e = .returned (.bool true) ∧ Below w.heap.size w w' := by
  have HE := Lib.hid E
  have HA := Lib.hid ha
  have HB := Lib.hid hb
  have u1 := bneT hf
  have u2 := beqF hf
  obtain ⟨n, em⟩ : ∃ n, Pl.nextV a = n := ⟨_, rfl⟩
  have CX := Lib.hid (fun (W : World) (h : VIn W a pa ca) => Next_any a pa ca W h)
  rw [en, em] at CX
  delta RVerF at CX
  simp only [fltV] at CX
  have CB := Lib.hid (fun (W : World) (h : VIn W b pb cb) => VersionFault_any b pb cb W h)
  rw [eb] at CB
  simp only [fltV] at CB
  obtain ⟨sb, esb⟩ : ∃ x, Pl.sameB n Pl.Ver.zero = x := ⟨_, rfl⟩
  have CS := Lib.hid (fun (W : World) (p q : Option Addr) (c d : Nat) (h : VIn W n p c) (h2 : VIn W Pl.Ver.zero q d) => SameVersion_any n Pl.Ver.zero p q c d W h h2)
  rw [esb] at CS
  clear esb
  clear E ha hb en em eb hf
  go_enter Tryd.func7, Tryd.ntmps7
  have B0 : Below w.heap.size w w := Below.refl _ _
  go_wp2_with fail
  replace B0 := (B0.alloc B0.size (.cells #[.int .i64 a.maj, .int .i64 a.min, .int .i64 a.pat, .slice pa a.pre.length ca] 24))
  have XA : Blk ((w).alloc (.cells #[.int .i64 a.maj, .int .i64 a.min, .int .i64 a.pat, .slice pa a.pre.length ca] 24)) (w.heap.size) [.int .i64 a.maj, .int .i64 a.min, .int .i64 a.pat, .slice pa a.pre.length ca] := Blk.new (w) [.int .i64 a.maj, .int .i64 a.min, .int .i64 a.pat, .slice pa a.pre.length ca] 24 (g := w.heap.size) (by simp)
  replace B0 := (B0.alloc B0.size (.cells #[.int .i64 b.maj, .int .i64 b.min, .int .i64 b.pat, .slice pb b.pre.length cb] 24))
  replace XA := (XA.alloc (.cells #[.int .i64 b.maj, .int .i64 b.min, .int .i64 b.pat, .slice pb b.pre.length cb] 24))
  have XB : Blk (((w).alloc (.cells #[.int .i64 a.maj, .int .i64 a.min, .int .i64 a.pat, .slice pa a.pre.length ca] 24)).alloc (.cells #[.int .i64 b.maj, .int .i64 b.min, .int .i64 b.pat, .slice pb b.pre.length cb] 24)) (w.heap.size + 1) [.int .i64 b.maj, .int .i64 b.min, .int .i64 b.pat, .slice pb b.pre.length cb] := Blk.new ((w).alloc (.cells #[.int .i64 a.maj, .int .i64 a.min, .int .i64 a.pat, .slice pa a.pre.length ca] 24)) [.int .i64 b.maj, .int .i64 b.min, .int .i64 b.pat, .slice pb b.pre.length cb] 24 (g := w.heap.size + 1) (by simp)
  refine (orders_any _ (HE.out.below B0 (Nat.le_refl _))).mono ?_
  rintro e w1 ⟨rfl, hb⟩
  have hk : Below (((w).alloc (.cells #[.int .i64 a.maj, .int .i64 a.min, .int .i64 a.pat, .slice pa a.pre.length ca] 24)).alloc (.cells #[.int .i64 b.maj, .int .i64 b.min, .int .i64 b.pat, .slice pb b.pre.length cb] 24)).heap.size (((w).alloc (.cells #[.int .i64 a.maj, .int .i64 a.min, .int .i64 a.pat, .slice pa a.pre.length ca] 24)).alloc (.cells #[.int .i64 b.maj, .int .i64 b.min, .int .i64 b.pat, .slice pb b.pre.length cb] 24)) w1 := hb
  have s1 : w.heap.size ≤ w1.heap.size := Nat.le_trans B0.size hk.size
  have q1 : w.heap.size + 2 ≤ w1.heap.size := by have z := hk.size; (try simp only [World.size_alloc] at z); omega
  have B1 : Below w.heap.size w w1 := bcall B0 hk B0.size
  replace XA := XA.below hk XA.lt
  replace XB := XB.below hk XB.lt
  clear B0 hk hb
  have XA_0 := XA.c 0 _ rfl
  have XA_1 := XA.c 1 _ rfl
  have XA_2 := XA.c 2 _ rfl
  have XA_3 := XA.c 3 _ rfl
  have XA_l := XA.lt
  have XB_0 := XB.c 0 _ rfl
  have XB_1 := XB.c 1 _ rfl
  have XB_2 := XB.c 2 _ rfl
  have XB_3 := XB.c 3 _ rfl
  have XB_l := XB.lt
  go_wp2_with fail
  refine (CX.out _ (HA.out.below B1 (Nat.le_refl _))).mono ?_
  rintro e w2 ⟨px, cx, rfl, vx, hb⟩
  have VX := Lib.hid vx
  clear vx
  have hk : Below (w1).heap.size (w1) w2 := hb
  have s2 : w.heap.size ≤ w2.heap.size := Nat.le_trans B1.size hk.size
  have q2 : w1.heap.size + 0 ≤ w2.heap.size := by have z := hk.size; (try simp only [World.size_alloc, World.size_setCell] at z); omega
  have B2 : Below w.heap.size w w2 := bcall B1 hk B1.size
  replace XA := XA.below hk XA.lt
  replace XB := XB.below hk XB.lt
  clear B1 hk hb
  clear XA_0 XA_1 XA_2 XA_3 XA_l XB_0 XB_1 XB_2 XB_3 XB_l
  have XA_0 := XA.c 0 _ rfl
  have XA_1 := XA.c 1 _ rfl
  have XA_2 := XA.c 2 _ rfl
  have XA_3 := XA.c 3 _ rfl
  have XA_l := XA.lt
  have XB_0 := XB.c 0 _ rfl
  have XB_1 := XB.c 1 _ rfl
  have XB_2 := XB.c 2 _ rfl
  have XB_3 := XB.c 3 _ rfl
  have XB_l := XB.lt
  go_wp2_with fail
  replace B2 := (B2.alloc B2.size (.cells #[.int .i64 n.maj, .int .i64 n.min, .int .i64 n.pat, .slice px n.pre.length cx] 24))
  replace XA := (XA.alloc (.cells #[.int .i64 n.maj, .int .i64 n.min, .int .i64 n.pat, .slice px n.pre.length cx] 24))
  replace XB := (XB.alloc (.cells #[.int .i64 n.maj, .int .i64 n.min, .int .i64 n.pat, .slice px n.pre.length cx] 24))
  replace VX := Lib.hid (VX.out.below (B := (w2).heap.size) (w' := (w2).alloc (.cells #[.int .i64 n.maj, .int .i64 n.min, .int .i64 n.pat, .slice px n.pre.length cx] 24)) ((Below.refl _ _).alloc (Nat.le_refl _) _) (Nat.le_refl _))
  have T5 : Blk ((w2).alloc (.cells #[.int .i64 n.maj, .int .i64 n.min, .int .i64 n.pat, .slice px n.pre.length cx] 24)) (w2.heap.size) [.int .i64 n.maj, .int .i64 n.min, .int .i64 n.pat, .slice px n.pre.length cx] := Blk.new (w2) [.int .i64 n.maj, .int .i64 n.min, .int .i64 n.pat, .slice px n.pre.length cx] 24 (g := w2.heap.size) (by simp)
  replace B2 := (B2.alloc B2.size (.cells #[.int .i64 0, .int .i64 0] 27))
  replace XA := (XA.alloc (.cells #[.int .i64 0, .int .i64 0] 27))
  replace XB := (XB.alloc (.cells #[.int .i64 0, .int .i64 0] 27))
  replace VX := Lib.hid (VX.out.below (B := ((w2).alloc (.cells #[.int .i64 n.maj, .int .i64 n.min, .int .i64 n.pat, .slice px n.pre.length cx] 24)).heap.size) (w' := ((w2).alloc (.cells #[.int .i64 n.maj, .int .i64 n.min, .int .i64 n.pat, .slice px n.pre.length cx] 24)).alloc (.cells #[.int .i64 0, .int .i64 0] 27)) ((Below.refl _ _).alloc (Nat.le_refl _) _) (Nat.le_refl _))
  replace T5 := (T5.alloc (.cells #[.int .i64 0, .int .i64 0] 27))
  have T6 : Box2 (((w2).alloc (.cells #[.int .i64 n.maj, .int .i64 n.min, .int .i64 n.pat, .slice px n.pre.length cx] 24)).alloc (.cells #[.int .i64 0, .int .i64 0] 27)) (w2.heap.size + 1) (.int .i64 0) (.int .i64 0) := Box2.newAt (w := (w2).alloc (.cells #[.int .i64 n.maj, .int .i64 n.min, .int .i64 n.pat, .slice px n.pre.length cx] 24)) (r := w2.heap.size + 1) (x := .int .i64 0) (y := .int .i64 0) (t := 27) (by simp)
  refine (CB.out _ (HB.out.below B2 (Nat.le_refl _))).mono ?_
  rintro e w3 ⟨rfl, hb⟩
  have hk : Below (((w2).alloc (.cells #[.int .i64 n.maj, .int .i64 n.min, .int .i64 n.pat, .slice px n.pre.length cx] 24)).alloc (.cells #[.int .i64 0, .int .i64 0] 27)).heap.size (((w2).alloc (.cells #[.int .i64 n.maj, .int .i64 n.min, .int .i64 n.pat, .slice px n.pre.length cx] 24)).alloc (.cells #[.int .i64 0, .int .i64 0] 27)) w3 := hb
  have s3 : w.heap.size ≤ w3.heap.size := Nat.le_trans B2.size hk.size
  have q3 : w2.heap.size + 2 ≤ w3.heap.size := by have z := hk.size; (try simp only [World.size_alloc] at z); omega
  have B3 : Below w.heap.size w w3 := bcall B2 hk B2.size
  replace XA := XA.below hk XA.lt
  replace XB := XB.below hk XB.lt
  replace VX := Lib.hid (VX.out.below hk (Nat.le_refl _))
  replace T5 := T5.below hk T5.lt
  replace T6 := T6.below hk T6.lt
  clear B2 hk hb
  clear XA_0 XA_1 XA_2 XA_3 XA_l XB_0 XB_1 XB_2 XB_3 XB_l
  have XA_0 := XA.c 0 _ rfl
  have XA_1 := XA.c 1 _ rfl
  have XA_2 := XA.c 2 _ rfl
  have XA_3 := XA.c 3 _ rfl
  have XA_l := XA.lt
  have XB_0 := XB.c 0 _ rfl
  have XB_1 := XB.c 1 _ rfl
  have XB_2 := XB.c 2 _ rfl
  have XB_3 := XB.c 3 _ rfl
  have XB_l := XB.lt
  have T5_0 := T5.c 0 _ rfl
  have T5_1 := T5.c 1 _ rfl
  have T5_2 := T5.c 2 _ rfl
  have T5_3 := T5.c 3 _ rfl
  have T5_l := T5.lt
  obtain ⟨T6_0, T6_1, T6_f0, T6_f1, T6_l⟩ := id T6
  go_wp2_with fail
  cases sb
  · refine (CS.out _ _ _ _ _ VX.out (VIn.zero _)).mono ?_
    rintro e w4 ⟨rfl, hb⟩
    have hk : Below (w3).heap.size (w3) w4 := hb
    have s4 : w.heap.size ≤ w4.heap.size := Nat.le_trans B3.size hk.size
    have q4 : w3.heap.size + 0 ≤ w4.heap.size := by have z := hk.size; (try simp only [World.size_alloc, World.size_setCell] at z); omega
    have B4 : Below w.heap.size w w4 := bcall B3 hk B3.size
    replace XA := XA.below hk XA.lt
    replace XB := XB.below hk XB.lt
    replace VX := Lib.hid (VX.out.below hk (Nat.le_refl _))
    replace T5 := T5.below hk T5.lt
    replace T6 := T6.below hk T6.lt
    clear B3 hk hb
    clear XA_0 XA_1 XA_2 XA_3 XA_l XB_0 XB_1 XB_2 XB_3 XB_l T5_0 T5_1 T5_2 T5_3 T5_l T6_0 T6_1 T6_f0 T6_f1 T6_l
    have XA_0 := XA.c 0 _ rfl
    have XA_1 := XA.c 1 _ rfl
    have XA_2 := XA.c 2 _ rfl
    have XA_3 := XA.c 3 _ rfl
    have XA_l := XA.lt
    have XB_0 := XB.c 0 _ rfl
    have XB_1 := XB.c 1 _ rfl
    have XB_2 := XB.c 2 _ rfl
    have XB_3 := XB.c 3 _ rfl
    have XB_l := XB.lt
    have T5_0 := T5.c 0 _ rfl
    have T5_1 := T5.c 1 _ rfl
    have T5_2 := T5.c 2 _ rfl
    have T5_3 := T5.c 3 _ rfl
    have T5_l := T5.lt
    obtain ⟨T6_0, T6_1, T6_f0, T6_f1, T6_l⟩ := id T6
    go_wp2_with fail
    go_ret
    exact ⟨rfl, B4⟩
  · refine (CS.out _ _ _ _ _ VX.out (VIn.zero _)).mono ?_
    rintro e w4 ⟨rfl, hb⟩
    have hk : Below (w3).heap.size (w3) w4 := hb
    have s4 : w.heap.size ≤ w4.heap.size := Nat.le_trans B3.size hk.size
    have q4 : w3.heap.size + 0 ≤ w4.heap.size := by have z := hk.size; (try simp only [World.size_alloc, World.size_setCell] at z); omega
    have B4 : Below w.heap.size w w4 := bcall B3 hk B3.size
    replace XA := XA.below hk XA.lt
    replace XB := XB.below hk XB.lt
    replace VX := Lib.hid (VX.out.below hk (Nat.le_refl _))
    replace T5 := T5.below hk T5.lt
    replace T6 := T6.below hk T6.lt
    clear B3 hk hb
    clear XA_0 XA_1 XA_2 XA_3 XA_l XB_0 XB_1 XB_2 XB_3 XB_l T5_0 T5_1 T5_2 T5_3 T5_l T6_0 T6_1 T6_f0 T6_f1 T6_l
    have XA_0 := XA.c 0 _ rfl
    have XA_1 := XA.c 1 _ rfl
    have XA_2 := XA.c 2 _ rfl
    have XA_3 := XA.c 3 _ rfl
    have XA_l := XA.lt
    have XB_0 := XB.c 0 _ rfl
    have XB_1 := XB.c 1 _ rfl
    have XB_2 := XB.c 2 _ rfl
    have XB_3 := XB.c 3 _ rfl
    have XB_l := XB.lt
    have T5_0 := T5.c 0 _ rfl
    have T5_1 := T5.c 1 _ rfl
    have T5_2 := T5.c 2 _ rfl
    have T5_3 := T5.c 3 _ rfl
    have T5_l := T5.lt
    obtain ⟨T6_0, T6_1, T6_f0, T6_f1, T6_l⟩ := id T6
    go_wp2_with fail
    go_ret
    exact ⟨rfl, B4⟩
set_option maxRecDepth 100000 in
set_option maxHeartbeats 4000000 in
theorem vns_Gt (a b : Pl.Ver) (pa pb : Option Addr) (ca cb : Nat) (w : World) (E : Env w) (ha : VIn w a pa ca) (hb : VIn w b pb cb) (oka : a.Ok) (okb : b.Ok) (n : Pl.Ver) (okn : n.Ok) (en : Pl.nextF a = (0, 0)) (em : Pl.nextV a = n) (k l : Int) (hn : Pl.verCmp a n = -1) (hk : Pl.verCmp a b = k) (hl : Pl.verCmp n b = l) (h1 : decide (k < 0) = true) (h2 : decide (l ≤ 0) = true) :
    Calls Tryd.prog 7 #[verV a pa ca, verV b pb cb] w fun e w' => e = .returned (.bool true) ∧ Below w.heap.size w w' := by
  have HE := Lib.hid E
  have HA := Lib.hid ha
  have HB := Lib.hid hb
  have CX := Lib.hid (fun (W : World) (h : VIn W a pa ca) => Next_any a pa ca W h)
  rw [en, em] at CX
  delta RVerF at CX
  simp only [fltV] at CX
  have eb := Pl.vrF_ok okb
  have CB := Lib.hid (fun (W : World) (h : VIn W b pb cb) => VersionFault_any b pb cb W h)
  rw [eb] at CB
  simp only [fltV] at CB
  have KAN := Lib.hid (fun (W : World) (p : Option Addr) (c : Nat) (h : VIn W a pa ca) (h2 : VIn W n p c) => lcompare_any a n pa p ca c W h h2 oka okn)
  rw [hn] at KAN
  have KAB := Lib.hid (fun (W : World) (h : VIn W a pa ca) (h2 : VIn W b pb cb) => lcompare_any a b pa pb ca cb W h h2 oka okb)
  rw [hk] at KAB
  have KNB := Lib.hid (fun (W : World) (p : Option Addr) (c : Nat) (h : VIn W n p c) (h2 : VIn W b pb cb) => lcompare_any n b p pb c cb W h h2 okn okb)
  rw [hl] at KNB
  clear hn hk hl
  clear E ha hb en em eb
  go_enter Tryd.func7, Tryd.ntmps7
  have B0 : Below w.heap.size w w := Below.refl _ _
  go_wp2_with fail
  replace B0 := (B0.alloc B0.size (.cells #[.int .i64 a.maj, .int .i64 a.min, .int .i64 a.pat, .slice pa a.pre.length ca] 24))
  have XA : Blk ((w).alloc (.cells #[.int .i64 a.maj, .int .i64 a.min, .int .i64 a.pat, .slice pa a.pre.length ca] 24)) (w.heap.size) [.int .i64 a.maj, .int .i64 a.min, .int .i64 a.pat, .slice pa a.pre.length ca] := Blk.new (w) [.int .i64 a.maj, .int .i64 a.min, .int .i64 a.pat, .slice pa a.pre.length ca] 24 (g := w.heap.size) (by simp)
  replace B0 := (B0.alloc B0.size (.cells #[.int .i64 b.maj, .int .i64 b.min, .int .i64 b.pat, .slice pb b.pre.length cb] 24))
  replace XA := (XA.alloc (.cells #[.int .i64 b.maj, .int .i64 b.min, .int .i64 b.pat, .slice pb b.pre.length cb] 24))
  have XB : Blk (((w).alloc (.cells #[.int .i64 a.maj, .int .i64 a.min, .int .i64 a.pat, .slice pa a.pre.length ca] 24)).alloc (.cells #[.int .i64 b.maj, .int .i64 b.min, .int .i64 b.pat, .slice pb b.pre.length cb] 24)) (w.heap.size + 1) [.int .i64 b.maj, .int .i64 b.min, .int .i64 b.pat, .slice pb b.pre.length cb] := Blk.new ((w).alloc (.cells #[.int .i64 a.maj, .int .i64 a.min, .int .i64 a.pat, .slice pa a.pre.length ca] 24)) [.int .i64 b.maj, .int .i64 b.min, .int .i64 b.pat, .slice pb b.pre.length cb] 24 (g := w.heap.size + 1) (by simp)
  refine (orders_any _ (HE.out.below B0 (Nat.le_refl _))).mono ?_
  rintro e w1 ⟨rfl, hb⟩
  have hk : Below (((w).alloc (.cells #[.int .i64 a.maj, .int .i64 a.min, .int .i64 a.pat, .slice pa a.pre.length ca] 24)).alloc (.cells #[.int .i64 b.maj, .int .i64 b.min, .int .i64 b.pat, .slice pb b.pre.length cb] 24)).heap.size (((w).alloc (.cells #[.int .i64 a.maj, .int .i64 a.min, .int .i64 a.pat, .slice pa a.pre.length ca] 24)).alloc (.cells #[.int .i64 b.maj, .int .i64 b.min, .int .i64 b.pat, .slice pb b.pre.length cb] 24)) w1 := hb
  have s1 : w.heap.size ≤ w1.heap.size := Nat.le_trans B0.size hk.size
  have q1 : w.heap.size + 2 ≤ w1.heap.size := by have z := hk.size; (try simp only [World.size_alloc] at z); omega
  have B1 : Below w.heap.size w w1 := bcall B0 hk B0.size
  replace XA := XA.below hk XA.lt
  replace XB := XB.below hk XB.lt
  clear B0 hk hb
  have XA_0 := XA.c 0 _ rfl
  have XA_1 := XA.c 1 _ rfl
  have XA_2 := XA.c 2 _ rfl
  have XA_3 := XA.c 3 _ rfl
  have XA_l := XA.lt
  have XB_0 := XB.c 0 _ rfl
  have XB_1 := XB.c 1 _ rfl
  have XB_2 := XB.c 2 _ rfl
  have XB_3 := XB.c 3 _ rfl
  have XB_l := XB.lt
  go_wp2_with fail
  refine (CX.out _ (HA.out.below B1 (Nat.le_refl _))).mono ?_
  rintro e w2 ⟨px, cx, rfl, vx, hb⟩
  have VX := Lib.hid vx
  clear vx
  have hk : Below (w1).heap.size (w1) w2 := hb
  have s2 : w.heap.size ≤ w2.heap.size := Nat.le_trans B1.size hk.size
  have q2 : w1.heap.size + 0 ≤ w2.heap.size := by have z := hk.size; (try simp only [World.size_alloc, World.size_setCell] at z); omega
  have B2 : Below w.heap.size w w2 := bcall B1 hk B1.size
  replace XA := XA.below hk XA.lt
  replace XB := XB.below hk XB.lt
  clear B1 hk hb
  clear XA_0 XA_1 XA_2 XA_3 XA_l XB_0 XB_1 XB_2 XB_3 XB_l
  have XA_0 := XA.c 0 _ rfl
  have XA_1 := XA.c 1 _ rfl
  have XA_2 := XA.c 2 _ rfl
  have XA_3 := XA.c 3 _ rfl
  have XA_l := XA.lt
  have XB_0 := XB.c 0 _ rfl
  have XB_1 := XB.c 1 _ rfl
  have XB_2 := XB.c 2 _ rfl
  have XB_3 := XB.c 3 _ rfl
  have XB_l := XB.lt
  go_wp2_with fail
  replace B2 := (B2.alloc B2.size (.cells #[.int .i64 n.maj, .int .i64 n.min, .int .i64 n.pat, .slice px n.pre.length cx] 24))
  replace XA := (XA.alloc (.cells #[.int .i64 n.maj, .int .i64 n.min, .int .i64 n.pat, .slice px n.pre.length cx] 24))
  replace XB := (XB.alloc (.cells #[.int .i64 n.maj, .int .i64 n.min, .int .i64 n.pat, .slice px n.pre.length cx] 24))
  replace VX := Lib.hid (VX.out.below (B := (w2).heap.size) (w' := (w2).alloc (.cells #[.int .i64 n.maj, .int .i64 n.min, .int .i64 n.pat, .slice px n.pre.length cx] 24)) ((Below.refl _ _).alloc (Nat.le_refl _) _) (Nat.le_refl _))
  have T5 : Blk ((w2).alloc (.cells #[.int .i64 n.maj, .int .i64 n.min, .int .i64 n.pat, .slice px n.pre.length cx] 24)) (w2.heap.size) [.int .i64 n.maj, .int .i64 n.min, .int .i64 n.pat, .slice px n.pre.length cx] := Blk.new (w2) [.int .i64 n.maj, .int .i64 n.min, .int .i64 n.pat, .slice px n.pre.length cx] 24 (g := w2.heap.size) (by simp)
  replace B2 := (B2.alloc B2.size (.cells #[.int .i64 0, .int .i64 0] 27))
  replace XA := (XA.alloc (.cells #[.int .i64 0, .int .i64 0] 27))
  replace XB := (XB.alloc (.cells #[.int .i64 0, .int .i64 0] 27))
  replace VX := Lib.hid (VX.out.below (B := ((w2).alloc (.cells #[.int .i64 n.maj, .int .i64 n.min, .int .i64 n.pat, .slice px n.pre.length cx] 24)).heap.size) (w' := ((w2).alloc (.cells #[.int .i64 n.maj, .int .i64 n.min, .int .i64 n.pat, .slice px n.pre.length cx] 24)).alloc (.cells #[.int .i64 0, .int .i64 0] 27)) ((Below.refl _ _).alloc (Nat.le_refl _) _) (Nat.le_refl _))
  replace T5 := (T5.alloc (.cells #[.int .i64 0, .int .i64 0] 27))
  have T6 : Box2 (((w2).alloc (.cells #[.int .i64 n.maj, .int .i64 n.min, .int .i64 n.pat, .slice px n.pre.length cx] 24)).alloc (.cells #[.int .i64 0, .int .i64 0] 27)) (w2.heap.size + 1) (.int .i64 0) (.int .i64 0) := Box2.newAt (w := (w2).alloc (.cells #[.int .i64 n.maj, .int .i64 n.min, .int .i64 n.pat, .slice px n.pre.length cx] 24)) (r := w2.heap.size + 1) (x := .int .i64 0) (y := .int .i64 0) (t := 27) (by simp)
  refine (CB.out _ (HB.out.below B2 (Nat.le_refl _))).mono ?_
  rintro e w3 ⟨rfl, hb⟩
  have hk : Below (((w2).alloc (.cells #[.int .i64 n.maj, .int .i64 n.min, .int .i64 n.pat, .slice px n.pre.length cx] 24)).alloc (.cells #[.int .i64 0, .int .i64 0] 27)).heap.size (((w2).alloc (.cells #[.int .i64 n.maj, .int .i64 n.min, .int .i64 n.pat, .slice px n.pre.length cx] 24)).alloc (.cells #[.int .i64 0, .int .i64 0] 27)) w3 := hb
  have s3 : w.heap.size ≤ w3.heap.size := Nat.le_trans B2.size hk.size
  have q3 : w2.heap.size + 2 ≤ w3.heap.size := by have z := hk.size; (try simp only [World.size_alloc] at z); omega
  have B3 : Below w.heap.size w w3 := bcall B2 hk B2.size
  replace XA := XA.below hk XA.lt
  replace XB := XB.below hk XB.lt
  replace VX := Lib.hid (VX.out.below hk (Nat.le_refl _))
  replace T5 := T5.below hk T5.lt
  replace T6 := T6.below hk T6.lt
  clear B2 hk hb
  clear XA_0 XA_1 XA_2 XA_3 XA_l XB_0 XB_1 XB_2 XB_3 XB_l
  have XA_0 := XA.c 0 _ rfl
  have XA_1 := XA.c 1 _ rfl
  have XA_2 := XA.c 2 _ rfl
  have XA_3 := XA.c 3 _ rfl
  have XA_l := XA.lt
  have XB_0 := XB.c 0 _ rfl
  have XB_1 := XB.c 1 _ rfl
  have XB_2 := XB.c 2 _ rfl
  have XB_3 := XB.c 3 _ rfl
  have XB_l := XB.lt
  have T5_0 := T5.c 0 _ rfl
  have T5_1 := T5.c 1 _ rfl
  have T5_2 := T5.c 2 _ rfl
  have T5_3 := T5.c 3 _ rfl
  have T5_l := T5.lt
  obtain ⟨T6_0, T6_1, T6_f0, T6_f1, T6_l⟩ := id T6
  go_wp2_with fail
  refine wp_region_ord [0, 1, 2, 3, 4, 5, 6, 9, 10, 7, 8, 11, 12, 13, 14, 15] (by kernel_rfl) (by kernel_rfl) ?_
  have q4 : w3.heap.size + 0 ≤ (w3).drew.heap.size := by simp only [World.size_drew]; omega
  replace B3 := B3.drew
  replace XA := XA.drew
  replace XB := XB.drew
  replace VX := Lib.hid (VX.out.below (B := (w3).heap.size) (w' := (w3).drew) (Below.refl _ _).drew (Nat.le_refl _))
  replace T5 := T5.drew
  replace T6 := T6.drew
  clear XA_0 XA_1 XA_2 XA_3 XA_l XB_0 XB_1 XB_2 XB_3 XB_l T5_0 T5_1 T5_2 T5_3 T5_l T6_0 T6_1 T6_f0 T6_f1 T6_l
  generalize (w3).drew = w4 at *
  have s4 : w.heap.size ≤ w4.heap.size := B3.size
  have XA_0 := XA.c 0 _ rfl
  have XA_1 := XA.c 1 _ rfl
  have XA_2 := XA.c 2 _ rfl
  have XA_3 := XA.c 3 _ rfl
  have XA_l := XA.lt
  have XB_0 := XB.c 0 _ rfl
  have XB_1 := XB.c 1 _ rfl
  have XB_2 := XB.c 2 _ rfl
  have XB_3 := XB.c 3 _ rfl
  have XB_l := XB.lt
  have T5_0 := T5.c 0 _ rfl
  have T5_1 := T5.c 1 _ rfl
  have T5_2 := T5.c 2 _ rfl
  have T5_3 := T5.c 3 _ rfl
  have T5_l := T5.lt
  obtain ⟨T6_0, T6_1, T6_f0, T6_f1, T6_l⟩ := id T6
  repeat (first | (refine wpI_rd rfl rfl ?_; go_big_quiet_step (fail); refine wpQuiet_nil ?_) | (refine wpI_skip rfl rfl ?_; try simp only [Act.put, List.setIfInBounds_toArray, List.set_cons_zero, List.set_cons_succ]))
  try simp only [Act.put, List.setIfInBounds_toArray, List.set_cons_zero, List.set_cons_succ]
  refine wpI_call (f := 22) rfl rfl rfl (by simp [go_sem]; rfl) ?_
  refine (KAN.out _ _ _ (HA.out.below B3 (Nat.le_refl _)) VX.out).mono ?_
  rintro e w5 ⟨rfl, hb⟩
  refine ⟨_, rfl, hb, ?_⟩
  skip
  have hk : Below (w4).heap.size (w4) w5 := hb
  have s5 : w.heap.size ≤ w5.heap.size := Nat.le_trans B3.size hk.size
  have q5 : w4.heap.size + 0 ≤ w5.heap.size := by have z := hk.size; (try simp only [World.size_alloc, World.size_setCell] at z); omega
  have B5 : Below w.heap.size w w5 := bcall B3 hk B3.size
  replace XA := XA.below hk XA.lt
  replace XB := XB.below hk XB.lt
  replace VX := Lib.hid (VX.out.below hk (Nat.le_refl _))
  replace T5 := T5.below hk T5.lt
  replace T6 := T6.below hk T6.lt
  clear B3 hk hb
  clear XA_0 XA_1 XA_2 XA_3 XA_l XB_0 XB_1 XB_2 XB_3 XB_l T5_0 T5_1 T5_2 T5_3 T5_l T6_0 T6_1 T6_f0 T6_f1 T6_l
  have XA_0 := XA.c 0 _ rfl
  have XA_1 := XA.c 1 _ rfl
  have XA_2 := XA.c 2 _ rfl
  have XA_3 := XA.c 3 _ rfl
  have XA_l := XA.lt
  have XB_0 := XB.c 0 _ rfl
  have XB_1 := XB.c 1 _ rfl
  have XB_2 := XB.c 2 _ rfl
  have XB_3 := XB.c 3 _ rfl
  have XB_l := XB.lt
  have T5_0 := T5.c 0 _ rfl
  have T5_1 := T5.c 1 _ rfl
  have T5_2 := T5.c 2 _ rfl
  have T5_3 := T5.c 3 _ rfl
  have T5_l := T5.lt
  obtain ⟨T6_0, T6_1, T6_f0, T6_f1, T6_l⟩ := id T6
  try simp only [Act.put, List.setIfInBounds_toArray, List.set_cons_zero, List.set_cons_succ]
  repeat (first | (refine wpI_rd rfl rfl ?_; go_big_quiet_step (fail); refine wpQuiet_nil ?_) | (refine wpI_skip rfl rfl ?_; try simp only [Act.put, List.setIfInBounds_toArray, List.set_cons_zero, List.set_cons_succ]))
  try simp only [Act.put, List.setIfInBounds_toArray, List.set_cons_zero, List.set_cons_succ]
  refine wpI_call (f := 22) rfl rfl rfl (by simp [go_sem]; rfl) ?_
  refine (KAB.out _ (HA.out.below B5 (Nat.le_refl _)) (HB.out.below B5 (Nat.le_refl _))).mono ?_
  rintro e w6 ⟨rfl, hb⟩
  refine ⟨_, rfl, hb, ?_⟩
  skip
  have hk : Below (w5).heap.size (w5) w6 := hb
  have s6 : w.heap.size ≤ w6.heap.size := Nat.le_trans B5.size hk.size
  have q6 : w5.heap.size + 0 ≤ w6.heap.size := by have z := hk.size; (try simp only [World.size_alloc, World.size_setCell] at z); omega
  have B6 : Below w.heap.size w w6 := bcall B5 hk B5.size
  replace XA := XA.below hk XA.lt
  replace XB := XB.below hk XB.lt
  replace VX := Lib.hid (VX.out.below hk (Nat.le_refl _))
  replace T5 := T5.below hk T5.lt
  replace T6 := T6.below hk T6.lt
  clear B5 hk hb
  clear XA_0 XA_1 XA_2 XA_3 XA_l XB_0 XB_1 XB_2 XB_3 XB_l T5_0 T5_1 T5_2 T5_3 T5_l T6_0 T6_1 T6_f0 T6_f1 T6_l
  have XA_0 := XA.c 0 _ rfl
  have XA_1 := XA.c 1 _ rfl
  have XA_2 := XA.c 2 _ rfl
  have XA_3 := XA.c 3 _ rfl
  have XA_l := XA.lt
  have XB_0 := XB.c 0 _ rfl
  have XB_1 := XB.c 1 _ rfl
  have XB_2 := XB.c 2 _ rfl
  have XB_3 := XB.c 3 _ rfl
  have XB_l := XB.lt
  have T5_0 := T5.c 0 _ rfl
  have T5_1 := T5.c 1 _ rfl
  have T5_2 := T5.c 2 _ rfl
  have T5_3 := T5.c 3 _ rfl
  have T5_l := T5.lt
  obtain ⟨T6_0, T6_1, T6_f0, T6_f1, T6_l⟩ := id T6
  try simp only [Act.put, List.setIfInBounds_toArray, List.set_cons_zero, List.set_cons_succ]
  repeat (first | (refine wpI_rd rfl rfl ?_; go_big_quiet_step (fail); refine wpQuiet_nil ?_) | (refine wpI_skip rfl rfl ?_; try simp only [Act.put, List.setIfInBounds_toArray, List.set_cons_zero, List.set_cons_succ]))
  try simp only [Act.put, List.setIfInBounds_toArray, List.set_cons_zero, List.set_cons_succ]
  refine wpI_call (f := 22) rfl rfl rfl (by simp [go_sem]; rfl) ?_
  refine (KNB.out _ _ _ VX.out (HB.out.below B6 (Nat.le_refl _))).mono ?_
  rintro e w7 ⟨rfl, hb⟩
  refine ⟨_, rfl, hb, ?_⟩
  skip
  have hk : Below (w6).heap.size (w6) w7 := hb
  have s7 : w.heap.size ≤ w7.heap.size := Nat.le_trans B6.size hk.size
  have q7 : w6.heap.size + 0 ≤ w7.heap.size := by have z := hk.size; (try simp only [World.size_alloc, World.size_setCell] at z); omega
  have B7 : Below w.heap.size w w7 := bcall B6 hk B6.size
  replace XA := XA.below hk XA.lt
  replace XB := XB.below hk XB.lt
  replace VX := Lib.hid (VX.out.below hk (Nat.le_refl _))
  replace T5 := T5.below hk T5.lt
  replace T6 := T6.below hk T6.lt
  clear B6 hk hb
  clear XA_0 XA_1 XA_2 XA_3 XA_l XB_0 XB_1 XB_2 XB_3 XB_l T5_0 T5_1 T5_2 T5_3 T5_l T6_0 T6_1 T6_f0 T6_f1 T6_l
  have XA_0 := XA.c 0 _ rfl
  have XA_1 := XA.c 1 _ rfl
  have XA_2 := XA.c 2 _ rfl
  have XA_3 := XA.c 3 _ rfl
  have XA_l := XA.lt
  have XB_0 := XB.c 0 _ rfl
  have XB_1 := XB.c 1 _ rfl
  have XB_2 := XB.c 2 _ rfl
  have XB_3 := XB.c 3 _ rfl
  have XB_l := XB.lt
  have T5_0 := T5.c 0 _ rfl
  have T5_1 := T5.c 1 _ rfl
  have T5_2 := T5.c 2 _ rfl
  have T5_3 := T5.c 3 _ rfl
  have T5_l := T5.lt
  obtain ⟨T6_0, T6_1, T6_f0, T6_f1, T6_l⟩ := id T6
  try simp only [Act.put, List.setIfInBounds_toArray, List.set_cons_zero, List.set_cons_succ]
  repeat (first | (refine wpI_rd rfl rfl ?_; go_big_quiet_step (fail); refine wpQuiet_nil ?_) | (refine wpI_skip rfl rfl ?_; try simp only [Act.put, List.setIfInBounds_toArray, List.set_cons_zero, List.set_cons_succ]))
  try simp only [Act.put, List.setIfInBounds_toArray, List.set_cons_zero, List.set_cons_succ]
  refine wpI_nil ?_
  try simp only [Act.put, List.setIfInBounds_toArray, List.set_cons_zero, List.set_cons_succ]
  go_wp2_with fail
  go_ret
  exact ⟨rfl, B7⟩
set_option maxRecDepth 100000 in
set_option maxHeartbeats 4000000 in
theorem vns_Gf (a b : Pl.Ver) (pa pb : Option Addr) (ca cb : Nat) (w : World) (E : Env w) (ha : VIn w a pa ca) (hb : VIn w b pb cb) (oka : a.Ok) (okb : b.Ok) (n : Pl.Ver) (okn : n.Ok) (en : Pl.nextF a = (0, 0)) (em : Pl.nextV a = n) (k l : Int) (hn : Pl.verCmp a n = -1) (hk : Pl.verCmp a b = k) (hl : Pl.verCmp n b = l) (h1 : decide (k < 0) = false) (h2 : decide (l ≤ 0) = false) :
    Calls Tryd.prog 7 #[verV a pa ca, verV b pb cb] w fun e w' => e = .returned (.bool true) ∧ Below w.heap.size w w' := by
  have HE := Lib.hid E
  have HA := Lib.hid ha
  have HB := Lib.hid hb
  have CX := Lib.hid (fun (W : World) (h : VIn W a pa ca) => Next_any a pa ca W h)
  rw [en, em] at CX
  delta RVerF at CX
  simp only [fltV] at CX
  have eb := Pl.vrF_ok okb
  have CB := Lib.hid (fun (W : World) (h : VIn W b pb cb) => VersionFault_any b pb cb W h)
  rw [eb] at CB
  simp only [fltV] at CB
  have KAN := Lib.hid (fun (W : World) (p : Option Addr) (c : Nat) (h : VIn W a pa ca) (h2 : VIn W n p c) => lcompare_any a n pa p ca c W h h2 oka okn)
  rw [hn] at KAN
  have KAB := Lib.hid (fun (W : World) (h : VIn W a pa ca) (h2 : VIn W b pb cb) => lcompare_any a b pa pb ca cb W h h2 oka okb)
  rw [hk] at KAB
  have KNB := Lib.hid (fun (W : World) (p : Option Addr) (c : Nat) (h : VIn W n p c) (h2 : VIn W b pb cb) => lcompare_any n b p pb c cb W h h2 okn okb)
  rw [hl] at KNB
  clear hn hk hl
  clear E ha hb en em eb
  go_enter Tryd.func7, Tryd.ntmps7
  have B0 : Below w.heap.size w w := Below.refl _ _
  go_wp2_with fail
  replace B0 := (B0.alloc B0.size (.cells #[.int .i64 a.maj, .int .i64 a.min, .int .i64 a.pat, .slice pa a.pre.length ca] 24))
  have XA : Blk ((w).alloc (.cells #[.int .i64 a.maj, .int .i64 a.min, .int .i64 a.pat, .slice pa a.pre.length ca] 24)) (w.heap.size) [.int .i64 a.maj, .int .i64 a.min, .int .i64 a.pat, .slice pa a.pre.length ca] := Blk.new (w) [.int .i64 a.maj, .int .i64 a.min, .int .i64 a.pat, .slice pa a.pre.length ca] 24 (g := w.heap.size) (by simp)
  replace B0 := (B0.alloc B0.size (.cells #[.int .i64 b.maj, .int .i64 b.min, .int .i64 b.pat, .slice pb b.pre.length cb] 24))
  replace XA := (XA.alloc (.cells #[.int .i64 b.maj, .int .i64 b.min, .int .i64 b.pat, .slice pb b.pre.length cb] 24))
  have XB : Blk (((w).alloc (.cells #[.int .i64 a.maj, .int .i64 a.min, .int .i64 a.pat, .slice pa a.pre.length ca] 24)).alloc (.cells #[.int .i64 b.maj, .int .i64 b.min, .int .i64 b.pat, .slice pb b.pre.length cb] 24)) (w.heap.size + 1) [.int .i64 b.maj, .int .i64 b.min, .int .i64 b.pat, .slice pb b.pre.length cb] := Blk.new ((w).alloc (.cells #[.int .i64 a.maj, .int .i64 a.min, .int .i64 a.pat, .slice pa a.pre.length ca] 24)) [.int .i64 b.maj, .int .i64 b.min, .int .i64 b.pat, .slice pb b.pre.length cb] 24 (g := w.heap.size + 1) (by simp)
  refine (orders_any _ (HE.out.below B0 (Nat.le_refl _))).mono ?_
  rintro e w1 ⟨rfl, hb⟩
  have hk : Below (((w).alloc (.cells #[.int .i64 a.maj, .int .i64 a.min, .int .i64 a.pat, .slice pa a.pre.length ca] 24)).alloc (.cells #[.int .i64 b.maj, .int .i64 b.min, .int .i64 b.pat, .slice pb b.pre.length cb] 24)).heap.size (((w).alloc (.cells #[.int .i64 a.maj, .int .i64 a.min, .int .i64 a.pat, .slice pa a.pre.length ca] 24)).alloc (.cells #[.int .i64 b.maj, .int .i64 b.min, .int .i64 b.pat, .slice pb b.pre.length cb] 24)) w1 := hb
  have s1 : w.heap.size ≤ w1.heap.size := Nat.le_trans B0.size hk.size
  have q1 : w.heap.size + 2 ≤ w1.heap.size := by have z := hk.size; (try simp only [World.size_alloc] at z); omega
  have B1 : Below w.heap.size w w1 := bcall B0 hk B0.size
  replace XA := XA.below hk XA.lt
  replace XB := XB.below hk XB.lt
  clear B0 hk hb
  have XA_0 := XA.c 0 _ rfl
  have XA_1 := XA.c 1 _ rfl
  have XA_2 := XA.c 2 _ rfl
  have XA_3 := XA.c 3 _ rfl
  have XA_l := XA.lt
  have XB_0 := XB.c 0 _ rfl
  have XB_1 := XB.c 1 _ rfl
  have XB_2 := XB.c 2 _ rfl
  have XB_3 := XB.c 3 _ rfl
  have XB_l := XB.lt
  go_wp2_with fail
  refine (CX.out _ (HA.out.below B1 (Nat.le_refl _))).mono ?_
  rintro e w2 ⟨px, cx, rfl, vx, hb⟩
  have VX := Lib.hid vx
  clear vx
  have hk : Below (w1).heap.size (w1) w2 := hb
  have s2 : w.heap.size ≤ w2.heap.size := Nat.le_trans B1.size hk.size
  have q2 : w1.heap.size + 0 ≤ w2.heap.size := by have z := hk.size; (try simp only [World.size_alloc, World.size_setCell] at z); omega
  have B2 : Below w.heap.size w w2 := bcall B1 hk B1.size
  replace XA := XA.below hk XA.lt
  replace XB := XB.below hk XB.lt
  clear B1 hk hb
  clear XA_0 XA_1 XA_2 XA_3 XA_l XB_0 XB_1 XB_2 XB_3 XB_l
  have XA_0 := XA.c 0 _ rfl
  have XA_1 := XA.c 1 _ rfl
  have XA_2 := XA.c 2 _ rfl
  have XA_3 := XA.c 3 _ rfl
  have XA_l := XA.lt
  have XB_0 := XB.c 0 _ rfl
  have XB_1 := XB.c 1 _ rfl
  have XB_2 := XB.c 2 _ rfl
  have XB_3 := XB.c 3 _ rfl
  have XB_l := XB.lt
  go_wp2_with fail
  replace B2 := (B2.alloc B2.size (.cells #[.int .i64 n.maj, .int .i64 n.min, .int .i64 n.pat, .slice px n.pre.length cx] 24))
  replace XA := (XA.alloc (.cells #[.int .i64 n.maj, .int .i64 n.min, .int .i64 n.pat, .slice px n.pre.length cx] 24))
  replace XB := (XB.alloc (.cells #[.int .i64 n.maj, .int .i64 n.min, .int .i64 n.pat, .slice px n.pre.length cx] 24))
  replace VX := Lib.hid (VX.out.below (B := (w2).heap.size) (w' := (w2).alloc (.cells #[.int .i64 n.maj, .int .i64 n.min, .int .i64 n.pat, .slice px n.pre.length cx] 24)) ((Below.refl _ _).alloc (Nat.le_refl _) _) (Nat.le_refl _))
  have T5 : Blk ((w2).alloc (.cells #[.int .i64 n.maj, .int .i64 n.min, .int .i64 n.pat, .slice px n.pre.length cx] 24)) (w2.heap.size) [.int .i64 n.maj, .int .i64 n.min, .int .i64 n.pat, .slice px n.pre.length cx] := Blk.new (w2) [.int .i64 n.maj, .int .i64 n.min, .int .i64 n.pat, .slice px n.pre.length cx] 24 (g := w2.heap.size) (by simp)
  replace B2 := (B2.alloc B2.size (.cells #[.int .i64 0, .int .i64 0] 27))
  replace XA := (XA.alloc (.cells #[.int .i64 0, .int .i64 0] 27))
  replace XB := (XB.alloc (.cells #[.int .i64 0, .int .i64 0] 27))
  replace VX := Lib.hid (VX.out.below (B := ((w2).alloc (.cells #[.int .i64 n.maj, .int .i64 n.min, .int .i64 n.pat, .slice px n.pre.length cx] 24)).heap.size) (w' := ((w2).alloc (.cells #[.int .i64 n.maj, .int .i64 n.min, .int .i64 n.pat, .slice px n.pre.length cx] 24)).alloc (.cells #[.int .i64 0, .int .i64 0] 27)) ((Below.refl _ _).alloc (Nat.le_refl _) _) (Nat.le_refl _))
  replace T5 := (T5.alloc (.cells #[.int .i64 0, .int .i64 0] 27))
  have T6 : Box2 (((w2).alloc (.cells #[.int .i64 n.maj, .int .i64 n.min, .int .i64 n.pat, .slice px n.pre.length cx] 24)).alloc (.cells #[.int .i64 0, .int .i64 0] 27)) (w2.heap.size + 1) (.int .i64 0) (.int .i64 0) := Box2.newAt (w := (w2).alloc (.cells #[.int .i64 n.maj, .int .i64 n.min, .int .i64 n.pat, .slice px n.pre.length cx] 24)) (r := w2.heap.size + 1) (x := .int .i64 0) (y := .int .i64 0) (t := 27) (by simp)
  refine (CB.out _ (HB.out.below B2 (Nat.le_refl _))).mono ?_
  rintro e w3 ⟨rfl, hb⟩
  have hk : Below (((w2).alloc (.cells #[.int .i64 n.maj, .int .i64 n.min, .int .i64 n.pat, .slice px n.pre.length cx] 24)).alloc (.cells #[.int .i64 0, .int .i64 0] 27)).heap.size (((w2).alloc (.cells #[.int .i64 n.maj, .int .i64 n.min, .int .i64 n.pat, .slice px n.pre.length cx] 24)).alloc (.cells #[.int .i64 0, .int .i64 0] 27)) w3 := hb
  have s3 : w.heap.size ≤ w3.heap.size := Nat.le_trans B2.size hk.size
  have q3 : w2.heap.size + 2 ≤ w3.heap.size := by have z := hk.size; (try simp only [World.size_alloc] at z); omega
  have B3 : Below w.heap.size w w3 := bcall B2 hk B2.size
  replace XA := XA.below hk XA.lt
  replace XB := XB.below hk XB.lt
  replace VX := Lib.hid (VX.out.below hk (Nat.le_refl _))
  replace T5 := T5.below hk T5.lt
  replace T6 := T6.below hk T6.lt
  clear B2 hk hb
  clear XA_0 XA_1 XA_2 XA_3 XA_l XB_0 XB_1 XB_2 XB_3 XB_l
  have XA_0 := XA.c 0 _ rfl
  have XA_1 := XA.c 1 _ rfl
  have XA_2 := XA.c 2 _ rfl
  have XA_3 := XA.c 3 _ rfl
  have XA_l := XA.lt
  have XB_0 := XB.c 0 _ rfl
  have XB_1 := XB.c 1 _ rfl
  have XB_2 := XB.c 2 _ rfl
  have XB_3 := XB.c 3 _ rfl
  have XB_l := XB.lt
  have T5_0 := T5.c 0 _ rfl
  have T5_1 := T5.c 1 _ rfl
  have T5_2 := T5.c 2 _ rfl
  have T5_3 := T5.c 3 _ rfl
  have T5_l := T5.lt
  obtain ⟨T6_0, T6_1, T6_f0, T6_f1, T6_l⟩ := id T6
  go_wp2_with fail
  refine wp_region_ord [0, 1, 2, 3, 4, 5, 6, 9, 10, 7, 8, 11, 12, 13, 14, 15] (by kernel_rfl) (by kernel_rfl) ?_
  have q4 : w3.heap.size + 0 ≤ (w3).drew.heap.size := by simp only [World.size_drew]; omega
  replace B3 := B3.drew
  replace XA := XA.drew
  replace XB := XB.drew
  replace VX := Lib.hid (VX.out.below (B := (w3).heap.size) (w' := (w3).drew) (Below.refl _ _).drew (Nat.le_refl _))
  replace T5 := T5.drew
  replace T6 := T6.drew
  clear XA_0 XA_1 XA_2 XA_3 XA_l XB_0 XB_1 XB_2 XB_3 XB_l T5_0 T5_1 T5_2 T5_3 T5_l T6_0 T6_1 T6_f0 T6_f1 T6_l
  generalize (w3).drew = w4 at *
  have s4 : w.heap.size ≤ w4.heap.size := B3.size
  have XA_0 := XA.c 0 _ rfl
  have XA_1 := XA.c 1 _ rfl
  have XA_2 := XA.c 2 _ rfl
  have XA_3 := XA.c 3 _ rfl
  have XA_l := XA.lt
  have XB_0 := XB.c 0 _ rfl
  have XB_1 := XB.c 1 _ rfl
  have XB_2 := XB.c 2 _ rfl
  have XB_3 := XB.c 3 _ rfl
  have XB_l := XB.lt
  have T5_0 := T5.c 0 _ rfl
  have T5_1 := T5.c 1 _ rfl
  have T5_2 := T5.c 2 _ rfl
  have T5_3 := T5.c 3 _ rfl
  have T5_l := T5.lt
  obtain ⟨T6_0, T6_1, T6_f0, T6_f1, T6_l⟩ := id T6
  repeat (first | (refine wpI_rd rfl rfl ?_; go_big_quiet_step (fail); refine wpQuiet_nil ?_) | (refine wpI_skip rfl rfl ?_; try simp only [Act.put, List.setIfInBounds_toArray, List.set_cons_zero, List.set_cons_succ]))
  try simp only [Act.put, List.setIfInBounds_toArray, List.set_cons_zero, List.set_cons_succ]
  refine wpI_call (f := 22) rfl rfl rfl (by simp [go_sem]; rfl) ?_
  refine (KAN.out _ _ _ (HA.out.below B3 (Nat.le_refl _)) VX.out).mono ?_
  rintro e w5 ⟨rfl, hb⟩
  refine ⟨_, rfl, hb, ?_⟩
  skip
  have hk : Below (w4).heap.size (w4) w5 := hb
  have s5 : w.heap.size ≤ w5.heap.size := Nat.le_trans B3.size hk.size
  have q5 : w4.heap.size + 0 ≤ w5.heap.size := by have z := hk.size; (try simp only [World.size_alloc, World.size_setCell] at z); omega
  have B5 : Below w.heap.size w w5 := bcall B3 hk B3.size
  replace XA := XA.below hk XA.lt
  replace XB := XB.below hk XB.lt
  replace VX := Lib.hid (VX.out.below hk (Nat.le_refl _))
  replace T5 := T5.below hk T5.lt
  replace T6 := T6.below hk T6.lt
  clear B3 hk hb
  clear XA_0 XA_1 XA_2 XA_3 XA_l XB_0 XB_1 XB_2 XB_3 XB_l T5_0 T5_1 T5_2 T5_3 T5_l T6_0 T6_1 T6_f0 T6_f1 T6_l
  have XA_0 := XA.c 0 _ rfl
  have XA_1 := XA.c 1 _ rfl
  have XA_2 := XA.c 2 _ rfl
  have XA_3 := XA.c 3 _ rfl
  have XA_l := XA.lt
  have XB_0 := XB.c 0 _ rfl
  have XB_1 := XB.c 1 _ rfl
  have XB_2 := XB.c 2 _ rfl
  have XB_3 := XB.c 3 _ rfl
  have XB_l := XB.lt
  have T5_0 := T5.c 0 _ rfl
  have T5_1 := T5.c 1 _ rfl
  have T5_2 := T5.c 2 _ rfl
  have T5_3 := T5.c 3 _ rfl
  have T5_l := T5.lt
  obtain ⟨T6_0, T6_1, T6_f0, T6_f1, T6_l⟩ := id T6
  try simp only [Act.put, List.setIfInBounds_toArray, List.set_cons_zero, List.set_cons_succ]
  repeat (first | (refine wpI_rd rfl rfl ?_; go_big_quiet_step (fail); refine wpQuiet_nil ?_) | (refine wpI_skip rfl rfl ?_; try simp only [Act.put, List.setIfInBounds_toArray, List.set_cons_zero, List.set_cons_succ]))
  try simp only [Act.put, List.setIfInBounds_toArray, List.set_cons_zero, List.set_cons_succ]
  refine wpI_call (f := 22) rfl rfl rfl (by simp [go_sem]; rfl) ?_
  refine (KAB.out _ (HA.out.below B5 (Nat.le_refl _)) (HB.out.below B5 (Nat.le_refl _))).mono ?_
  rintro e w6 ⟨rfl, hb⟩
  refine ⟨_, rfl, hb, ?_⟩
  skip
  have hk : Below (w5).heap.size (w5) w6 := hb
  have s6 : w.heap.size ≤ w6.heap.size := Nat.le_trans B5.size hk.size
  have q6 : w5.heap.size + 0 ≤ w6.heap.size := by have z := hk.size; (try simp only [World.size_alloc, World.size_setCell] at z); omega
  have B6 : Below w.heap.size w w6 := bcall B5 hk B5.size
  replace XA := XA.below hk XA.lt
  replace XB := XB.below hk XB.lt
  replace VX := Lib.hid (VX.out.below hk (Nat.le_refl _))
  replace T5 := T5.below hk T5.lt
  replace T6 := T6.below hk T6.lt
  clear B5 hk hb
  clear XA_0 XA_1 XA_2 XA_3 XA_l XB_0 XB_1 XB_2 XB_3 XB_l T5_0 T5_1 T5_2 T5_3 T5_l T6_0 T6_1 T6_f0 T6_f1 T6_l
  have XA_0 := XA.c 0 _ rfl
  have XA_1 := XA.c 1 _ rfl
  have XA_2 := XA.c 2 _ rfl
  have XA_3 := XA.c 3 _ rfl
  have XA_l := XA.lt
  have XB_0 := XB.c 0 _ rfl
  have XB_1 := XB.c 1 _ rfl
  have XB_2 := XB.c 2 _ rfl
  have XB_3 := XB.c 3 _ rfl
  have XB_l := XB.lt
  have T5_0 := T5.c 0 _ rfl
  have T5_1 := T5.c 1 _ rfl
  have T5_2 := T5.c 2 _ rfl
  have T5_3 := T5.c 3 _ rfl
  have T5_l := T5.lt
  obtain ⟨T6_0, T6_1, T6_f0, T6_f1, T6_l⟩ := id T6
  try simp only [Act.put, List.setIfInBounds_toArray, List.set_cons_zero, List.set_cons_succ]
  repeat (first | (refine wpI_rd rfl rfl ?_; go_big_quiet_step (fail); refine wpQuiet_nil ?_) | (refine wpI_skip rfl rfl ?_; try simp only [Act.put, List.setIfInBounds_toArray, List.set_cons_zero, List.set_cons_succ]))
  try simp only [Act.put, List.setIfInBounds_toArray, List.set_cons_zero, List.set_cons_succ]
  refine wpI_call (f := 22) rfl rfl rfl (by simp [go_sem]; rfl) ?_
  refine (KNB.out _ _ _ VX.out (HB.out.below B6 (Nat.le_refl _))).mono ?_
  rintro e w7 ⟨rfl, hb⟩
  refine ⟨_, rfl, hb, ?_⟩
  skip
  have hk : Below (w6).heap.size (w6) w7 := hb
  have s7 : w.heap.size ≤ w7.heap.size := Nat.le_trans B6.size hk.size
  have q7 : w6.heap.size + 0 ≤ w7.heap.size := by have z := hk.size; (try simp only [World.size_alloc, World.size_setCell] at z); omega
  have B7 : Below w.heap.size w w7 := bcall B6 hk B6.size
  replace XA := XA.below hk XA.lt
  replace XB := XB.below hk XB.lt
  replace VX := Lib.hid (VX.out.below hk (Nat.le_refl _))
  replace T5 := T5.below hk T5.lt
  replace T6 := T6.below hk T6.lt
  clear B6 hk hb
  clear XA_0 XA_1 XA_2 XA_3 XA_l XB_0 XB_1 XB_2 XB_3 XB_l T5_0 T5_1 T5_2 T5_3 T5_l T6_0 T6_1 T6_f0 T6_f1 T6_l
  have XA_0 := XA.c 0 _ rfl
  have XA_1 := XA.c 1 _ rfl
  have XA_2 := XA.c 2 _ rfl
  have XA_3 := XA.c 3 _ rfl
  have XA_l := XA.lt
  have XB_0 := XB.c 0 _ rfl
  have XB_1 := XB.c 1 _ rfl
  have XB_2 := XB.c 2 _ rfl
  have XB_3 := XB.c 3 _ rfl
  have XB_l := XB.lt
  have T5_0 := T5.c 0 _ rfl
  have T5_1 := T5.c 1 _ rfl
  have T5_2 := T5.c 2 _ rfl
  have T5_3 := T5.c 3 _ rfl
  have T5_l := T5.lt
  obtain ⟨T6_0, T6_1, T6_f0, T6_f1, T6_l⟩ := id T6
  try simp only [Act.put, List.setIfInBounds_toArray, List.set_cons_zero, List.set_cons_succ]
  repeat (first | (refine wpI_rd rfl rfl ?_; go_big_quiet_step (fail); refine wpQuiet_nil ?_) | (refine wpI_skip rfl rfl ?_; try simp only [Act.put, List.setIfInBounds_toArray, List.set_cons_zero, List.set_cons_succ]))
  try simp only [Act.put, List.setIfInBounds_toArray, List.set_cons_zero, List.set_cons_succ]
  refine wpI_nil ?_
  try simp only [Act.put, List.setIfInBounds_toArray, List.set_cons_zero, List.set_cons_succ]
  go_wp2_with fail
  go_ret
  exact ⟨rfl, B7⟩
theorem vns_any (a b : Pl.Ver) (pa pb : Option Addr) (ca cb : Nat) (w : World) (E : Env w) (ha : VIn w a pa ca) (hb : VIn w b pb cb) :
    Calls Tryd.prog 7 #[verV a pa ca, verV b pb cb] w fun e w' => e = .returned (.bool true) ∧ Below w.heap.size w w' := by
  rcases Pl.vrF_cases a with ⟨ea, oka⟩ | fa
  · rcases Pl.vrF_cases (Pl.verNext a) with ⟨eh, okn⟩ | fh
    · have en : Pl.nextF a = (0, 0) := by unfold Pl.nextF; rw [if_neg (by rw [ea]; decide), if_neg (by rw [eh]; decide)]
      have em : Pl.nextV a = Pl.verNext a := by unfold Pl.nextV; rw [en, if_neg (by decide)]
      rcases Pl.vrF_cases b with ⟨-, okb⟩ | fb
      · have hs := Pl.next_succ a b okb.i
        by_cases hlt : Pl.verCmp a b < 0
        · exact vns_Gt a b pa pb ca cb w E ha hb oka okb _ okn en em _ _ (Pl.next_lt a okn.i) rfl rfl (decide_eq_true hlt) (decide_eq_true (hs.1 hlt))
        · exact vns_Gf a b pa pb ca cb w E ha hb oka okb _ okn en em _ _ (Pl.next_lt a okn.i) rfl rfl (decide_eq_false hlt) (decide_eq_false fun h => hlt (hs.2 h))
      · exact vns_B a b pa pb ca cb w E ha hb en _ _ fb rfl
    · have en : Pl.nextF a = (10, -1) := by unfold Pl.nextF; rw [if_neg (by rw [ea]; decide), if_pos fh]
      exact vns_N a b pa pb ca cb w E ha hb 10 (-1) (by decide) en (by unfold Pl.nextV; rw [en, if_pos (by decide)])
  · have en : Pl.nextF a = Pl.vrF a := by unfold Pl.nextF; rw [if_pos fa]
    exact vns_N a b pa pb ca cb w E ha hb _ _ fa en (by unfold Pl.nextV; rw [en, if_pos fa])
end Go.Proofs.YthnhajihkdgifaaDoor
