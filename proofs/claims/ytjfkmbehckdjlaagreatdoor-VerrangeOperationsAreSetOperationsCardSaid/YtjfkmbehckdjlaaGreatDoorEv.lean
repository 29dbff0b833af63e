/- The closed example of the laws of ranges holds. -/
import Derived.Test.YtjfkmbehckdjlaaGreatDoorEu
import Derived.Test.YtjfkmbehckdjlaaGreatDoorDq
import Derived.Test.YtjfkmbehckdjlaaGreatDoorDp
import Derived.Test.YtjfkmbehckdjlaaGreatDoorMKl
namespace Go.Proofs.YtjfkmbehckdjlaaGreatDoor
open Go.RowKit

theorem VIn.rel (a b d : Int) (W : World) : VIn W ⟨a, b, d, []⟩ none 0 := ⟨⟨by simp [strVals], Nat.le_refl _, Nat.zero_le _, .inl rfl⟩, fun s hs => by cases hs⟩
/-- What the calls of the example answer. -/
structure RCalls (la lb lu li lp : List Pl.Ivl) : Prop where
  a : ∀ W, Calls Tryz.prog 40 #[verV ⟨1, 0, 0, []⟩ none 0, verV ⟨3, 0, 0, []⟩ none 0] W (RRng la W)
  b : ∀ W, Calls Tryz.prog 40 #[verV ⟨2, 0, 0, []⟩ none 0, verV ⟨4, 0, 0, []⟩ none 0] W (RRng lb W)
  u : ∀ W a c b d, RIn W la a c → RIn W lb b d → Calls Tryz.prog 20 #[.agg #[.slice a la.length c], .agg #[.slice b lb.length d]] W (RRngF lu (0, 0) W)
  i : ∀ W a c b d, RIn W la a c → RIn W lb b d → Calls Tryz.prog 21 #[.agg #[.slice a la.length c], .agg #[.slice b lb.length d]] W (RRngF li (0, 0) W)
  c : ∀ W, Calls Tryz.prog 22 #[.agg #[.slice none 0 0]] W (RRngF (Pl.upR Pl.lowV) (0, 0) W)
  p : ∀ W, Env W → Calls Tryz.prog 30 #[.string ⟨#[94, 49, 46, 50, 46, 48]⟩] W (RRngF lp (0, 0) W)
  s : ∀ W a c, RIn W la a c → Env W → Calls Tryz.prog 28 #[.agg #[.slice a la.length c]] W fun e w' => e = .returned (.tuple #[.string ⟨#[62, 61, 49, 46, 48, 46, 48, 32, 60, 51, 46, 48, 46, 48]⟩, .agg #[.int .i64 0, .int .i64 0]]) ∧ Below W.heap.size W w'
  x : ∀ W a c, RIn W la a c → Calls Tryz.prog 16 #[.agg #[.slice a la.length c], verV ⟨1, 0, 0, []⟩ none 0] W fun e w' => e = .returned (.tuple #[.bool true, .agg #[.int .i64 0, .int .i64 0]]) ∧ Below W.heap.size W w'
  y : ∀ W a c, RIn W la a c → Calls Tryz.prog 16 #[.agg #[.slice a la.length c], verV ⟨3, 0, 0, []⟩ none 0] W fun e w' => e = .returned (.tuple #[.bool false, .agg #[.int .i64 0, .int .i64 0]]) ∧ Below W.heap.size W w'
  d1 : ∀ W, Calls Tryz.prog 40 #[verV ⟨1, 0, 0, []⟩ none 0, verV ⟨4, 0, 0, []⟩ none 0] W (RRng lu W)
  d2 : ∀ W, Calls Tryz.prog 40 #[verV ⟨2, 0, 0, []⟩ none 0, verV ⟨3, 0, 0, []⟩ none 0] W (RRng li W)
  d4 : ∀ W b, VIn W ⟨2, 0, 0, [⟨#[48]⟩]⟩ b 1 → Calls Tryz.prog 40 #[verV ⟨1, 2, 0, []⟩ none 0, verV ⟨2, 0, 0, [⟨#[48]⟩]⟩ b 1] W (RRng lp W)
theorem same_self (r : List Pl.Ivl) (a b : Option Addr) (c d : Nat) (w : World) (h1 : RIn w r a c) (h2 : RIn w r b d) :
    Calls Tryz.prog 25 #[.agg #[.slice a r.length c], .agg #[.slice b r.length d]] w fun e w' => e = .returned (.bool true) ∧ Below w.heap.size w w' :=
  (SameRange_any r r a b c d w h1 h2).mono fun e w' ⟨⟨g, he, hg⟩, hb⟩ => ⟨by rw [he, hg.2 rfl], hb⟩
set_option maxRecDepth 100000 in
set_option maxHeartbeats 16000000 in
theorem ranges_core (la lb lu li lp : List Pl.Ivl) (w : World) (E : Env w) (RC : RCalls la lb lu li lp) : Calls Tryz.prog 12 #[] w fun e w' => e = .returned (.bool true) ∧ Below w.heap.size w w' := by
  have HE := Lib.hid E
  have HC := Lib.hid RC
  clear E RC
  go_enter Tryz.func12, Tryz.ntmps12
  have B0 : Below w.heap.size w w := Below.refl _ _
  go_wp2_with (first | (go_at_call 42; refine (pre_at _ _ _ _ _).mono ?_; rintro e w' ⟨rfl, rfl⟩) | (go_at_call 41; refine (ver_at _ _ _ _).mono ?_; rintro e w' ⟨rfl, rfl⟩))
  refine (HC.out.a _).mono ?_
  rintro e w1 ⟨oa, ca, rfl, RA, hb⟩
  replace RA := Lib.hid RA
  have B1 : Below w.heap.size w w1 := bcall (by go_grown) hb (by go_size)
  have q1 : w.heap.size + 2 ≤ w1.heap.size := by have z := hb.size; (try simp only [World.size_alloc] at z); omega
  clear hb
  have s1 : w.heap.size ≤ w1.heap.size := B1.size
  go_wp2_with (first | (go_at_call 42; refine (pre_at _ _ _ _ _).mono ?_; rintro e w' ⟨rfl, rfl⟩) | (go_at_call 41; refine (ver_at _ _ _ _).mono ?_; rintro e w' ⟨rfl, rfl⟩))
  refine (HC.out.b _).mono ?_
  rintro e w2 ⟨ob, cb, rfl, RB, hb⟩
  replace RB := Lib.hid RB
  have B2 : Below w.heap.size w w2 := bcall (by go_grown) hb (by go_size)
  have q2 : w1.heap.size + 3 ≤ w2.heap.size := by have z := hb.size; (try simp only [World.size_alloc] at z); omega
  replace RA := Lib.hid ((((RA.out.below (Below.refl _ _ |>.alloc (Nat.le_refl _) _) (Nat.le_refl _)).below (Below.refl _ _ |>.alloc (Nat.le_refl _) _) (Nat.le_refl _)).below (Below.refl _ _ |>.alloc (Nat.le_refl _) _) (Nat.le_refl _)).below hb (Nat.le_refl _))
  have X := ((((Bk.new (r := w1.heap.size) (cs := [.slice oa la.length ca]) _ 24 (by simp)).alloc _).alloc _)).below hb (by go_size)
  clear hb
  have s2 : w.heap.size ≤ w2.heap.size := B2.size
  obtain ⟨X_c, X_f, X_l⟩ := id X
  go_wp2_with (first | (go_at_call 42; refine (pre_at _ _ _ _ _).mono ?_; rintro e w' ⟨rfl, rfl⟩) | (go_at_call 41; refine (ver_at _ _ _ _).mono ?_; rintro e w' ⟨rfl, rfl⟩))
  refine (HC.out.u _ _ _ _ _ ((RA.out.below (Below.refl _ _ |>.alloc (Nat.le_refl _) _) (Nat.le_refl _))) ((RB.out.below (Below.refl _ _ |>.alloc (Nat.le_refl _) _) (Nat.le_refl _)))).mono ?_
  rintro e w3 ⟨ou, cu, rfl, RU, hb⟩
  replace RU := Lib.hid RU
  have B3 : Below w.heap.size w w3 := bcall (by go_grown) hb (by go_size)
  have q3 : w2.heap.size + 1 ≤ w3.heap.size := by have z := hb.size; (try simp only [World.size_alloc] at z); omega
  replace RA := Lib.hid ((RA.out.below (Below.refl _ _ |>.alloc (Nat.le_refl _) _) (Nat.le_refl _)).below hb (Nat.le_refl _))
  replace RB := Lib.hid ((RB.out.below (Below.refl _ _ |>.alloc (Nat.le_refl _) _) (Nat.le_refl _)).below hb (Nat.le_refl _))
  replace X := ((X.alloc _)).below hb (by go_size)
  have Y := ((Bk.new (r := w2.heap.size) (cs := [.slice ob lb.length cb]) _ 24 (by simp))).below hb (by go_size)
  clear hb
  have s3 : w.heap.size ≤ w3.heap.size := B3.size
  clear X_c X_f X_l
  obtain ⟨X_c, X_f, X_l⟩ := id X
  obtain ⟨Y_c, Y_f, Y_l⟩ := id Y
  go_wp2_with (first | (go_at_call 42; refine (pre_at _ _ _ _ _).mono ?_; rintro e w' ⟨rfl, rfl⟩) | (go_at_call 41; refine (ver_at _ _ _ _).mono ?_; rintro e w' ⟨rfl, rfl⟩))
  refine (HC.out.i _ _ _ _ _ (((RA.out.below (Below.refl _ _ |>.alloc (Nat.le_refl _) _) (Nat.le_refl _)).below (Below.refl _ _ |>.alloc (Nat.le_refl _) _) (Nat.le_refl _))) (((RB.out.below (Below.refl _ _ |>.alloc (Nat.le_refl _) _) (Nat.le_refl _)).below (Below.refl _ _ |>.alloc (Nat.le_refl _) _) (Nat.le_refl _)))).mono ?_
  rintro e w4 ⟨oi, ci, rfl, RI, hb⟩
  replace RI := Lib.hid RI
  have B4 : Below w.heap.size w w4 := bcall (by go_grown) hb (by go_size)
  have q4 : w3.heap.size + 2 ≤ w4.heap.size := by have z := hb.size; (try simp only [World.size_alloc] at z); omega
  replace RA := Lib.hid (((RA.out.below (Below.refl _ _ |>.alloc (Nat.le_refl _) _) (Nat.le_refl _)).below (Below.refl _ _ |>.alloc (Nat.le_refl _) _) (Nat.le_refl _)).below hb (Nat.le_refl _))
  replace RB := Lib.hid (((RB.out.below (Below.refl _ _ |>.alloc (Nat.le_refl _) _) (Nat.le_refl _)).below (Below.refl _ _ |>.alloc (Nat.le_refl _) _) (Nat.le_refl _)).below hb (Nat.le_refl _))
  replace RU := Lib.hid (((RU.out.below (Below.refl _ _ |>.alloc (Nat.le_refl _) _) (Nat.le_refl _)).below (Below.refl _ _ |>.alloc (Nat.le_refl _) _) (Nat.le_refl _)).below hb (Nat.le_refl _))
  replace X := (((X.alloc _).alloc _)).below hb (by go_size)
  replace Y := (((Y.alloc _).alloc _)).below hb (by go_size)
  have U := (((Bk.new (r := w3.heap.size) (cs := [.slice ou lu.length cu]) _ 24 (by simp)).alloc _)).below hb (by go_size)
  have F1 := ((Bk.new (r := w3.heap.size + 1) (cs := [.int .i64 0, .int .i64 0]) _ 29 (by simp))).below hb (by go_size)
  clear hb
  have s4 : w.heap.size ≤ w4.heap.size := B4.size
  clear X_c X_f X_l Y_c Y_f Y_l
  obtain ⟨X_c, X_f, X_l⟩ := id X
  obtain ⟨Y_c, Y_f, Y_l⟩ := id Y
  obtain ⟨U_c, U_f, U_l⟩ := id U
  obtain ⟨F1_c, F1_f, F1_l⟩ := id F1
  clear RB Y
  go_wp2_with (first | (go_at_call 42; refine (pre_at _ _ _ _ _).mono ?_; rintro e w' ⟨rfl, rfl⟩) | (go_at_call 41; refine (ver_at _ _ _ _).mono ?_; rintro e w' ⟨rfl, rfl⟩))
  refine (HC.out.c _).mono ?_
  rintro e w5 ⟨od, cd, rfl, RD, hb⟩
  replace RD := Lib.hid RD
  have B5 : Below w.heap.size w w5 := bcall (by go_grown) hb (by go_size)
  have q5 : w4.heap.size + 2 ≤ w5.heap.size := by have z := hb.size; (try simp only [World.size_alloc] at z); omega
  replace RA := Lib.hid (((RA.out.below (Below.refl _ _ |>.alloc (Nat.le_refl _) _) (Nat.le_refl _)).below (Below.refl _ _ |>.alloc (Nat.le_refl _) _) (Nat.le_refl _)).below hb (Nat.le_refl _))
  replace RU := Lib.hid (((RU.out.below (Below.refl _ _ |>.alloc (Nat.le_refl _) _) (Nat.le_refl _)).below (Below.refl _ _ |>.alloc (Nat.le_refl _) _) (Nat.le_refl _)).below hb (Nat.le_refl _))
  replace RI := Lib.hid (((RI.out.below (Below.refl _ _ |>.alloc (Nat.le_refl _) _) (Nat.le_refl _)).below (Below.refl _ _ |>.alloc (Nat.le_refl _) _) (Nat.le_refl _)).below hb (Nat.le_refl _))
  replace X := (((X.alloc _).alloc _)).below hb (by go_size)
  replace U := (((U.alloc _).alloc _)).below hb (by go_size)
  replace F1 := (((F1.alloc _).alloc _)).below hb (by go_size)
  have I := (((Bk.new (r := w4.heap.size) (cs := [.slice oi li.length ci]) _ 24 (by simp)).alloc _)).below hb (by go_size)
  have F2 := ((Bk.new (r := w4.heap.size + 1) (cs := [.int .i64 0, .int .i64 0]) _ 29 (by simp))).below hb (by go_size)
  clear hb
  have s5 : w.heap.size ≤ w5.heap.size := B5.size
  clear X_c X_f X_l Y_c Y_f Y_l U_c U_f U_l F1_c F1_f F1_l
  obtain ⟨X_c, X_f, X_l⟩ := id X
  obtain ⟨U_c, U_f, U_l⟩ := id U
  obtain ⟨F1_c, F1_f, F1_l⟩ := id F1
  obtain ⟨I_c, I_f, I_l⟩ := id I
  obtain ⟨F2_c, F2_f, F2_l⟩ := id F2
  go_wp2_with (first | (go_at_call 42; refine (pre_at _ _ _ _ _).mono ?_; rintro e w' ⟨rfl, rfl⟩) | (go_at_call 41; refine (ver_at _ _ _ _).mono ?_; rintro e w' ⟨rfl, rfl⟩))
  have B6 : Below w.heap.size w ((w5.alloc (.cells #[.slice od (Pl.upR Pl.lowV).length cd] 24)).alloc (.cells #[.int .i64 0, .int .i64 0] 29)) := by go_grown
  have q6 : w5.heap.size + 2 ≤ ((w5.alloc (.cells #[.slice od (Pl.upR Pl.lowV).length cd] 24)).alloc (.cells #[.int .i64 0, .int .i64 0] 29)).heap.size := by simp only [World.size_alloc]; omega
  replace RA := Lib.hid ((RA.out.below (Below.refl _ _ |>.alloc (Nat.le_refl _) (.cells #[.slice od (Pl.upR Pl.lowV).length cd] 24)) (Nat.le_refl _)).below (Below.refl _ _ |>.alloc (Nat.le_refl _) (.cells #[.int .i64 0, .int .i64 0] 29)) (Nat.le_refl _))
  replace RU := Lib.hid ((RU.out.below (Below.refl _ _ |>.alloc (Nat.le_refl _) (.cells #[.slice od (Pl.upR Pl.lowV).length cd] 24)) (Nat.le_refl _)).below (Below.refl _ _ |>.alloc (Nat.le_refl _) (.cells #[.int .i64 0, .int .i64 0] 29)) (Nat.le_refl _))
  replace RI := Lib.hid ((RI.out.below (Below.refl _ _ |>.alloc (Nat.le_refl _) (.cells #[.slice od (Pl.upR Pl.lowV).length cd] 24)) (Nat.le_refl _)).below (Below.refl _ _ |>.alloc (Nat.le_refl _) (.cells #[.int .i64 0, .int .i64 0] 29)) (Nat.le_refl _))
  replace RD := Lib.hid ((RD.out.below (Below.refl _ _ |>.alloc (Nat.le_refl _) (.cells #[.slice od (Pl.upR Pl.lowV).length cd] 24)) (Nat.le_refl _)).below (Below.refl _ _ |>.alloc (Nat.le_refl _) (.cells #[.int .i64 0, .int .i64 0] 29)) (Nat.le_refl _))
  replace X := ((X.alloc (.cells #[.slice od (Pl.upR Pl.lowV).length cd] 24)).alloc (.cells #[.int .i64 0, .int .i64 0] 29))
  replace U := ((U.alloc (.cells #[.slice od (Pl.upR Pl.lowV).length cd] 24)).alloc (.cells #[.int .i64 0, .int .i64 0] 29))
  replace F1 := ((F1.alloc (.cells #[.slice od (Pl.upR Pl.lowV).length cd] 24)).alloc (.cells #[.int .i64 0, .int .i64 0] 29))
  replace I := ((I.alloc (.cells #[.slice od (Pl.upR Pl.lowV).length cd] 24)).alloc (.cells #[.int .i64 0, .int .i64 0] 29))
  replace F2 := ((F2.alloc (.cells #[.slice od (Pl.upR Pl.lowV).length cd] 24)).alloc (.cells #[.int .i64 0, .int .i64 0] 29))
  have D := ((Bk.new (r := w5.heap.size) (cs := [.slice od (Pl.upR Pl.lowV).length cd]) w5 24 (by simp)).alloc (.cells #[.int .i64 0, .int .i64 0] 29))
  have F3 := (Bk.new (r := w5.heap.size + 1) (cs := [.int .i64 0, .int .i64 0]) (w5.alloc (.cells #[.slice od (Pl.upR Pl.lowV).length cd] 24)) 29 (by simp))
  clear X_c X_f X_l U_c U_f U_l F1_c F1_f F1_l I_c I_f I_l F2_c F2_f F2_l
  generalize ((w5.alloc (.cells #[.slice od (Pl.upR Pl.lowV).length cd] 24)).alloc (.cells #[.int .i64 0, .int .i64 0] 29)) = w6 at *
  have s6 : w.heap.size ≤ w6.heap.size := B6.size
  obtain ⟨X_c, X_f, X_l⟩ := id X
  obtain ⟨U_c, U_f, U_l⟩ := id U
  obtain ⟨F1_c, F1_f, F1_l⟩ := id F1
  obtain ⟨I_c, I_f, I_l⟩ := id I
  obtain ⟨F2_c, F2_f, F2_l⟩ := id F2
  obtain ⟨D_c, D_f, D_l⟩ := id D
  obtain ⟨F3_c, F3_f, F3_l⟩ := id F3
  go_wp2_with (first | (go_at_call 42; refine (pre_at _ _ _ _ _).mono ?_; rintro e w' ⟨rfl, rfl⟩) | (go_at_call 41; refine (ver_at _ _ _ _).mono ?_; rintro e w' ⟨rfl, rfl⟩))
  refine (HC.out.p _ (by exact HE.out.below B6 (Nat.le_refl _))).mono ?_
  rintro e w7 ⟨op, cp, rfl, RP, hb⟩
  replace RP := Lib.hid RP
  have B7 : Below w.heap.size w w7 := bcall (by go_grown) hb (by go_size)
  have q7 : w6.heap.size + 0 ≤ w7.heap.size := by have z := hb.size; (try simp only [World.size_alloc, World.size_setCell, World.size_drew] at z); omega
  replace RA := Lib.hid (RA.out.below hb (Nat.le_refl _))
  replace RU := Lib.hid (RU.out.below hb (Nat.le_refl _))
  replace RI := Lib.hid (RI.out.below hb (Nat.le_refl _))
  replace RD := Lib.hid (RD.out.below hb (Nat.le_refl _))
  replace X := (X).below hb (by go_size)
  replace U := (U).below hb (by go_size)
  replace F1 := (F1).below hb (by go_size)
  replace I := (I).below hb (by go_size)
  replace F2 := (F2).below hb (by go_size)
  replace D := (D).below hb (by go_size)
  replace F3 := (F3).below hb (by go_size)
  clear hb
  have s7 : w.heap.size ≤ w7.heap.size := B7.size
  clear X_c X_f X_l U_c U_f U_l F1_c F1_f F1_l I_c I_f I_l F2_c F2_f F2_l D_c D_f D_l F3_c F3_f F3_l
  obtain ⟨X_c, X_f, X_l⟩ := id X
  obtain ⟨U_c, U_f, U_l⟩ := id U
  obtain ⟨F1_c, F1_f, F1_l⟩ := id F1
  obtain ⟨I_c, I_f, I_l⟩ := id I
  obtain ⟨F2_c, F2_f, F2_l⟩ := id F2
  obtain ⟨D_c, D_f, D_l⟩ := id D
  obtain ⟨F3_c, F3_f, F3_l⟩ := id F3
  go_wp2_with (first | (go_at_call 42; refine (pre_at _ _ _ _ _).mono ?_; rintro e w' ⟨rfl, rfl⟩) | (go_at_call 41; refine (ver_at _ _ _ _).mono ?_; rintro e w' ⟨rfl, rfl⟩))
  have B8 : Below w.heap.size w ((w7.alloc (.cells #[.slice op lp.length cp] 24)).alloc (.cells #[.int .i64 0, .int .i64 0] 29)) := by go_grown
  have q8 : w7.heap.size + 2 ≤ ((w7.alloc (.cells #[.slice op lp.length cp] 24)).alloc (.cells #[.int .i64 0, .int .i64 0] 29)).heap.size := by simp only [World.size_alloc]; omega
  replace RA := Lib.hid ((RA.out.below (Below.refl _ _ |>.alloc (Nat.le_refl _) (.cells #[.slice op lp.length cp] 24)) (Nat.le_refl _)).below (Below.refl _ _ |>.alloc (Nat.le_refl _) (.cells #[.int .i64 0, .int .i64 0] 29)) (Nat.le_refl _))
  replace RU := Lib.hid ((RU.out.below (Below.refl _ _ |>.alloc (Nat.le_refl _) (.cells #[.slice op lp.length cp] 24)) (Nat.le_refl _)).below (Below.refl _ _ |>.alloc (Nat.le_refl _) (.cells #[.int .i64 0, .int .i64 0] 29)) (Nat.le_refl _))
  replace RI := Lib.hid ((RI.out.below (Below.refl _ _ |>.alloc (Nat.le_refl _) (.cells #[.slice op lp.length cp] 24)) (Nat.le_refl _)).below (Below.refl _ _ |>.alloc (Nat.le_refl _) (.cells #[.int .i64 0, .int .i64 0] 29)) (Nat.le_refl _))
  replace RD := Lib.hid ((RD.out.below (Below.refl _ _ |>.alloc (Nat.le_refl _) (.cells #[.slice op lp.length cp] 24)) (Nat.le_refl _)).below (Below.refl _ _ |>.alloc (Nat.le_refl _) (.cells #[.int .i64 0, .int .i64 0] 29)) (Nat.le_refl _))
  replace RP := Lib.hid ((RP.out.below (Below.refl _ _ |>.alloc (Nat.le_refl _) (.cells #[.slice op lp.length cp] 24)) (Nat.le_refl _)).below (Below.refl _ _ |>.alloc (Nat.le_refl _) (.cells #[.int .i64 0, .int .i64 0] 29)) (Nat.le_refl _))
  replace X := ((X.alloc (.cells #[.slice op lp.length cp] 24)).alloc (.cells #[.int .i64 0, .int .i64 0] 29))
  replace U := ((U.alloc (.cells #[.slice op lp.length cp] 24)).alloc (.cells #[.int .i64 0, .int .i64 0] 29))
  replace F1 := ((F1.alloc (.cells #[.slice op lp.length cp] 24)).alloc (.cells #[.int .i64 0, .int .i64 0] 29))
  replace I := ((I.alloc (.cells #[.slice op lp.length cp] 24)).alloc (.cells #[.int .i64 0, .int .i64 0] 29))
  replace F2 := ((F2.alloc (.cells #[.slice op lp.length cp] 24)).alloc (.cells #[.int .i64 0, .int .i64 0] 29))
  replace D := ((D.alloc (.cells #[.slice op lp.length cp] 24)).alloc (.cells #[.int .i64 0, .int .i64 0] 29))
  replace F3 := ((F3.alloc (.cells #[.slice op lp.length cp] 24)).alloc (.cells #[.int .i64 0, .int .i64 0] 29))
  have P := ((Bk.new (r := w7.heap.size) (cs := [.slice op lp.length cp]) w7 24 (by simp)).alloc (.cells #[.int .i64 0, .int .i64 0] 29))
  have F4 := (Bk.new (r := w7.heap.size + 1) (cs := [.int .i64 0, .int .i64 0]) (w7.alloc (.cells #[.slice op lp.length cp] 24)) 29 (by simp))
  clear X_c X_f X_l U_c U_f U_l F1_c F1_f F1_l I_c I_f I_l F2_c F2_f F2_l D_c D_f D_l F3_c F3_f F3_l
  generalize ((w7.alloc (.cells #[.slice op lp.length cp] 24)).alloc (.cells #[.int .i64 0, .int .i64 0] 29)) = w8 at *
  have s8 : w.heap.size ≤ w8.heap.size := B8.size
  obtain ⟨X_c, X_f, X_l⟩ := id X
  obtain ⟨U_c, U_f, U_l⟩ := id U
  obtain ⟨F1_c, F1_f, F1_l⟩ := id F1
  obtain ⟨I_c, I_f, I_l⟩ := id I
  obtain ⟨F2_c, F2_f, F2_l⟩ := id F2
  obtain ⟨D_c, D_f, D_l⟩ := id D
  obtain ⟨F3_c, F3_f, F3_l⟩ := id F3
  obtain ⟨P_c, P_f, P_l⟩ := id P
  obtain ⟨F4_c, F4_f, F4_l⟩ := id F4
  go_wp2_with (first | (go_at_call 42; refine (pre_at _ _ _ _ _).mono ?_; rintro e w' ⟨rfl, rfl⟩) | (go_at_call 41; refine (ver_at _ _ _ _).mono ?_; rintro e w' ⟨rfl, rfl⟩))
  refine (HC.out.s _ _ _ RA.out (by exact HE.out.below B8 (Nat.le_refl _))).mono ?_
  rintro e w9 ⟨rfl, hb⟩
  have B9 : Below w.heap.size w w9 := bcall (by go_grown) hb (by go_size)
  have q9 : w8.heap.size + 0 ≤ w9.heap.size := by have z := hb.size; (try simp only [World.size_alloc, World.size_setCell, World.size_drew] at z); omega
  replace RA := Lib.hid (RA.out.below hb (Nat.le_refl _))
  replace RU := Lib.hid (RU.out.below hb (Nat.le_refl _))
  replace RI := Lib.hid (RI.out.below hb (Nat.le_refl _))
  replace RD := Lib.hid (RD.out.below hb (Nat.le_refl _))
  replace RP := Lib.hid (RP.out.below hb (Nat.le_refl _))
  replace X := (X).below hb (by go_size)
  replace U := (U).below hb (by go_size)
  replace F1 := (F1).below hb (by go_size)
  replace I := (I).below hb (by go_size)
  replace F2 := (F2).below hb (by go_size)
  replace D := (D).below hb (by go_size)
  replace F3 := (F3).below hb (by go_size)
  replace P := (P).below hb (by go_size)
  replace F4 := (F4).below hb (by go_size)
  clear hb
  have s9 : w.heap.size ≤ w9.heap.size := B9.size
  clear X_c X_f X_l U_c U_f U_l F1_c F1_f F1_l I_c I_f I_l F2_c F2_f F2_l D_c D_f D_l F3_c F3_f F3_l P_c P_f P_l F4_c F4_f F4_l
  obtain ⟨X_c, X_f, X_l⟩ := id X
  obtain ⟨U_c, U_f, U_l⟩ := id U
  obtain ⟨F1_c, F1_f, F1_l⟩ := id F1
  obtain ⟨I_c, I_f, I_l⟩ := id I
  obtain ⟨F2_c, F2_f, F2_l⟩ := id F2
  obtain ⟨D_c, D_f, D_l⟩ := id D
  obtain ⟨F3_c, F3_f, F3_l⟩ := id F3
  obtain ⟨P_c, P_f, P_l⟩ := id P
  obtain ⟨F4_c, F4_f, F4_l⟩ := id F4
  go_wp2_with (first | (go_at_call 42; refine (pre_at _ _ _ _ _).mono ?_; rintro e w' ⟨rfl, rfl⟩) | (go_at_call 41; refine (ver_at _ _ _ _).mono ?_; rintro e w' ⟨rfl, rfl⟩))
  have B10 : Below w.heap.size w (w9.alloc (.cells #[.int .i64 0, .int .i64 0] 29)) := by go_grown
  have q10 : w9.heap.size + 1 ≤ (w9.alloc (.cells #[.int .i64 0, .int .i64 0] 29)).heap.size := by simp only [World.size_alloc]; omega
  replace RA := Lib.hid (RA.out.below (Below.refl _ _ |>.alloc (Nat.le_refl _) (.cells #[.int .i64 0, .int .i64 0] 29)) (Nat.le_refl _))
  replace RU := Lib.hid (RU.out.below (Below.refl _ _ |>.alloc (Nat.le_refl _) (.cells #[.int .i64 0, .int .i64 0] 29)) (Nat.le_refl _))
  replace RI := Lib.hid (RI.out.below (Below.refl _ _ |>.alloc (Nat.le_refl _) (.cells #[.int .i64 0, .int .i64 0] 29)) (Nat.le_refl _))
  replace RD := Lib.hid (RD.out.below (Below.refl _ _ |>.alloc (Nat.le_refl _) (.cells #[.int .i64 0, .int .i64 0] 29)) (Nat.le_refl _))
  replace RP := Lib.hid (RP.out.below (Below.refl _ _ |>.alloc (Nat.le_refl _) (.cells #[.int .i64 0, .int .i64 0] 29)) (Nat.le_refl _))
  replace X := (X.alloc (.cells #[.int .i64 0, .int .i64 0] 29))
  replace U := (U.alloc (.cells #[.int .i64 0, .int .i64 0] 29))
  replace F1 := (F1.alloc (.cells #[.int .i64 0, .int .i64 0] 29))
  replace I := (I.alloc (.cells #[.int .i64 0, .int .i64 0] 29))
  replace F2 := (F2.alloc (.cells #[.int .i64 0, .int .i64 0] 29))
  replace D := (D.alloc (.cells #[.int .i64 0, .int .i64 0] 29))
  replace F3 := (F3.alloc (.cells #[.int .i64 0, .int .i64 0] 29))
  replace P := (P.alloc (.cells #[.int .i64 0, .int .i64 0] 29))
  replace F4 := (F4.alloc (.cells #[.int .i64 0, .int .i64 0] 29))
  have F5 := (Bk.new (r := w9.heap.size) (cs := [.int .i64 0, .int .i64 0]) w9 29 (by simp))
  clear X_c X_f X_l U_c U_f U_l F1_c F1_f F1_l I_c I_f I_l F2_c F2_f F2_l D_c D_f D_l F3_c F3_f F3_l P_c P_f P_l F4_c F4_f F4_l
  generalize (w9.alloc (.cells #[.int .i64 0, .int .i64 0] 29)) = w10 at *
  have s10 : w.heap.size ≤ w10.heap.size := B10.size
  obtain ⟨X_c, X_f, X_l⟩ := id X
  obtain ⟨U_c, U_f, U_l⟩ := id U
  obtain ⟨F1_c, F1_f, F1_l⟩ := id F1
  obtain ⟨I_c, I_f, I_l⟩ := id I
  obtain ⟨F2_c, F2_f, F2_l⟩ := id F2
  obtain ⟨D_c, D_f, D_l⟩ := id D
  obtain ⟨F3_c, F3_f, F3_l⟩ := id F3
  obtain ⟨P_c, P_f, P_l⟩ := id P
  obtain ⟨F4_c, F4_f, F4_l⟩ := id F4
  obtain ⟨F5_c, F5_f, F5_l⟩ := id F5
  go_wp2_with (first | (go_at_call 42; refine (pre_at _ _ _ _ _).mono ?_; rintro e w' ⟨rfl, rfl⟩) | (go_at_call 41; refine (ver_at _ _ _ _).mono ?_; rintro e w' ⟨rfl, rfl⟩))
  have RAd := RA.out.below (B := w10.heap.size) (w' := w10.drew) (by go_grown) (Nat.le_refl _)
  have Xd := X.drew
  obtain ⟨Xd_c, -, Xd_l⟩ := id Xd
  refine wp_region_free [1, 2, 6] [0, 3, 4, 5, 7] [8]
    (fun i => [Hold.eq (.agg #[.slice oa la.length ca]), Hold.eq (verV ⟨1, 0, 0, []⟩ none 0), Hold.eq (.tuple #[.bool true, .agg #[.int .i64 0, .int .i64 0]]), Hold.eq (.tuple #[.bool true, .agg #[.int .i64 0, .int .i64 0]]), Hold.eq (.bool true), Hold.eq (.agg #[.int .i64 0, .int .i64 0]), Hold.box w10.drew.heap.size (.int .i64 0) (.int .i64 0), Hold.eq (.bool true)].getD i Hold.any) (by kernel_rfl) (by kernel_rfl) ?_ ?_
  · refine ⟨stepOb_ca (by kernel_rfl) (by kernel_rfl) ?_, stepOb_ca (by kernel_rfl) (by kernel_rfl) ?_, stepOb_mk (by kernel_rfl) (by kernel_rfl) ?_, stepOb_rd (by kernel_rfl) (by kernel_rfl) ?_, stepOb_rd (by kernel_rfl) (by kernel_rfl) ?_, stepOb_rd (by kernel_rfl) (by kernel_rfl) ?_, stepOb_rd (by kernel_rfl) (by kernel_rfl) ?_, stepOb_rd (by kernel_rfl) (by kernel_rfl) ?_, trivial⟩
    all_goals (intro A x wx F hbx hd; replace hbx := Lib.hid hbx)
    · refine ⟨_, 41, #[.int .i64 1, .int .i64 0, .int .i64 0], rfl, by simp [go_sem], ?_⟩
      refine (ver_at _ _ _ _).mono ?_
      rintro e w' ⟨rfl, rfl⟩
      exact ⟨_, rfl, (Below.refl _ _).alloc (Nat.le_refl _) _, rfl⟩
    · have e0 := F.get (d := 52) 0 rfl rfl (by simp) (hd 0 rfl)
      have e1 := F.get (d := 53) 1 rfl rfl (by simp) (hd 1 rfl)
      refine ⟨_, 16, #[.agg #[.slice oa la.length ca], verV ⟨1, 0, 0, []⟩ none 0], rfl, by simp [go_sem, e0.1, e1.1], ?_⟩
      refine (HC.out.x _ _ _ (RAd.below hbx.out (Nat.le_refl _))).mono ?_
      rintro e w' ⟨rfl, hb'⟩
      exact ⟨_, rfl, hb', rfl⟩
    · exact ⟨_, .pointer (some ⟨wx.heap.size, 0, none⟩), wx.alloc (.cells #[.int .i64 0, .int .i64 0] 29), rfl, by simp [go_sem], Below.ext ((Below.refl _ _).alloc (Nat.le_refl _) _), hbx.out.alloc hbx.out.size _, _, rfl, hbx.out.size, Box2.new _ _ _ _⟩
    · have e0 := F.was (d := 1) (v := .pointer (some ⟨w1.heap.size, 0, none⟩)) rfl rfl
      have g0 := hbx.out
      refine ⟨_, _, rfl, fun w' hx => ?_, rfl⟩
      have r0 := hx.cell _ _ ((g0.cell (p := ⟨w1.heap.size, 0, none⟩) Xd_l).trans (Xd.c 0))
      simp [go_sem, e0.1, r0]
    · have e0 := F.get (d := 54) 2 rfl rfl (by simp) (hd 2 rfl)
      exact ⟨_, _, rfl, fun w' hx => by simp [go_sem, e0.1], rfl⟩
    · have e0 := F.get (d := 51) 3 rfl rfl (by simp) (hd 3 rfl)
      exact ⟨_, _, rfl, fun w' hx => by simp [go_sem, e0.1], rfl⟩
    · have e0 := F.get (d := 51) 3 rfl rfl (by simp) (hd 3 rfl)
      exact ⟨_, _, rfl, fun w' hx => by simp [go_sem, e0.1], rfl⟩
    · have e0 := F.get (d := 55) 4 rfl rfl (by simp) (hd 4 rfl)
      exact ⟨_, _, rfl, fun w' hx => by simp [go_sem, e0.1], rfl⟩
  intro x wx hbx hI
  obtain ⟨-, -, ⟨r8, h6, hr8, X2⟩, -, -, -, h5, h7, -⟩ := hI
  have h5 : x 5 = .agg #[.int .i64 0, .int .i64 0] := h5
  have h7 : x 7 = .bool true := h7
  obtain ⟨c0, c1, f0, f1, l1⟩ := X2
  simp only [actOf, Act.put, List.setIfInBounds_toArray, List.set_cons_succ, List.set_cons_zero, Nat.zero_add, Nat.reduceAdd, h5, h6, h7]
  refine wpI_st rfl rfl rfl (by simp [go_sem, c0, c1, f0, f1]; rfl) ?_
  refine wpI_nil ?_
  simp only [Act.put]
  have hr : w10.heap.size ≤ r8 := hr8
  have Q8 := (Box2.mk c0 c1 f0 f1 l1).set (.int .i64 0) (.int .i64 0)
  have hbk : Below w10.heap.size w10 ((wx.setCell ⟨r8, 0, none⟩ (.int .i64 0)).setCell ⟨r8, 1, none⟩ (.int .i64 0)) := ((bcall (B := w10.heap.size) (by go_grown) hbx (Nat.le_refl _)).setCell (p := ⟨r8, 0, none⟩) hr _).setCell (p := ⟨r8, 1, none⟩) hr _
  clear c0 c1 f0 f1 l1 h5 h6 h7 hbx RAd Xd Xd_c Xd_l hr8
  generalize (wx.setCell ⟨r8, 0, none⟩ (.int .i64 0)).setCell ⟨r8, 1, none⟩ (.int .i64 0) = wy8 at *
  clear X_c X_f X_l U_c U_f U_l F1_c F1_f F1_l I_c I_f I_l F2_c F2_f F2_l D_c D_f D_l F3_c F3_f F3_l P_c P_f P_l F4_c F4_f F4_l F5_c F5_f F5_l
  have B11 : Below w.heap.size w wy8 := bcall B10 hbk B10.size
  have q11 : w10.heap.size + 0 ≤ wy8.heap.size := hbk.size
  replace RA := Lib.hid (RA.out.below hbk (Nat.le_refl _))
  replace RU := Lib.hid (RU.out.below hbk (Nat.le_refl _))
  replace RI := Lib.hid (RI.out.below hbk (Nat.le_refl _))
  replace RD := Lib.hid (RD.out.below hbk (Nat.le_refl _))
  replace RP := Lib.hid (RP.out.below hbk (Nat.le_refl _))
  replace X := X.below hbk X.lt
  replace U := U.below hbk U.lt
  replace F1 := F1.below hbk F1.lt
  replace I := I.below hbk I.lt
  replace F2 := F2.below hbk F2.lt
  replace D := D.below hbk D.lt
  replace F3 := F3.below hbk F3.lt
  replace P := P.below hbk P.lt
  replace F4 := F4.below hbk F4.lt
  replace F5 := F5.below hbk F5.lt
  clear hbk hr
  generalize wy8 = w11 at *
  have s11 : w.heap.size ≤ w11.heap.size := B11.size
  obtain ⟨X_c, X_f, X_l⟩ := id X
  obtain ⟨U_c, U_f, U_l⟩ := id U
  obtain ⟨F1_c, F1_f, F1_l⟩ := id F1
  obtain ⟨I_c, I_f, I_l⟩ := id I
  obtain ⟨F2_c, F2_f, F2_l⟩ := id F2
  obtain ⟨D_c, D_f, D_l⟩ := id D
  obtain ⟨F3_c, F3_f, F3_l⟩ := id F3
  obtain ⟨P_c, P_f, P_l⟩ := id P
  obtain ⟨F4_c, F4_f, F4_l⟩ := id F4
  obtain ⟨F5_c, F5_f, F5_l⟩ := id F5
  go_wp2_with (first | (go_at_call 42; refine (pre_at _ _ _ _ _).mono ?_; rintro e w' ⟨rfl, rfl⟩) | (go_at_call 41; refine (ver_at _ _ _ _).mono ?_; rintro e w' ⟨rfl, rfl⟩))
  have RAd := RA.out.below (B := w11.heap.size) (w' := w11.drew) (by go_grown) (Nat.le_refl _)
  have Xd := X.drew
  obtain ⟨Xd_c, -, Xd_l⟩ := id Xd
  refine wp_region_free [1, 2, 6] [0, 3, 4, 5, 7] [8]
    (fun i => [Hold.eq (.agg #[.slice oa la.length ca]), Hold.eq (verV ⟨3, 0, 0, []⟩ none 0), Hold.eq (.tuple #[.bool false, .agg #[.int .i64 0, .int .i64 0]]), Hold.eq (.tuple #[.bool false, .agg #[.int .i64 0, .int .i64 0]]), Hold.eq (.bool false), Hold.eq (.agg #[.int .i64 0, .int .i64 0]), Hold.box w11.drew.heap.size (.int .i64 0) (.int .i64 0), Hold.eq (.bool false)].getD i Hold.any) (by kernel_rfl) (by kernel_rfl) ?_ ?_
  · refine ⟨stepOb_ca (by kernel_rfl) (by kernel_rfl) ?_, stepOb_ca (by kernel_rfl) (by kernel_rfl) ?_, stepOb_mk (by kernel_rfl) (by kernel_rfl) ?_, stepOb_rd (by kernel_rfl) (by kernel_rfl) ?_, stepOb_rd (by kernel_rfl) (by kernel_rfl) ?_, stepOb_rd (by kernel_rfl) (by kernel_rfl) ?_, stepOb_rd (by kernel_rfl) (by kernel_rfl) ?_, stepOb_rd (by kernel_rfl) (by kernel_rfl) ?_, trivial⟩
    all_goals (intro A x wx F hbx hd; replace hbx := Lib.hid hbx)
    · refine ⟨_, 41, #[.int .i64 3, .int .i64 0, .int .i64 0], rfl, by simp [go_sem], ?_⟩
      refine (ver_at _ _ _ _).mono ?_
      rintro e w' ⟨rfl, rfl⟩
      exact ⟨_, rfl, (Below.refl _ _).alloc (Nat.le_refl _) _, rfl⟩
    · have e0 := F.get (d := 58) 0 rfl rfl (by simp) (hd 0 rfl)
      have e1 := F.get (d := 59) 1 rfl rfl (by simp) (hd 1 rfl)
      refine ⟨_, 16, #[.agg #[.slice oa la.length ca], verV ⟨3, 0, 0, []⟩ none 0], rfl, by simp [go_sem, e0.1, e1.1], ?_⟩
      refine (HC.out.y _ _ _ (RAd.below hbx.out (Nat.le_refl _))).mono ?_
      rintro e w' ⟨rfl, hb'⟩
      exact ⟨_, rfl, hb', rfl⟩
    · exact ⟨_, .pointer (some ⟨wx.heap.size, 0, none⟩), wx.alloc (.cells #[.int .i64 0, .int .i64 0] 29), rfl, by simp [go_sem], Below.ext ((Below.refl _ _).alloc (Nat.le_refl _) _), hbx.out.alloc hbx.out.size _, _, rfl, hbx.out.size, Box2.new _ _ _ _⟩
    · have e0 := F.was (d := 1) (v := .pointer (some ⟨w1.heap.size, 0, none⟩)) rfl rfl
      have g0 := hbx.out
      refine ⟨_, _, rfl, fun w' hx => ?_, rfl⟩
      have r0 := hx.cell _ _ ((g0.cell (p := ⟨w1.heap.size, 0, none⟩) Xd_l).trans (Xd.c 0))
      simp [go_sem, e0.1, r0]
    · have e0 := F.get (d := 60) 2 rfl rfl (by simp) (hd 2 rfl)
      exact ⟨_, _, rfl, fun w' hx => by simp [go_sem, e0.1], rfl⟩
    · have e0 := F.get (d := 57) 3 rfl rfl (by simp) (hd 3 rfl)
      exact ⟨_, _, rfl, fun w' hx => by simp [go_sem, e0.1], rfl⟩
    · have e0 := F.get (d := 57) 3 rfl rfl (by simp) (hd 3 rfl)
      exact ⟨_, _, rfl, fun w' hx => by simp [go_sem, e0.1], rfl⟩
    · have e0 := F.get (d := 61) 4 rfl rfl (by simp) (hd 4 rfl)
      exact ⟨_, _, rfl, fun w' hx => by simp [go_sem, e0.1], rfl⟩
  intro x wx hbx hI
  obtain ⟨-, -, ⟨r9, h6, hr9, X2⟩, -, -, -, h5, h7, -⟩ := hI
  have h5 : x 5 = .agg #[.int .i64 0, .int .i64 0] := h5
  have h7 : x 7 = .bool false := h7
  obtain ⟨c0, c1, f0, f1, l1⟩ := X2
  simp only [actOf, Act.put, List.setIfInBounds_toArray, List.set_cons_succ, List.set_cons_zero, Nat.zero_add, Nat.reduceAdd, h5, h6, h7]
  refine wpI_st rfl rfl rfl (by simp [go_sem, c0, c1, f0, f1]; rfl) ?_
  refine wpI_nil ?_
  simp only [Act.put]
  have hr : w11.heap.size ≤ r9 := hr9
  have Q9 := (Box2.mk c0 c1 f0 f1 l1).set (.int .i64 0) (.int .i64 0)
  have hbk : Below w11.heap.size w11 ((wx.setCell ⟨r9, 0, none⟩ (.int .i64 0)).setCell ⟨r9, 1, none⟩ (.int .i64 0)) := ((bcall (B := w11.heap.size) (by go_grown) hbx (Nat.le_refl _)).setCell (p := ⟨r9, 0, none⟩) hr _).setCell (p := ⟨r9, 1, none⟩) hr _
  clear c0 c1 f0 f1 l1 h5 h6 h7 hbx RAd Xd Xd_c Xd_l hr9
  generalize (wx.setCell ⟨r9, 0, none⟩ (.int .i64 0)).setCell ⟨r9, 1, none⟩ (.int .i64 0) = wy9 at *
  replace Q8 := Q8.below hbk Q8.lt
  clear X_c X_f X_l U_c U_f U_l F1_c F1_f F1_l I_c I_f I_l F2_c F2_f F2_l D_c D_f D_l F3_c F3_f F3_l P_c P_f P_l F4_c F4_f F4_l F5_c F5_f F5_l
  have B12 : Below w.heap.size w wy9 := bcall B11 hbk B11.size
  have q12 : w11.heap.size + 0 ≤ wy9.heap.size := hbk.size
  replace RA := Lib.hid (RA.out.below hbk (Nat.le_refl _))
  replace RU := Lib.hid (RU.out.below hbk (Nat.le_refl _))
  replace RI := Lib.hid (RI.out.below hbk (Nat.le_refl _))
  replace RD := Lib.hid (RD.out.below hbk (Nat.le_refl _))
  replace RP := Lib.hid (RP.out.below hbk (Nat.le_refl _))
  replace X := X.below hbk X.lt
  replace U := U.below hbk U.lt
  replace F1 := F1.below hbk F1.lt
  replace I := I.below hbk I.lt
  replace F2 := F2.below hbk F2.lt
  replace D := D.below hbk D.lt
  replace F3 := F3.below hbk F3.lt
  replace P := P.below hbk P.lt
  replace F4 := F4.below hbk F4.lt
  replace F5 := F5.below hbk F5.lt
  clear hbk hr
  generalize wy9 = w12 at *
  have s12 : w.heap.size ≤ w12.heap.size := B12.size
  obtain ⟨X_c, X_f, X_l⟩ := id X
  obtain ⟨U_c, U_f, U_l⟩ := id U
  obtain ⟨F1_c, F1_f, F1_l⟩ := id F1
  obtain ⟨I_c, I_f, I_l⟩ := id I
  obtain ⟨F2_c, F2_f, F2_l⟩ := id F2
  obtain ⟨D_c, D_f, D_l⟩ := id D
  obtain ⟨F3_c, F3_f, F3_l⟩ := id F3
  obtain ⟨P_c, P_f, P_l⟩ := id P
  obtain ⟨F4_c, F4_f, F4_l⟩ := id F4
  obtain ⟨F5_c, F5_f, F5_l⟩ := id F5
  obtain ⟨p0, p1, -, -, p4⟩ := Q8
  obtain ⟨z0, z1, -, -, z4⟩ := Q9
  go_wp2_with (first | (go_at_call 42; refine (pre_at _ _ _ _ _).mono ?_; rintro e w' ⟨rfl, rfl⟩) | (go_at_call 41; refine (ver_at _ _ _ _).mono ?_; rintro e w' ⟨rfl, rfl⟩))
  clear p0 p1 p4 z0 z1 z4
  have B13 : Below w.heap.size w ((((w12.alloc (.cells #[.int .i64 0, .int .i64 0, .int .i64 0, .slice (some ⟨w12.heap.size + 1, 0, none⟩) 1 1] 27)).alloc (.cells #[.string ⟨#[48]⟩] 9)).alloc (.cells #[.int .i64 0, .int .i64 0, .int .i64 0, .slice (some ⟨w12.heap.size + 1, 0, none⟩) 1 1, .int .i64 0, .int .i64 0, .int .i64 0, .slice none 0 0, .bool true] 58)).alloc (.cells #[.slice (some ⟨w12.heap.size + 1 + 1, 0, none⟩) 1 1] 24)) := by go_grown
  have q13 : w12.heap.size + 4 ≤ ((((w12.alloc (.cells #[.int .i64 0, .int .i64 0, .int .i64 0, .slice (some ⟨w12.heap.size + 1, 0, none⟩) 1 1] 27)).alloc (.cells #[.string ⟨#[48]⟩] 9)).alloc (.cells #[.int .i64 0, .int .i64 0, .int .i64 0, .slice (some ⟨w12.heap.size + 1, 0, none⟩) 1 1, .int .i64 0, .int .i64 0, .int .i64 0, .slice none 0 0, .bool true] 58)).alloc (.cells #[.slice (some ⟨w12.heap.size + 1 + 1, 0, none⟩) 1 1] 24)).heap.size := by simp only [World.size_alloc]; omega
  replace RA := Lib.hid ((((RA.out.below (Below.refl _ _ |>.alloc (Nat.le_refl _) (.cells #[.int .i64 0, .int .i64 0, .int .i64 0, .slice (some ⟨w12.heap.size + 1, 0, none⟩) 1 1] 27)) (Nat.le_refl _)).below (Below.refl _ _ |>.alloc (Nat.le_refl _) (.cells #[.string ⟨#[48]⟩] 9)) (Nat.le_refl _)).below (Below.refl _ _ |>.alloc (Nat.le_refl _) (.cells #[.int .i64 0, .int .i64 0, .int .i64 0, .slice (some ⟨w12.heap.size + 1, 0, none⟩) 1 1, .int .i64 0, .int .i64 0, .int .i64 0, .slice none 0 0, .bool true] 58)) (Nat.le_refl _)).below (Below.refl _ _ |>.alloc (Nat.le_refl _) (.cells #[.slice (some ⟨w12.heap.size + 1 + 1, 0, none⟩) 1 1] 24)) (Nat.le_refl _))
  replace RU := Lib.hid ((((RU.out.below (Below.refl _ _ |>.alloc (Nat.le_refl _) (.cells #[.int .i64 0, .int .i64 0, .int .i64 0, .slice (some ⟨w12.heap.size + 1, 0, none⟩) 1 1] 27)) (Nat.le_refl _)).below (Below.refl _ _ |>.alloc (Nat.le_refl _) (.cells #[.string ⟨#[48]⟩] 9)) (Nat.le_refl _)).below (Below.refl _ _ |>.alloc (Nat.le_refl _) (.cells #[.int .i64 0, .int .i64 0, .int .i64 0, .slice (some ⟨w12.heap.size + 1, 0, none⟩) 1 1, .int .i64 0, .int .i64 0, .int .i64 0, .slice none 0 0, .bool true] 58)) (Nat.le_refl _)).below (Below.refl _ _ |>.alloc (Nat.le_refl _) (.cells #[.slice (some ⟨w12.heap.size + 1 + 1, 0, none⟩) 1 1] 24)) (Nat.le_refl _))
  replace RI := Lib.hid ((((RI.out.below (Below.refl _ _ |>.alloc (Nat.le_refl _) (.cells #[.int .i64 0, .int .i64 0, .int .i64 0, .slice (some ⟨w12.heap.size + 1, 0, none⟩) 1 1] 27)) (Nat.le_refl _)).below (Below.refl _ _ |>.alloc (Nat.le_refl _) (.cells #[.string ⟨#[48]⟩] 9)) (Nat.le_refl _)).below (Below.refl _ _ |>.alloc (Nat.le_refl _) (.cells #[.int .i64 0, .int .i64 0, .int .i64 0, .slice (some ⟨w12.heap.size + 1, 0, none⟩) 1 1, .int .i64 0, .int .i64 0, .int .i64 0, .slice none 0 0, .bool true] 58)) (Nat.le_refl _)).below (Below.refl _ _ |>.alloc (Nat.le_refl _) (.cells #[.slice (some ⟨w12.heap.size + 1 + 1, 0, none⟩) 1 1] 24)) (Nat.le_refl _))
  replace RD := Lib.hid ((((RD.out.below (Below.refl _ _ |>.alloc (Nat.le_refl _) (.cells #[.int .i64 0, .int .i64 0, .int .i64 0, .slice (some ⟨w12.heap.size + 1, 0, none⟩) 1 1] 27)) (Nat.le_refl _)).below (Below.refl _ _ |>.alloc (Nat.le_refl _) (.cells #[.string ⟨#[48]⟩] 9)) (Nat.le_refl _)).below (Below.refl _ _ |>.alloc (Nat.le_refl _) (.cells #[.int .i64 0, .int .i64 0, .int .i64 0, .slice (some ⟨w12.heap.size + 1, 0, none⟩) 1 1, .int .i64 0, .int .i64 0, .int .i64 0, .slice none 0 0, .bool true] 58)) (Nat.le_refl _)).below (Below.refl _ _ |>.alloc (Nat.le_refl _) (.cells #[.slice (some ⟨w12.heap.size + 1 + 1, 0, none⟩) 1 1] 24)) (Nat.le_refl _))
  replace RP := Lib.hid ((((RP.out.below (Below.refl _ _ |>.alloc (Nat.le_refl _) (.cells #[.int .i64 0, .int .i64 0, .int .i64 0, .slice (some ⟨w12.heap.size + 1, 0, none⟩) 1 1] 27)) (Nat.le_refl _)).below (Below.refl _ _ |>.alloc (Nat.le_refl _) (.cells #[.string ⟨#[48]⟩] 9)) (Nat.le_refl _)).below (Below.refl _ _ |>.alloc (Nat.le_refl _) (.cells #[.int .i64 0, .int .i64 0, .int .i64 0, .slice (some ⟨w12.heap.size + 1, 0, none⟩) 1 1, .int .i64 0, .int .i64 0, .int .i64 0, .slice none 0 0, .bool true] 58)) (Nat.le_refl _)).below (Below.refl _ _ |>.alloc (Nat.le_refl _) (.cells #[.slice (some ⟨w12.heap.size + 1 + 1, 0, none⟩) 1 1] 24)) (Nat.le_refl _))
  replace X := ((((X.alloc (.cells #[.int .i64 0, .int .i64 0, .int .i64 0, .slice (some ⟨w12.heap.size + 1, 0, none⟩) 1 1] 27)).alloc (.cells #[.string ⟨#[48]⟩] 9)).alloc (.cells #[.int .i64 0, .int .i64 0, .int .i64 0, .slice (some ⟨w12.heap.size + 1, 0, none⟩) 1 1, .int .i64 0, .int .i64 0, .int .i64 0, .slice none 0 0, .bool true] 58)).alloc (.cells #[.slice (some ⟨w12.heap.size + 1 + 1, 0, none⟩) 1 1] 24))
  replace U := ((((U.alloc (.cells #[.int .i64 0, .int .i64 0, .int .i64 0, .slice (some ⟨w12.heap.size + 1, 0, none⟩) 1 1] 27)).alloc (.cells #[.string ⟨#[48]⟩] 9)).alloc (.cells #[.int .i64 0, .int .i64 0, .int .i64 0, .slice (some ⟨w12.heap.size + 1, 0, none⟩) 1 1, .int .i64 0, .int .i64 0, .int .i64 0, .slice none 0 0, .bool true] 58)).alloc (.cells #[.slice (some ⟨w12.heap.size + 1 + 1, 0, none⟩) 1 1] 24))
  replace F1 := ((((F1.alloc (.cells #[.int .i64 0, .int .i64 0, .int .i64 0, .slice (some ⟨w12.heap.size + 1, 0, none⟩) 1 1] 27)).alloc (.cells #[.string ⟨#[48]⟩] 9)).alloc (.cells #[.int .i64 0, .int .i64 0, .int .i64 0, .slice (some ⟨w12.heap.size + 1, 0, none⟩) 1 1, .int .i64 0, .int .i64 0, .int .i64 0, .slice none 0 0, .bool true] 58)).alloc (.cells #[.slice (some ⟨w12.heap.size + 1 + 1, 0, none⟩) 1 1] 24))
  replace I := ((((I.alloc (.cells #[.int .i64 0, .int .i64 0, .int .i64 0, .slice (some ⟨w12.heap.size + 1, 0, none⟩) 1 1] 27)).alloc (.cells #[.string ⟨#[48]⟩] 9)).alloc (.cells #[.int .i64 0, .int .i64 0, .int .i64 0, .slice (some ⟨w12.heap.size + 1, 0, none⟩) 1 1, .int .i64 0, .int .i64 0, .int .i64 0, .slice none 0 0, .bool true] 58)).alloc (.cells #[.slice (some ⟨w12.heap.size + 1 + 1, 0, none⟩) 1 1] 24))
  replace F2 := ((((F2.alloc (.cells #[.int .i64 0, .int .i64 0, .int .i64 0, .slice (some ⟨w12.heap.size + 1, 0, none⟩) 1 1] 27)).alloc (.cells #[.string ⟨#[48]⟩] 9)).alloc (.cells #[.int .i64 0, .int .i64 0, .int .i64 0, .slice (some ⟨w12.heap.size + 1, 0, none⟩) 1 1, .int .i64 0, .int .i64 0, .int .i64 0, .slice none 0 0, .bool true] 58)).alloc (.cells #[.slice (some ⟨w12.heap.size + 1 + 1, 0, none⟩) 1 1] 24))
  replace D := ((((D.alloc (.cells #[.int .i64 0, .int .i64 0, .int .i64 0, .slice (some ⟨w12.heap.size + 1, 0, none⟩) 1 1] 27)).alloc (.cells #[.string ⟨#[48]⟩] 9)).alloc (.cells #[.int .i64 0, .int .i64 0, .int .i64 0, .slice (some ⟨w12.heap.size + 1, 0, none⟩) 1 1, .int .i64 0, .int .i64 0, .int .i64 0, .slice none 0 0, .bool true] 58)).alloc (.cells #[.slice (some ⟨w12.heap.size + 1 + 1, 0, none⟩) 1 1] 24))
  replace F3 := ((((F3.alloc (.cells #[.int .i64 0, .int .i64 0, .int .i64 0, .slice (some ⟨w12.heap.size + 1, 0, none⟩) 1 1] 27)).alloc (.cells #[.string ⟨#[48]⟩] 9)).alloc (.cells #[.int .i64 0, .int .i64 0, .int .i64 0, .slice (some ⟨w12.heap.size + 1, 0, none⟩) 1 1, .int .i64 0, .int .i64 0, .int .i64 0, .slice none 0 0, .bool true] 58)).alloc (.cells #[.slice (some ⟨w12.heap.size + 1 + 1, 0, none⟩) 1 1] 24))
  replace P := ((((P.alloc (.cells #[.int .i64 0, .int .i64 0, .int .i64 0, .slice (some ⟨w12.heap.size + 1, 0, none⟩) 1 1] 27)).alloc (.cells #[.string ⟨#[48]⟩] 9)).alloc (.cells #[.int .i64 0, .int .i64 0, .int .i64 0, .slice (some ⟨w12.heap.size + 1, 0, none⟩) 1 1, .int .i64 0, .int .i64 0, .int .i64 0, .slice none 0 0, .bool true] 58)).alloc (.cells #[.slice (some ⟨w12.heap.size + 1 + 1, 0, none⟩) 1 1] 24))
  replace F4 := ((((F4.alloc (.cells #[.int .i64 0, .int .i64 0, .int .i64 0, .slice (some ⟨w12.heap.size + 1, 0, none⟩) 1 1] 27)).alloc (.cells #[.string ⟨#[48]⟩] 9)).alloc (.cells #[.int .i64 0, .int .i64 0, .int .i64 0, .slice (some ⟨w12.heap.size + 1, 0, none⟩) 1 1, .int .i64 0, .int .i64 0, .int .i64 0, .slice none 0 0, .bool true] 58)).alloc (.cells #[.slice (some ⟨w12.heap.size + 1 + 1, 0, none⟩) 1 1] 24))
  replace F5 := ((((F5.alloc (.cells #[.int .i64 0, .int .i64 0, .int .i64 0, .slice (some ⟨w12.heap.size + 1, 0, none⟩) 1 1] 27)).alloc (.cells #[.string ⟨#[48]⟩] 9)).alloc (.cells #[.int .i64 0, .int .i64 0, .int .i64 0, .slice (some ⟨w12.heap.size + 1, 0, none⟩) 1 1, .int .i64 0, .int .i64 0, .int .i64 0, .slice none 0 0, .bool true] 58)).alloc (.cells #[.slice (some ⟨w12.heap.size + 1 + 1, 0, none⟩) 1 1] 24))
  have K := (((Bk.new (r := w12.heap.size + 1) (cs := [.string ⟨#[48]⟩]) (w12.alloc (.cells #[.int .i64 0, .int .i64 0, .int .i64 0, .slice (some ⟨w12.heap.size + 1, 0, none⟩) 1 1] 27)) 9 (by simp)).alloc (.cells #[.int .i64 0, .int .i64 0, .int .i64 0, .slice (some ⟨w12.heap.size + 1, 0, none⟩) 1 1, .int .i64 0, .int .i64 0, .int .i64 0, .slice none 0 0, .bool true] 58)).alloc (.cells #[.slice (some ⟨w12.heap.size + 1 + 1, 0, none⟩) 1 1] 24))
  have Z := ((Bk.new (r := w12.heap.size + 1 + 1) (cs := [.int .i64 0, .int .i64 0, .int .i64 0, .slice (some ⟨w12.heap.size + 1, 0, none⟩) 1 1, .int .i64 0, .int .i64 0, .int .i64 0, .slice none 0 0, .bool true]) ((w12.alloc (.cells #[.int .i64 0, .int .i64 0, .int .i64 0, .slice (some ⟨w12.heap.size + 1, 0, none⟩) 1 1] 27)).alloc (.cells #[.string ⟨#[48]⟩] 9)) 58 (by simp)).alloc (.cells #[.slice (some ⟨w12.heap.size + 1 + 1, 0, none⟩) 1 1] 24))
  have T := (Bk.new (r := w12.heap.size + 1 + 1 + 1) (cs := [.slice (some ⟨w12.heap.size + 1 + 1, 0, none⟩) 1 1]) (((w12.alloc (.cells #[.int .i64 0, .int .i64 0, .int .i64 0, .slice (some ⟨w12.heap.size + 1, 0, none⟩) 1 1] 27)).alloc (.cells #[.string ⟨#[48]⟩] 9)).alloc (.cells #[.int .i64 0, .int .i64 0, .int .i64 0, .slice (some ⟨w12.heap.size + 1, 0, none⟩) 1 1, .int .i64 0, .int .i64 0, .int .i64 0, .slice none 0 0, .bool true] 58)) 24 (by simp))
  clear X_c X_f X_l U_c U_f U_l F1_c F1_f F1_l I_c I_f I_l F2_c F2_f F2_l D_c D_f D_l F3_c F3_f F3_l P_c P_f P_l F4_c F4_f F4_l F5_c F5_f F5_l
  generalize ((((w12.alloc (.cells #[.int .i64 0, .int .i64 0, .int .i64 0, .slice (some ⟨w12.heap.size + 1, 0, none⟩) 1 1] 27)).alloc (.cells #[.string ⟨#[48]⟩] 9)).alloc (.cells #[.int .i64 0, .int .i64 0, .int .i64 0, .slice (some ⟨w12.heap.size + 1, 0, none⟩) 1 1, .int .i64 0, .int .i64 0, .int .i64 0, .slice none 0 0, .bool true] 58)).alloc (.cells #[.slice (some ⟨w12.heap.size + 1 + 1, 0, none⟩) 1 1] 24)) = w13 at *
  have s13 : w.heap.size ≤ w13.heap.size := B13.size
  obtain ⟨X_c, X_f, X_l⟩ := id X
  obtain ⟨U_c, U_f, U_l⟩ := id U
  obtain ⟨F1_c, F1_f, F1_l⟩ := id F1
  obtain ⟨I_c, I_f, I_l⟩ := id I
  obtain ⟨F2_c, F2_f, F2_l⟩ := id F2
  obtain ⟨D_c, D_f, D_l⟩ := id D
  obtain ⟨F3_c, F3_f, F3_l⟩ := id F3
  obtain ⟨P_c, P_f, P_l⟩ := id P
  obtain ⟨F4_c, F4_f, F4_l⟩ := id F4
  obtain ⟨F5_c, F5_f, F5_l⟩ := id F5
  obtain ⟨K_c, K_f, K_l⟩ := id K
  obtain ⟨Z_c, Z_f, Z_l⟩ := id Z
  obtain ⟨T_c, T_f, T_l⟩ := id T
  have RT : RIn w13 (Pl.upR Pl.lowV) (some ⟨w12.heap.size + 1 + 1, 0, none⟩) 1 := RIn.lit Z ⟨some ⟨w12.heap.size + 1, 0, none⟩, none, 1, 0, rfl, VIn.lit (by decide) K, VIn.zero _⟩
  replace RT := Lib.hid RT
  refine wp_region_ord [0, 1, 2, 3, 4, 5, 6, 7, 8, 9, 10, 11, 12, 13, 14, 15, 16, 17, 18, 19, 20, 21, 22, 23, 24, 25, 26, 27, 28, 29, 30, 31] (by kernel_rfl) (by kernel_rfl) ?_
  have B14 : Below w.heap.size w w13.drew := by go_grown
  have q14 : w13.heap.size + 0 ≤ w13.drew.heap.size := by simp only [World.size_drew]; omega
  replace RA := Lib.hid (RA.out.below (Below.refl _ _).drew (Nat.le_refl _))
  replace RU := Lib.hid (RU.out.below (Below.refl _ _).drew (Nat.le_refl _))
  replace RI := Lib.hid (RI.out.below (Below.refl _ _).drew (Nat.le_refl _))
  replace RD := Lib.hid (RD.out.below (Below.refl _ _).drew (Nat.le_refl _))
  replace RP := Lib.hid (RP.out.below (Below.refl _ _).drew (Nat.le_refl _))
  replace RT := Lib.hid (RT.out.below (Below.refl _ _).drew (Nat.le_refl _))
  replace X := X.drew
  replace U := U.drew
  replace F1 := F1.drew
  replace I := I.drew
  replace F2 := F2.drew
  replace D := D.drew
  replace F3 := F3.drew
  replace P := P.drew
  replace F4 := F4.drew
  replace F5 := F5.drew
  replace K := K.drew
  replace Z := Z.drew
  replace T := T.drew
  clear X_c X_f X_l U_c U_f U_l F1_c F1_f F1_l I_c I_f I_l F2_c F2_f F2_l D_c D_f D_l F3_c F3_f F3_l P_c P_f P_l F4_c F4_f F4_l F5_c F5_f F5_l K_c K_f K_l Z_c Z_f Z_l T_c T_f T_l
  generalize w13.drew = w14 at *
  have s14 : w.heap.size ≤ w14.heap.size := B14.size
  obtain ⟨X_c, X_f, X_l⟩ := id X
  obtain ⟨U_c, U_f, U_l⟩ := id U
  obtain ⟨F1_c, F1_f, F1_l⟩ := id F1
  obtain ⟨I_c, I_f, I_l⟩ := id I
  obtain ⟨F2_c, F2_f, F2_l⟩ := id F2
  obtain ⟨D_c, D_f, D_l⟩ := id D
  obtain ⟨F3_c, F3_f, F3_l⟩ := id F3
  obtain ⟨P_c, P_f, P_l⟩ := id P
  obtain ⟨F4_c, F4_f, F4_l⟩ := id F4
  obtain ⟨F5_c, F5_f, F5_l⟩ := id F5
  obtain ⟨K_c, K_f, K_l⟩ := id K
  obtain ⟨Z_c, Z_f, Z_l⟩ := id Z
  obtain ⟨T_c, T_f, T_l⟩ := id T
  repeat (first | (refine wpI_rd rfl rfl ?_; go_big_quiet_step (fail); refine wpQuiet_nil ?_) | (refine wpI_skip rfl rfl ?_; try simp only [Act.put, List.setIfInBounds_toArray, List.set_cons_zero, List.set_cons_succ]))
  try simp only [Act.put, List.setIfInBounds_toArray, List.set_cons_zero, List.set_cons_succ]
  refine wpI_call (f := 41) (args := #[.int .i64 1, .int .i64 0, .int .i64 0]) rfl rfl rfl (by simp [go_sem]) ?_
  refine (ver_at _ _ _ _).mono ?_
  rintro e w15 ⟨rfl, he15⟩
  have hb : Below w14.heap.size w14 w15 := by rw [he15]; exact (Below.refl _ _).alloc (Nat.le_refl _) _
  clear he15
  refine ⟨_, rfl, hb, ?_⟩
  skip
  have B15 : Below w.heap.size w w15 := bcall (by go_grown) hb (by go_size)
  have q15 : w14.heap.size + 0 ≤ w15.heap.size := by have z := hb.size; (try simp only [World.size_alloc, World.size_setCell, World.size_drew] at z); omega
  replace RA := Lib.hid (RA.out.below hb (Nat.le_refl _))
  replace RU := Lib.hid (RU.out.below hb (Nat.le_refl _))
  replace RI := Lib.hid (RI.out.below hb (Nat.le_refl _))
  replace RD := Lib.hid (RD.out.below hb (Nat.le_refl _))
  replace RP := Lib.hid (RP.out.below hb (Nat.le_refl _))
  replace RT := Lib.hid (RT.out.below hb (Nat.le_refl _))
  replace X := (X).below hb (by go_size)
  replace U := (U).below hb (by go_size)
  replace F1 := (F1).below hb (by go_size)
  replace I := (I).below hb (by go_size)
  replace F2 := (F2).below hb (by go_size)
  replace D := (D).below hb (by go_size)
  replace F3 := (F3).below hb (by go_size)
  replace P := (P).below hb (by go_size)
  replace F4 := (F4).below hb (by go_size)
  replace F5 := (F5).below hb (by go_size)
  replace K := (K).below hb (by go_size)
  replace Z := (Z).below hb (by go_size)
  replace T := (T).below hb (by go_size)
  clear hb
  have s15 : w.heap.size ≤ w15.heap.size := B15.size
  clear X_c X_f X_l U_c U_f U_l F1_c F1_f F1_l I_c I_f I_l F2_c F2_f F2_l D_c D_f D_l F3_c F3_f F3_l P_c P_f P_l F4_c F4_f F4_l F5_c F5_f F5_l K_c K_f K_l Z_c Z_f Z_l T_c T_f T_l
  obtain ⟨X_c, X_f, X_l⟩ := id X
  obtain ⟨U_c, U_f, U_l⟩ := id U
  obtain ⟨F1_c, F1_f, F1_l⟩ := id F1
  obtain ⟨I_c, I_f, I_l⟩ := id I
  obtain ⟨F2_c, F2_f, F2_l⟩ := id F2
  obtain ⟨D_c, D_f, D_l⟩ := id D
  obtain ⟨F3_c, F3_f, F3_l⟩ := id F3
  obtain ⟨P_c, P_f, P_l⟩ := id P
  obtain ⟨F4_c, F4_f, F4_l⟩ := id F4
  obtain ⟨F5_c, F5_f, F5_l⟩ := id F5
  obtain ⟨K_c, K_f, K_l⟩ := id K
  obtain ⟨Z_c, Z_f, Z_l⟩ := id Z
  obtain ⟨T_c, T_f, T_l⟩ := id T
  try simp only [Act.put, List.setIfInBounds_toArray, List.set_cons_zero, List.set_cons_succ]
  refine wpI_call (f := 41) (args := #[.int .i64 4, .int .i64 0, .int .i64 0]) rfl rfl rfl (by simp [go_sem]) ?_
  refine (ver_at _ _ _ _).mono ?_
  rintro e w16 ⟨rfl, he16⟩
  have hb : Below w15.heap.size w15 w16 := by rw [he16]; exact (Below.refl _ _).alloc (Nat.le_refl _) _
  clear he16
  refine ⟨_, rfl, hb, ?_⟩
  skip
  have B16 : Below w.heap.size w w16 := bcall (by go_grown) hb (by go_size)
  have q16 : w15.heap.size + 0 ≤ w16.heap.size := by have z := hb.size; (try simp only [World.size_alloc, World.size_setCell, World.size_drew] at z); omega
  replace RA := Lib.hid (RA.out.below hb (Nat.le_refl _))
  replace RU := Lib.hid (RU.out.below hb (Nat.le_refl _))
  replace RI := Lib.hid (RI.out.below hb (Nat.le_refl _))
  replace RD := Lib.hid (RD.out.below hb (Nat.le_refl _))
  replace RP := Lib.hid (RP.out.below hb (Nat.le_refl _))
  replace RT := Lib.hid (RT.out.below hb (Nat.le_refl _))
  replace X := (X).below hb (by go_size)
  replace U := (U).below hb (by go_size)
  replace F1 := (F1).below hb (by go_size)
  replace I := (I).below hb (by go_size)
  replace F2 := (F2).below hb (by go_size)
  replace D := (D).below hb (by go_size)
  replace F3 := (F3).below hb (by go_size)
  replace P := (P).below hb (by go_size)
  replace F4 := (F4).below hb (by go_size)
  replace F5 := (F5).below hb (by go_size)
  replace K := (K).below hb (by go_size)
  replace Z := (Z).below hb (by go_size)
  replace T := (T).below hb (by go_size)
  clear hb
  have s16 : w.heap.size ≤ w16.heap.size := B16.size
  clear X_c X_f X_l U_c U_f U_l F1_c F1_f F1_l I_c I_f I_l F2_c F2_f F2_l D_c D_f D_l F3_c F3_f F3_l P_c P_f P_l F4_c F4_f F4_l F5_c F5_f F5_l K_c K_f K_l Z_c Z_f Z_l T_c T_f T_l
  obtain ⟨X_c, X_f, X_l⟩ := id X
  obtain ⟨U_c, U_f, U_l⟩ := id U
  obtain ⟨F1_c, F1_f, F1_l⟩ := id F1
  obtain ⟨I_c, I_f, I_l⟩ := id I
  obtain ⟨F2_c, F2_f, F2_l⟩ := id F2
  obtain ⟨D_c, D_f, D_l⟩ := id D
  obtain ⟨F3_c, F3_f, F3_l⟩ := id F3
  obtain ⟨P_c, P_f, P_l⟩ := id P
  obtain ⟨F4_c, F4_f, F4_l⟩ := id F4
  obtain ⟨F5_c, F5_f, F5_l⟩ := id F5
  obtain ⟨K_c, K_f, K_l⟩ := id K
  obtain ⟨Z_c, Z_f, Z_l⟩ := id Z
  obtain ⟨T_c, T_f, T_l⟩ := id T
  try simp only [Act.put, List.setIfInBounds_toArray, List.set_cons_zero, List.set_cons_succ]
  refine wpI_call (f := 40) rfl rfl rfl (by simp [go_sem]; rfl) ?_
  refine (HC.out.d1 _).mono ?_
  rintro e w17 ⟨o1, k1, rfl, S1, hb⟩
  replace S1 := Lib.hid S1
  refine ⟨_, rfl, hb, ?_⟩
  skip
  have B17 : Below w.heap.size w w17 := bcall (by go_grown) hb (by go_size)
  have q17 : w16.heap.size + 0 ≤ w17.heap.size := by have z := hb.size; (try simp only [World.size_alloc, World.size_setCell, World.size_drew] at z); omega
  replace RA := Lib.hid (RA.out.below hb (Nat.le_refl _))
  replace RU := Lib.hid (RU.out.below hb (Nat.le_refl _))
  replace RI := Lib.hid (RI.out.below hb (Nat.le_refl _))
  replace RD := Lib.hid (RD.out.below hb (Nat.le_refl _))
  replace RP := Lib.hid (RP.out.below hb (Nat.le_refl _))
  replace RT := Lib.hid (RT.out.below hb (Nat.le_refl _))
  replace X := (X).below hb (by go_size)
  replace U := (U).below hb (by go_size)
  replace F1 := (F1).below hb (by go_size)
  replace I := (I).below hb (by go_size)
  replace F2 := (F2).below hb (by go_size)
  replace D := (D).below hb (by go_size)
  replace F3 := (F3).below hb (by go_size)
  replace P := (P).below hb (by go_size)
  replace F4 := (F4).below hb (by go_size)
  replace F5 := (F5).below hb (by go_size)
  replace K := (K).below hb (by go_size)
  replace Z := (Z).below hb (by go_size)
  replace T := (T).below hb (by go_size)
  clear hb
  have s17 : w.heap.size ≤ w17.heap.size := B17.size
  clear X_c X_f X_l U_c U_f U_l F1_c F1_f F1_l I_c I_f I_l F2_c F2_f F2_l D_c D_f D_l F3_c F3_f F3_l P_c P_f P_l F4_c F4_f F4_l F5_c F5_f F5_l K_c K_f K_l Z_c Z_f Z_l T_c T_f T_l
  obtain ⟨X_c, X_f, X_l⟩ := id X
  obtain ⟨U_c, U_f, U_l⟩ := id U
  obtain ⟨F1_c, F1_f, F1_l⟩ := id F1
  obtain ⟨I_c, I_f, I_l⟩ := id I
  obtain ⟨F2_c, F2_f, F2_l⟩ := id F2
  obtain ⟨D_c, D_f, D_l⟩ := id D
  obtain ⟨F3_c, F3_f, F3_l⟩ := id F3
  obtain ⟨P_c, P_f, P_l⟩ := id P
  obtain ⟨F4_c, F4_f, F4_l⟩ := id F4
  obtain ⟨F5_c, F5_f, F5_l⟩ := id F5
  obtain ⟨K_c, K_f, K_l⟩ := id K
  obtain ⟨Z_c, Z_f, Z_l⟩ := id Z
  obtain ⟨T_c, T_f, T_l⟩ := id T
  try simp only [Act.put, List.setIfInBounds_toArray, List.set_cons_zero, List.set_cons_succ]
  refine wpI_call (f := 25) rfl rfl rfl (by simp [go_sem]; rfl) ?_
  refine (same_self lu _ _ _ _ _ RU.out S1.out).mono ?_
  rintro e w18 ⟨rfl, hb⟩
  refine ⟨_, rfl, hb, ?_⟩
  skip
  have B18 : Below w.heap.size w w18 := bcall (by go_grown) hb (by go_size)
  have q18 : w17.heap.size + 0 ≤ w18.heap.size := by have z := hb.size; (try simp only [World.size_alloc, World.size_setCell, World.size_drew] at z); omega
  replace RA := Lib.hid (RA.out.below hb (Nat.le_refl _))
  replace RU := Lib.hid (RU.out.below hb (Nat.le_refl _))
  replace RI := Lib.hid (RI.out.below hb (Nat.le_refl _))
  replace RD := Lib.hid (RD.out.below hb (Nat.le_refl _))
  replace RP := Lib.hid (RP.out.below hb (Nat.le_refl _))
  replace RT := Lib.hid (RT.out.below hb (Nat.le_refl _))
  replace S1 := Lib.hid (S1.out.below hb (Nat.le_refl _))
  replace X := (X).below hb (by go_size)
  replace U := (U).below hb (by go_size)
  replace F1 := (F1).below hb (by go_size)
  replace I := (I).below hb (by go_size)
  replace F2 := (F2).below hb (by go_size)
  replace D := (D).below hb (by go_size)
  replace F3 := (F3).below hb (by go_size)
  replace P := (P).below hb (by go_size)
  replace F4 := (F4).below hb (by go_size)
  replace F5 := (F5).below hb (by go_size)
  replace K := (K).below hb (by go_size)
  replace Z := (Z).below hb (by go_size)
  replace T := (T).below hb (by go_size)
  clear hb
  have s18 : w.heap.size ≤ w18.heap.size := B18.size
  clear X_c X_f X_l U_c U_f U_l F1_c F1_f F1_l I_c I_f I_l F2_c F2_f F2_l D_c D_f D_l F3_c F3_f F3_l P_c P_f P_l F4_c F4_f F4_l F5_c F5_f F5_l K_c K_f K_l Z_c Z_f Z_l T_c T_f T_l
  obtain ⟨X_c, X_f, X_l⟩ := id X
  obtain ⟨U_c, U_f, U_l⟩ := id U
  obtain ⟨F1_c, F1_f, F1_l⟩ := id F1
  obtain ⟨I_c, I_f, I_l⟩ := id I
  obtain ⟨F2_c, F2_f, F2_l⟩ := id F2
  obtain ⟨D_c, D_f, D_l⟩ := id D
  obtain ⟨F3_c, F3_f, F3_l⟩ := id F3
  obtain ⟨P_c, P_f, P_l⟩ := id P
  obtain ⟨F4_c, F4_f, F4_l⟩ := id F4
  obtain ⟨F5_c, F5_f, F5_l⟩ := id F5
  obtain ⟨K_c, K_f, K_l⟩ := id K
  obtain ⟨Z_c, Z_f, Z_l⟩ := id Z
  obtain ⟨T_c, T_f, T_l⟩ := id T
  try simp only [Act.put, List.setIfInBounds_toArray, List.set_cons_zero, List.set_cons_succ]
  clear RU S1 U
  repeat (first | (refine wpI_rd rfl rfl ?_; go_big_quiet_step (fail); refine wpQuiet_nil ?_) | (refine wpI_skip rfl rfl ?_; try simp only [Act.put, List.setIfInBounds_toArray, List.set_cons_zero, List.set_cons_succ]))
  try simp only [Act.put, List.setIfInBounds_toArray, List.set_cons_zero, List.set_cons_succ]
  refine wpI_call (f := 41) (args := #[.int .i64 2, .int .i64 0, .int .i64 0]) rfl rfl rfl (by simp [go_sem]) ?_
  refine (ver_at _ _ _ _).mono ?_
  rintro e w19 ⟨rfl, he19⟩
  have hb : Below w18.heap.size w18 w19 := by rw [he19]; exact (Below.refl _ _).alloc (Nat.le_refl _) _
  clear he19
  refine ⟨_, rfl, hb, ?_⟩
  skip
  have B19 : Below w.heap.size w w19 := bcall (by go_grown) hb (by go_size)
  have q19 : w18.heap.size + 0 ≤ w19.heap.size := by have z := hb.size; (try simp only [World.size_alloc, World.size_setCell, World.size_drew] at z); omega
  replace RA := Lib.hid (RA.out.below hb (Nat.le_refl _))
  replace RI := Lib.hid (RI.out.below hb (Nat.le_refl _))
  replace RD := Lib.hid (RD.out.below hb (Nat.le_refl _))
  replace RP := Lib.hid (RP.out.below hb (Nat.le_refl _))
  replace RT := Lib.hid (RT.out.below hb (Nat.le_refl _))
  replace X := (X).below hb (by go_size)
  replace F1 := (F1).below hb (by go_size)
  replace I := (I).below hb (by go_size)
  replace F2 := (F2).below hb (by go_size)
  replace D := (D).below hb (by go_size)
  replace F3 := (F3).below hb (by go_size)
  replace P := (P).below hb (by go_size)
  replace F4 := (F4).below hb (by go_size)
  replace F5 := (F5).below hb (by go_size)
  replace K := (K).below hb (by go_size)
  replace Z := (Z).below hb (by go_size)
  replace T := (T).below hb (by go_size)
  clear hb
  have s19 : w.heap.size ≤ w19.heap.size := B19.size
  clear X_c X_f X_l U_c U_f U_l F1_c F1_f F1_l I_c I_f I_l F2_c F2_f F2_l D_c D_f D_l F3_c F3_f F3_l P_c P_f P_l F4_c F4_f F4_l F5_c F5_f F5_l K_c K_f K_l Z_c Z_f Z_l T_c T_f T_l
  obtain ⟨X_c, X_f, X_l⟩ := id X
  obtain ⟨F1_c, F1_f, F1_l⟩ := id F1
  obtain ⟨I_c, I_f, I_l⟩ := id I
  obtain ⟨F2_c, F2_f, F2_l⟩ := id F2
  obtain ⟨D_c, D_f, D_l⟩ := id D
  obtain ⟨F3_c, F3_f, F3_l⟩ := id F3
  obtain ⟨P_c, P_f, P_l⟩ := id P
  obtain ⟨F4_c, F4_f, F4_l⟩ := id F4
  obtain ⟨F5_c, F5_f, F5_l⟩ := id F5
  obtain ⟨K_c, K_f, K_l⟩ := id K
  obtain ⟨Z_c, Z_f, Z_l⟩ := id Z
  obtain ⟨T_c, T_f, T_l⟩ := id T
  try simp only [Act.put, List.setIfInBounds_toArray, List.set_cons_zero, List.set_cons_succ]
  refine wpI_call (f := 41) (args := #[.int .i64 3, .int .i64 0, .int .i64 0]) rfl rfl rfl (by simp [go_sem]) ?_
  refine (ver_at _ _ _ _).mono ?_
  rintro e w20 ⟨rfl, he20⟩
  have hb : Below w19.heap.size w19 w20 := by rw [he20]; exact (Below.refl _ _).alloc (Nat.le_refl _) _
  clear he20
  refine ⟨_, rfl, hb, ?_⟩
  skip
  have B20 : Below w.heap.size w w20 := bcall (by go_grown) hb (by go_size)
  have q20 : w19.heap.size + 0 ≤ w20.heap.size := by have z := hb.size; (try simp only [World.size_alloc, World.size_setCell, World.size_drew] at z); omega
  replace RA := Lib.hid (RA.out.below hb (Nat.le_refl _))
  replace RI := Lib.hid (RI.out.below hb (Nat.le_refl _))
  replace RD := Lib.hid (RD.out.below hb (Nat.le_refl _))
  replace RP := Lib.hid (RP.out.below hb (Nat.le_refl _))
  replace RT := Lib.hid (RT.out.below hb (Nat.le_refl _))
  replace X := (X).below hb (by go_size)
  replace F1 := (F1).below hb (by go_size)
  replace I := (I).below hb (by go_size)
  replace F2 := (F2).below hb (by go_size)
  replace D := (D).below hb (by go_size)
  replace F3 := (F3).below hb (by go_size)
  replace P := (P).below hb (by go_size)
  replace F4 := (F4).below hb (by go_size)
  replace F5 := (F5).below hb (by go_size)
  replace K := (K).below hb (by go_size)
  replace Z := (Z).below hb (by go_size)
  replace T := (T).below hb (by go_size)
  clear hb
  have s20 : w.heap.size ≤ w20.heap.size := B20.size
  clear X_c X_f X_l F1_c F1_f F1_l I_c I_f I_l F2_c F2_f F2_l D_c D_f D_l F3_c F3_f F3_l P_c P_f P_l F4_c F4_f F4_l F5_c F5_f F5_l K_c K_f K_l Z_c Z_f Z_l T_c T_f T_l
  obtain ⟨X_c, X_f, X_l⟩ := id X
  obtain ⟨F1_c, F1_f, F1_l⟩ := id F1
  obtain ⟨I_c, I_f, I_l⟩ := id I
  obtain ⟨F2_c, F2_f, F2_l⟩ := id F2
  obtain ⟨D_c, D_f, D_l⟩ := id D
  obtain ⟨F3_c, F3_f, F3_l⟩ := id F3
  obtain ⟨P_c, P_f, P_l⟩ := id P
  obtain ⟨F4_c, F4_f, F4_l⟩ := id F4
  obtain ⟨F5_c, F5_f, F5_l⟩ := id F5
  obtain ⟨K_c, K_f, K_l⟩ := id K
  obtain ⟨Z_c, Z_f, Z_l⟩ := id Z
  obtain ⟨T_c, T_f, T_l⟩ := id T
  try simp only [Act.put, List.setIfInBounds_toArray, List.set_cons_zero, List.set_cons_succ]
  refine wpI_call (f := 40) rfl rfl rfl (by simp [go_sem]; rfl) ?_
  refine (HC.out.d2 _).mono ?_
  rintro e w21 ⟨o2, k2, rfl, S2, hb⟩
  replace S2 := Lib.hid S2
  refine ⟨_, rfl, hb, ?_⟩
  skip
  have B21 : Below w.heap.size w w21 := bcall (by go_grown) hb (by go_size)
  have q21 : w20.heap.size + 0 ≤ w21.heap.size := by have z := hb.size; (try simp only [World.size_alloc, World.size_setCell, World.size_drew] at z); omega
  replace RA := Lib.hid (RA.out.below hb (Nat.le_refl _))
  replace RI := Lib.hid (RI.out.below hb (Nat.le_refl _))
  replace RD := Lib.hid (RD.out.below hb (Nat.le_refl _))
  replace RP := Lib.hid (RP.out.below hb (Nat.le_refl _))
  replace RT := Lib.hid (RT.out.below hb (Nat.le_refl _))
  replace X := (X).below hb (by go_size)
  replace F1 := (F1).below hb (by go_size)
  replace I := (I).below hb (by go_size)
  replace F2 := (F2).below hb (by go_size)
  replace D := (D).below hb (by go_size)
  replace F3 := (F3).below hb (by go_size)
  replace P := (P).below hb (by go_size)
  replace F4 := (F4).below hb (by go_size)
  replace F5 := (F5).below hb (by go_size)
  replace K := (K).below hb (by go_size)
  replace Z := (Z).below hb (by go_size)
  replace T := (T).below hb (by go_size)
  clear hb
  have s21 : w.heap.size ≤ w21.heap.size := B21.size
  clear X_c X_f X_l F1_c F1_f F1_l I_c I_f I_l F2_c F2_f F2_l D_c D_f D_l F3_c F3_f F3_l P_c P_f P_l F4_c F4_f F4_l F5_c F5_f F5_l K_c K_f K_l Z_c Z_f Z_l T_c T_f T_l
  obtain ⟨X_c, X_f, X_l⟩ := id X
  obtain ⟨F1_c, F1_f, F1_l⟩ := id F1
  obtain ⟨I_c, I_f, I_l⟩ := id I
  obtain ⟨F2_c, F2_f, F2_l⟩ := id F2
  obtain ⟨D_c, D_f, D_l⟩ := id D
  obtain ⟨F3_c, F3_f, F3_l⟩ := id F3
  obtain ⟨P_c, P_f, P_l⟩ := id P
  obtain ⟨F4_c, F4_f, F4_l⟩ := id F4
  obtain ⟨F5_c, F5_f, F5_l⟩ := id F5
  obtain ⟨K_c, K_f, K_l⟩ := id K
  obtain ⟨Z_c, Z_f, Z_l⟩ := id Z
  obtain ⟨T_c, T_f, T_l⟩ := id T
  try simp only [Act.put, List.setIfInBounds_toArray, List.set_cons_zero, List.set_cons_succ]
  refine wpI_call (f := 25) rfl rfl rfl (by simp [go_sem]; rfl) ?_
  refine (same_self li _ _ _ _ _ RI.out S2.out).mono ?_
  rintro e w22 ⟨rfl, hb⟩
  refine ⟨_, rfl, hb, ?_⟩
  skip
  have B22 : Below w.heap.size w w22 := bcall (by go_grown) hb (by go_size)
  have q22 : w21.heap.size + 0 ≤ w22.heap.size := by have z := hb.size; (try simp only [World.size_alloc, World.size_setCell, World.size_drew] at z); omega
  replace RA := Lib.hid (RA.out.below hb (Nat.le_refl _))
  replace RI := Lib.hid (RI.out.below hb (Nat.le_refl _))
  replace RD := Lib.hid (RD.out.below hb (Nat.le_refl _))
  replace RP := Lib.hid (RP.out.below hb (Nat.le_refl _))
  replace RT := Lib.hid (RT.out.below hb (Nat.le_refl _))
  replace S2 := Lib.hid (S2.out.below hb (Nat.le_refl _))
  replace X := (X).below hb (by go_size)
  replace F1 := (F1).below hb (by go_size)
  replace I := (I).below hb (by go_size)
  replace F2 := (F2).below hb (by go_size)
  replace D := (D).below hb (by go_size)
  replace F3 := (F3).below hb (by go_size)
  replace P := (P).below hb (by go_size)
  replace F4 := (F4).below hb (by go_size)
  replace F5 := (F5).below hb (by go_size)
  replace K := (K).below hb (by go_size)
  replace Z := (Z).below hb (by go_size)
  replace T := (T).below hb (by go_size)
  clear hb
  have s22 : w.heap.size ≤ w22.heap.size := B22.size
  clear X_c X_f X_l F1_c F1_f F1_l I_c I_f I_l F2_c F2_f F2_l D_c D_f D_l F3_c F3_f F3_l P_c P_f P_l F4_c F4_f F4_l F5_c F5_f F5_l K_c K_f K_l Z_c Z_f Z_l T_c T_f T_l
  obtain ⟨X_c, X_f, X_l⟩ := id X
  obtain ⟨F1_c, F1_f, F1_l⟩ := id F1
  obtain ⟨I_c, I_f, I_l⟩ := id I
  obtain ⟨F2_c, F2_f, F2_l⟩ := id F2
  obtain ⟨D_c, D_f, D_l⟩ := id D
  obtain ⟨F3_c, F3_f, F3_l⟩ := id F3
  obtain ⟨P_c, P_f, P_l⟩ := id P
  obtain ⟨F4_c, F4_f, F4_l⟩ := id F4
  obtain ⟨F5_c, F5_f, F5_l⟩ := id F5
  obtain ⟨K_c, K_f, K_l⟩ := id K
  obtain ⟨Z_c, Z_f, Z_l⟩ := id Z
  obtain ⟨T_c, T_f, T_l⟩ := id T
  try simp only [Act.put, List.setIfInBounds_toArray, List.set_cons_zero, List.set_cons_succ]
  clear RI S2 I
  repeat (first | (refine wpI_rd rfl rfl ?_; go_big_quiet_step (fail); refine wpQuiet_nil ?_) | (refine wpI_skip rfl rfl ?_; try simp only [Act.put, List.setIfInBounds_toArray, List.set_cons_zero, List.set_cons_succ]))
  try simp only [Act.put, List.setIfInBounds_toArray, List.set_cons_zero, List.set_cons_succ]
  refine wpI_call (f := 25) rfl rfl rfl (by simp [go_sem]; rfl) ?_
  refine (same_self (Pl.upR Pl.lowV) _ _ _ _ _ RD.out RT.out).mono ?_
  rintro e w23 ⟨rfl, hb⟩
  refine ⟨_, rfl, hb, ?_⟩
  skip
  have B23 : Below w.heap.size w w23 := bcall (by go_grown) hb (by go_size)
  have q23 : w22.heap.size + 0 ≤ w23.heap.size := by have z := hb.size; (try simp only [World.size_alloc, World.size_setCell, World.size_drew] at z); omega
  replace RA := Lib.hid (RA.out.below hb (Nat.le_refl _))
  replace RD := Lib.hid (RD.out.below hb (Nat.le_refl _))
  replace RP := Lib.hid (RP.out.below hb (Nat.le_refl _))
  replace RT := Lib.hid (RT.out.below hb (Nat.le_refl _))
  replace X := (X).below hb (by go_size)
  replace F1 := (F1).below hb (by go_size)
  replace F2 := (F2).below hb (by go_size)
  replace D := (D).below hb (by go_size)
  replace F3 := (F3).below hb (by go_size)
  replace P := (P).below hb (by go_size)
  replace F4 := (F4).below hb (by go_size)
  replace F5 := (F5).below hb (by go_size)
  replace K := (K).below hb (by go_size)
  replace Z := (Z).below hb (by go_size)
  replace T := (T).below hb (by go_size)
  clear hb
  have s23 : w.heap.size ≤ w23.heap.size := B23.size
  clear X_c X_f X_l F1_c F1_f F1_l I_c I_f I_l F2_c F2_f F2_l D_c D_f D_l F3_c F3_f F3_l P_c P_f P_l F4_c F4_f F4_l F5_c F5_f F5_l K_c K_f K_l Z_c Z_f Z_l T_c T_f T_l
  obtain ⟨X_c, X_f, X_l⟩ := id X
  obtain ⟨F1_c, F1_f, F1_l⟩ := id F1
  obtain ⟨F2_c, F2_f, F2_l⟩ := id F2
  obtain ⟨D_c, D_f, D_l⟩ := id D
  obtain ⟨F3_c, F3_f, F3_l⟩ := id F3
  obtain ⟨P_c, P_f, P_l⟩ := id P
  obtain ⟨F4_c, F4_f, F4_l⟩ := id F4
  obtain ⟨F5_c, F5_f, F5_l⟩ := id F5
  obtain ⟨K_c, K_f, K_l⟩ := id K
  obtain ⟨Z_c, Z_f, Z_l⟩ := id Z
  obtain ⟨T_c, T_f, T_l⟩ := id T
  try simp only [Act.put, List.setIfInBounds_toArray, List.set_cons_zero, List.set_cons_succ]
  repeat (first | (refine wpI_rd rfl rfl ?_; go_big_quiet_step (fail); refine wpQuiet_nil ?_) | (refine wpI_skip rfl rfl ?_; try simp only [Act.put, List.setIfInBounds_toArray, List.set_cons_zero, List.set_cons_succ]))
  try simp only [Act.put, List.setIfInBounds_toArray, List.set_cons_zero, List.set_cons_succ]
  refine wpI_call (f := 41) (args := #[.int .i64 1, .int .i64 2, .int .i64 0]) rfl rfl rfl (by simp [go_sem]) ?_
  refine (ver_at _ _ _ _).mono ?_
  rintro e w24 ⟨rfl, he24⟩
  have hb : Below w23.heap.size w23 w24 := by rw [he24]; exact (Below.refl _ _).alloc (Nat.le_refl _) _
  clear he24
  refine ⟨_, rfl, hb, ?_⟩
  skip
  have B24 : Below w.heap.size w w24 := bcall (by go_grown) hb (by go_size)
  have q24 : w23.heap.size + 0 ≤ w24.heap.size := by have z := hb.size; (try simp only [World.size_alloc, World.size_setCell, World.size_drew] at z); omega
  replace RA := Lib.hid (RA.out.below hb (Nat.le_refl _))
  replace RD := Lib.hid (RD.out.below hb (Nat.le_refl _))
  replace RP := Lib.hid (RP.out.below hb (Nat.le_refl _))
  replace RT := Lib.hid (RT.out.below hb (Nat.le_refl _))
  replace X := (X).below hb (by go_size)
  replace F1 := (F1).below hb (by go_size)
  replace F2 := (F2).below hb (by go_size)
  replace D := (D).below hb (by go_size)
  replace F3 := (F3).below hb (by go_size)
  replace P := (P).below hb (by go_size)
  replace F4 := (F4).below hb (by go_size)
  replace F5 := (F5).below hb (by go_size)
  replace K := (K).below hb (by go_size)
  replace Z := (Z).below hb (by go_size)
  replace T := (T).below hb (by go_size)
  clear hb
  have s24 : w.heap.size ≤ w24.heap.size := B24.size
  clear X_c X_f X_l F1_c F1_f F1_l F2_c F2_f F2_l D_c D_f D_l F3_c F3_f F3_l P_c P_f P_l F4_c F4_f F4_l F5_c F5_f F5_l K_c K_f K_l Z_c Z_f Z_l T_c T_f T_l
  obtain ⟨X_c, X_f, X_l⟩ := id X
  obtain ⟨F1_c, F1_f, F1_l⟩ := id F1
  obtain ⟨F2_c, F2_f, F2_l⟩ := id F2
  obtain ⟨D_c, D_f, D_l⟩ := id D
  obtain ⟨F3_c, F3_f, F3_l⟩ := id F3
  obtain ⟨P_c, P_f, P_l⟩ := id P
  obtain ⟨F4_c, F4_f, F4_l⟩ := id F4
  obtain ⟨F5_c, F5_f, F5_l⟩ := id F5
  obtain ⟨K_c, K_f, K_l⟩ := id K
  obtain ⟨Z_c, Z_f, Z_l⟩ := id Z
  obtain ⟨T_c, T_f, T_l⟩ := id T
  try simp only [Act.put, List.setIfInBounds_toArray, List.set_cons_zero, List.set_cons_succ]
  refine wpI_call (f := 42) (args := #[.int .i64 2, .int .i64 0, .int .i64 0, .string ⟨#[48]⟩]) rfl rfl rfl (by simp [go_sem]) ?_
  refine (pre_at _ _ _ _ _).mono ?_
  rintro e w25 ⟨rfl, he25⟩
  have hb : Below w24.heap.size w24 w25 := by rw [he25]; go_grown
  have VK : VIn w25 ⟨2, 0, 0, [⟨#[48]⟩]⟩ (some ⟨w24.heap.size + 1, 0, none⟩) 1 := by rw [he25]; exact VIn.lit (by decide) (Bk.new _ _ (by simp))
  clear he25
  replace VK := Lib.hid VK
  refine ⟨_, rfl, hb, ?_⟩
  skip
  have B25 : Below w.heap.size w w25 := bcall (by go_grown) hb (by go_size)
  have q25 : w24.heap.size + 0 ≤ w25.heap.size := by have z := hb.size; (try simp only [World.size_alloc, World.size_setCell, World.size_drew] at z); omega
  replace RA := Lib.hid (RA.out.below hb (Nat.le_refl _))
  replace RD := Lib.hid (RD.out.below hb (Nat.le_refl _))
  replace RP := Lib.hid (RP.out.below hb (Nat.le_refl _))
  replace RT := Lib.hid (RT.out.below hb (Nat.le_refl _))
  replace X := (X).below hb (by go_size)
  replace F1 := (F1).below hb (by go_size)
  replace F2 := (F2).below hb (by go_size)
  replace D := (D).below hb (by go_size)
  replace F3 := (F3).below hb (by go_size)
  replace P := (P).below hb (by go_size)
  replace F4 := (F4).below hb (by go_size)
  replace F5 := (F5).below hb (by go_size)
  replace K := (K).below hb (by go_size)
  replace Z := (Z).below hb (by go_size)
  replace T := (T).below hb (by go_size)
  clear hb
  have s25 : w.heap.size ≤ w25.heap.size := B25.size
  clear X_c X_f X_l F1_c F1_f F1_l F2_c F2_f F2_l D_c D_f D_l F3_c F3_f F3_l P_c P_f P_l F4_c F4_f F4_l F5_c F5_f F5_l K_c K_f K_l Z_c Z_f Z_l T_c T_f T_l
  obtain ⟨X_c, X_f, X_l⟩ := id X
  obtain ⟨F1_c, F1_f, F1_l⟩ := id F1
  obtain ⟨F2_c, F2_f, F2_l⟩ := id F2
  obtain ⟨D_c, D_f, D_l⟩ := id D
  obtain ⟨F3_c, F3_f, F3_l⟩ := id F3
  obtain ⟨P_c, P_f, P_l⟩ := id P
  obtain ⟨F4_c, F4_f, F4_l⟩ := id F4
  obtain ⟨F5_c, F5_f, F5_l⟩ := id F5
  obtain ⟨K_c, K_f, K_l⟩ := id K
  obtain ⟨Z_c, Z_f, Z_l⟩ := id Z
  obtain ⟨T_c, T_f, T_l⟩ := id T
  try simp only [Act.put, List.setIfInBounds_toArray, List.set_cons_zero, List.set_cons_succ]
  refine wpI_call (f := 40) rfl rfl rfl (by simp [go_sem]; rfl) ?_
  refine (HC.out.d4 _ _ VK.out).mono ?_
  rintro e w26 ⟨o4, k4, rfl, S4, hb⟩
  replace S4 := Lib.hid S4
  refine ⟨_, rfl, hb, ?_⟩
  skip
  have B26 : Below w.heap.size w w26 := bcall (by go_grown) hb (by go_size)
  have q26 : w25.heap.size + 0 ≤ w26.heap.size := by have z := hb.size; (try simp only [World.size_alloc, World.size_setCell, World.size_drew] at z); omega
  replace RA := Lib.hid (RA.out.below hb (Nat.le_refl _))
  replace RD := Lib.hid (RD.out.below hb (Nat.le_refl _))
  replace RP := Lib.hid (RP.out.below hb (Nat.le_refl _))
  replace RT := Lib.hid (RT.out.below hb (Nat.le_refl _))
  replace VK := Lib.hid (VK.out.below hb (Nat.le_refl _))
  replace X := (X).below hb (by go_size)
  replace F1 := (F1).below hb (by go_size)
  replace F2 := (F2).below hb (by go_size)
  replace D := (D).below hb (by go_size)
  replace F3 := (F3).below hb (by go_size)
  replace P := (P).below hb (by go_size)
  replace F4 := (F4).below hb (by go_size)
  replace F5 := (F5).below hb (by go_size)
  replace K := (K).below hb (by go_size)
  replace Z := (Z).below hb (by go_size)
  replace T := (T).below hb (by go_size)
  clear hb
  have s26 : w.heap.size ≤ w26.heap.size := B26.size
  clear X_c X_f X_l F1_c F1_f F1_l F2_c F2_f F2_l D_c D_f D_l F3_c F3_f F3_l P_c P_f P_l F4_c F4_f F4_l F5_c F5_f F5_l K_c K_f K_l Z_c Z_f Z_l T_c T_f T_l
  obtain ⟨X_c, X_f, X_l⟩ := id X
  obtain ⟨F1_c, F1_f, F1_l⟩ := id F1
  obtain ⟨F2_c, F2_f, F2_l⟩ := id F2
  obtain ⟨D_c, D_f, D_l⟩ := id D
  obtain ⟨F3_c, F3_f, F3_l⟩ := id F3
  obtain ⟨P_c, P_f, P_l⟩ := id P
  obtain ⟨F4_c, F4_f, F4_l⟩ := id F4
  obtain ⟨F5_c, F5_f, F5_l⟩ := id F5
  obtain ⟨K_c, K_f, K_l⟩ := id K
  obtain ⟨Z_c, Z_f, Z_l⟩ := id Z
  obtain ⟨T_c, T_f, T_l⟩ := id T
  try simp only [Act.put, List.setIfInBounds_toArray, List.set_cons_zero, List.set_cons_succ]
  refine wpI_call (f := 25) rfl rfl rfl (by simp [go_sem]; rfl) ?_
  refine (same_self lp _ _ _ _ _ RP.out S4.out).mono ?_
  rintro e w27 ⟨rfl, hb⟩
  refine ⟨_, rfl, hb, ?_⟩
  skip
  have B27 : Below w.heap.size w w27 := bcall (by go_grown) hb (by go_size)
  have q27 : w26.heap.size + 0 ≤ w27.heap.size := by have z := hb.size; (try simp only [World.size_alloc, World.size_setCell, World.size_drew] at z); omega
  replace RA := Lib.hid (RA.out.below hb (Nat.le_refl _))
  replace RD := Lib.hid (RD.out.below hb (Nat.le_refl _))
  replace RP := Lib.hid (RP.out.below hb (Nat.le_refl _))
  replace RT := Lib.hid (RT.out.below hb (Nat.le_refl _))
  replace VK := Lib.hid (VK.out.below hb (Nat.le_refl _))
  replace S4 := Lib.hid (S4.out.below hb (Nat.le_refl _))
  replace X := (X).below hb (by go_size)
  replace F1 := (F1).below hb (by go_size)
  replace F2 := (F2).below hb (by go_size)
  replace D := (D).below hb (by go_size)
  replace F3 := (F3).below hb (by go_size)
  replace P := (P).below hb (by go_size)
  replace F4 := (F4).below hb (by go_size)
  replace F5 := (F5).below hb (by go_size)
  replace K := (K).below hb (by go_size)
  replace Z := (Z).below hb (by go_size)
  replace T := (T).below hb (by go_size)
  clear hb
  have s27 : w.heap.size ≤ w27.heap.size := B27.size
  clear X_c X_f X_l F1_c F1_f F1_l F2_c F2_f F2_l D_c D_f D_l F3_c F3_f F3_l P_c P_f P_l F4_c F4_f F4_l F5_c F5_f F5_l K_c K_f K_l Z_c Z_f Z_l T_c T_f T_l
  obtain ⟨X_c, X_f, X_l⟩ := id X
  obtain ⟨F1_c, F1_f, F1_l⟩ := id F1
  obtain ⟨F2_c, F2_f, F2_l⟩ := id F2
  obtain ⟨D_c, D_f, D_l⟩ := id D
  obtain ⟨F3_c, F3_f, F3_l⟩ := id F3
  obtain ⟨P_c, P_f, P_l⟩ := id P
  obtain ⟨F4_c, F4_f, F4_l⟩ := id F4
  obtain ⟨F5_c, F5_f, F5_l⟩ := id F5
  obtain ⟨K_c, K_f, K_l⟩ := id K
  obtain ⟨Z_c, Z_f, Z_l⟩ := id Z
  obtain ⟨T_c, T_f, T_l⟩ := id T
  try simp only [Act.put, List.setIfInBounds_toArray, List.set_cons_zero, List.set_cons_succ]
  have sx : ((⟨#[62, 61, 49, 46, 48, 46, 48, 32, 60, 51, 46, 48, 46, 48]⟩ : ByteArray).toList == (⟨#[62, 61, 49, 46, 48, 46, 48, 32, 60, 51, 46, 48, 46, 48]⟩ : ByteArray).toList) = true := (strB [62, 61, 49, 46, 48, 46, 48, 32, 60, 51, 46, 48, 46, 48] [62, 61, 49, 46, 48, 46, 48, 32, 60, 51, 46, 48, 46, 48]).trans (by decide)
  repeat (first | (refine wpI_rd rfl rfl ?_; go_big_quiet_step (fail); refine wpQuiet_nil ?_) | (refine wpI_skip rfl rfl ?_; try simp only [Act.put, List.setIfInBounds_toArray, List.set_cons_zero, List.set_cons_succ]))
  try simp only [Act.put, List.setIfInBounds_toArray, List.set_cons_zero, List.set_cons_succ]
  refine wpI_nil ?_
  try simp only [Act.put, List.setIfInBounds_toArray, List.set_cons_zero, List.set_cons_succ]
  go_wp2_with fail
  go_ret
  exact ⟨rfl, by go_grown⟩
/-- Equality of ranges, decided. -/
def Pl.rngB (r t : List Pl.Ivl) : Bool := r.length == t.length && (r.zip t).all fun p => Pl.sameB p.1.lo p.2.lo && Pl.sameB p.1.hi p.2.hi && (p.1.un == p.2.un)
theorem Pl.rngB_eq : ∀ {r t : List Pl.Ivl}, Pl.rngB r t = true → r = t
  | [], [], _ => rfl
  | [], _ :: _, h => by simp [Pl.rngB] at h
  | _ :: _, [], h => by simp [Pl.rngB] at h
  | x :: r, y :: t, h => by
    have h1 : (Pl.sameB x.lo y.lo = true ∧ Pl.sameB x.hi y.hi = true ∧ x.un = y.un) ∧ Pl.rngB r t = true := by
      simp only [Pl.rngB, List.length_cons, List.zip_cons_cons, List.all_cons, Bool.and_eq_true, beq_iff_eq, Nat.add_right_cancel_iff] at h ⊢
      exact ⟨⟨h.2.1.1.1, h.2.1.1.2, h.2.1.2⟩, h.1, h.2.2⟩
    rw [Pl.rngB_eq h1.2, Pl.Ivl.ext' (Pl.sameB_iff.1 h1.1.1) (Pl.sameB_iff.1 h1.1.2.1) h1.1.2.2]
theorem ranges_any (w : World) (E : Env w) : Calls Tryz.prog 12 #[] w fun e w' => e = .returned (.bool true) ∧ Below w.heap.size w w' := by
  refine ranges_core ([⟨⟨1, 0, 0, []⟩, ⟨3, 0, 0, []⟩, false⟩] : List Pl.Ivl) ([⟨⟨2, 0, 0, []⟩, ⟨4, 0, 0, []⟩, false⟩] : List Pl.Ivl) [⟨⟨1, 0, 0, []⟩, ⟨4, 0, 0, []⟩, false⟩] [⟨⟨2, 0, 0, []⟩, ⟨3, 0, 0, []⟩, false⟩] [⟨⟨1, 2, 0, []⟩, ⟨2, 0, 0, [⟨#[48]⟩]⟩, false⟩] w E ⟨?_, ?_, ?_, ?_, ?_, ?_, ?_, ?_, ?_, ?_, ?_, ?_⟩
  · exact fun W => lspan_any _ _ none none 0 0 W (VIn.rel _ _ _ _) (VIn.rel _ _ _ _)
  · exact fun W => lspan_any _ _ none none 0 0 W (VIn.rel _ _ _ _) (VIn.rel _ _ _ _)
  · intro W a c b d h1 h2
    have h := union_any _ _ a b c d W h1 h2
    rw [show Pl.opV (Pl.pairF ([⟨⟨1, 0, 0, []⟩, ⟨3, 0, 0, []⟩, false⟩] : List Pl.Ivl) ([⟨⟨2, 0, 0, []⟩, ⟨4, 0, 0, []⟩, false⟩] : List Pl.Ivl)) (Pl.unionR ([⟨⟨1, 0, 0, []⟩, ⟨3, 0, 0, []⟩, false⟩] : List Pl.Ivl) ([⟨⟨2, 0, 0, []⟩, ⟨4, 0, 0, []⟩, false⟩] : List Pl.Ivl)) = [⟨⟨1, 0, 0, []⟩, ⟨4, 0, 0, []⟩, false⟩] from Pl.rngB_eq (by decide +kernel), show Pl.opF (Pl.pairF ([⟨⟨1, 0, 0, []⟩, ⟨3, 0, 0, []⟩, false⟩] : List Pl.Ivl) ([⟨⟨2, 0, 0, []⟩, ⟨4, 0, 0, []⟩, false⟩] : List Pl.Ivl)) (Pl.unionR ([⟨⟨1, 0, 0, []⟩, ⟨3, 0, 0, []⟩, false⟩] : List Pl.Ivl) ([⟨⟨2, 0, 0, []⟩, ⟨4, 0, 0, []⟩, false⟩] : List Pl.Ivl)) = (0, 0) by decide +kernel] at h
    exact h
  · intro W a c b d h1 h2
    have h := inter_any _ _ a b c d W h1 h2
    rw [show Pl.opV (Pl.pairF ([⟨⟨1, 0, 0, []⟩, ⟨3, 0, 0, []⟩, false⟩] : List Pl.Ivl) ([⟨⟨2, 0, 0, []⟩, ⟨4, 0, 0, []⟩, false⟩] : List Pl.Ivl)) (Pl.commonR ([⟨⟨1, 0, 0, []⟩, ⟨3, 0, 0, []⟩, false⟩] : List Pl.Ivl) ([⟨⟨2, 0, 0, []⟩, ⟨4, 0, 0, []⟩, false⟩] : List Pl.Ivl)) = [⟨⟨2, 0, 0, []⟩, ⟨3, 0, 0, []⟩, false⟩] from Pl.rngB_eq (by decide +kernel), show Pl.opF (Pl.pairF ([⟨⟨1, 0, 0, []⟩, ⟨3, 0, 0, []⟩, false⟩] : List Pl.Ivl) ([⟨⟨2, 0, 0, []⟩, ⟨4, 0, 0, []⟩, false⟩] : List Pl.Ivl)) (Pl.commonR ([⟨⟨1, 0, 0, []⟩, ⟨3, 0, 0, []⟩, false⟩] : List Pl.Ivl) ([⟨⟨2, 0, 0, []⟩, ⟨4, 0, 0, []⟩, false⟩] : List Pl.Ivl)) = (0, 0) by decide +kernel] at h
    exact h
  · intro W
    have h := compl_any [] none 0 W (RIn.nil _)
    rw [show Pl.opV (Pl.rngF []) (Pl.invR []) = Pl.upR Pl.lowV from Pl.rngB_eq (by decide +kernel), show Pl.opF (Pl.rngF []) (Pl.invR []) = (0, 0) by decide +kernel] at h
    exact h
  · intro W E
    have h := rngParse_any ⟨#[94, 49, 46, 50, 46, 48]⟩ W (by decide) E
    rw [show Pl.prsV ⟨#[94, 49, 46, 50, 46, 48]⟩ = [⟨⟨1, 2, 0, []⟩, ⟨2, 0, 0, [⟨#[48]⟩]⟩, false⟩] from Pl.rngB_eq (by decide +kernel), show Pl.prsF ⟨#[94, 49, 46, 50, 46, 48]⟩ = (0, 0) by decide +kernel] at h
    exact h
  · intro W a c h1 E
    have h := rngFormat_any _ a c W h1 E
    rw [show Pl.fmtR ([⟨⟨1, 0, 0, []⟩, ⟨3, 0, 0, []⟩, false⟩] : List Pl.Ivl) = ⟨#[62, 61, 49, 46, 48, 46, 48, 32, 60, 51, 46, 48, 46, 48]⟩ by decide +kernel, show Pl.rngF ([⟨⟨1, 0, 0, []⟩, ⟨3, 0, 0, []⟩, false⟩] : List Pl.Ivl) = (0, 0) by decide +kernel] at h
    exact h
  · intro W a c h1
    have h := Contains_any _ _ a none c 0 W h1 (VIn.rel 1 0 0 W)
    rw [show Pl.conB ([⟨⟨1, 0, 0, []⟩, ⟨3, 0, 0, []⟩, false⟩] : List Pl.Ivl) ⟨1, 0, 0, []⟩ = true by decide +kernel, show Pl.conF ([⟨⟨1, 0, 0, []⟩, ⟨3, 0, 0, []⟩, false⟩] : List Pl.Ivl) ⟨1, 0, 0, []⟩ = (0, 0) by decide +kernel] at h
    exact h
  · intro W a c h1
    have h := Contains_any _ _ a none c 0 W h1 (VIn.rel 3 0 0 W)
    rw [show Pl.conB ([⟨⟨1, 0, 0, []⟩, ⟨3, 0, 0, []⟩, false⟩] : List Pl.Ivl) ⟨3, 0, 0, []⟩ = false by decide +kernel, show Pl.conF ([⟨⟨1, 0, 0, []⟩, ⟨3, 0, 0, []⟩, false⟩] : List Pl.Ivl) ⟨3, 0, 0, []⟩ = (0, 0) by decide +kernel] at h
    exact h
  · exact fun W => lspan_any _ _ none none 0 0 W (VIn.rel _ _ _ _) (VIn.rel _ _ _ _)
  · exact fun W => lspan_any _ _ none none 0 0 W (VIn.rel _ _ _ _) (VIn.rel _ _ _ _)
  · exact fun W b hv => lspan_any _ _ none b 0 1 W (VIn.rel _ _ _ _) hv
end Go.Proofs.YtjfkmbehckdjlaaGreatDoor
