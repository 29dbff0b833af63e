/- The law VerrangeDualityHolds: its walk. -/
import Derived.Test.YtjfkmbehckdjlaaGreatDoorMEd
namespace Go.Proofs.YtjfkmbehckdjlaaGreatDoor
open Go.RowKit

namespace Pl
/-- The complement of a complement. -/
theorem back_is {a : List Ivl} (h : (opF (rngF a) (invR a)).1 = 0) : opV (rngF a) (invR a) = invR a ∧ opV (rngF (invR a)) (invR (invR a)) = a ∧ opF (rngF (invR a)) (invR (invR a)) = (0, 0) := by
  obtain ⟨h1, h2, h3, _⟩ := opF_zero h
  have ha := rng_ok (r := a) h1
  obtain ⟨k1, k2⟩ := invR_can ha.2
  have e0 := rng_can h2 k1
  obtain ⟨m1, m2⟩ := invR_can k1
  have e : invR (invR a) = a := can_ext m1 ha.2 fun v hv => by rw [m2 v hv, k2 v hv, Bool.not_not]
  refine ⟨h3, ?_, ?_⟩ <;> rw [e0, e]
  · exact op_ok.2.trans (if_neg (by omega))
  · exact op_ok.1.trans (if_neg (by omega))
/-- The complement of a union. -/
theorem dual_is {a b : List Ivl} (h1 : (opF (rngF a) (invR a)).1 = 0) (h2 : (opF (rngF b) (invR b)).1 = 0) (_ : (opF (pairF a b) (unionR a b)).1 = 0) (h4 : (opF (rngF (unionR a b)) (invR (unionR a b))).1 = 0) :
    opF (pairF (invR a) (invR b)) (commonR (invR a) (invR b)) = (0, 0) ∧ opV (pairF (invR a) (invR b)) (commonR (invR a) (invR b)) = opV (rngF (unionR a b)) (invR (unionR a b)) := by
  obtain ⟨p1, p2, _, _⟩ := opF_zero h1
  obtain ⟨p3, p4, _, _⟩ := opF_zero h2
  obtain ⟨_, p6, p7, _⟩ := opF_zero h4
  have ca := (rng_ok (r := a) p1).2
  have cb := (rng_ok (r := b) p3).2
  obtain ⟨k1, k2⟩ := invR_can ca
  obtain ⟨k3, k4⟩ := invR_can cb
  obtain ⟨u1, u2⟩ := unionR_can ca cb.ok
  obtain ⟨i1, i2⟩ := invR_can u1
  obtain ⟨c1, c2⟩ := commonR_can k1 k3
  have e : commonR (invR a) (invR b) = invR (unionR a b) := can_ext c1 i1 fun v hv => by rw [c2, k2 v hv, k4 v hv, i2 v hv, u2, Bool.not_or]
  have hp : pairF (invR a) (invR b) = (0, 0) := pairF_ok (by rw [rng_can p2 k1]) (by rw [rng_can p4 k3])
  rw [hp, p7, e]
  exact ⟨op_ok.1.trans (if_neg (by omega)), op_ok.2.trans (if_neg (by omega))⟩
end Pl
theorem same_two {r t : List Pl.Ivl} {a b : Option Addr} {c d : Nat} {w : World} (e : r = t) (h1 : RIn w r a c) (h2 : RIn w t b d) :
    Calls Tryz.prog 25 #[.agg #[.slice a r.length c], .agg #[.slice b t.length d]] w fun e w' => e = .returned (.bool true) ∧ Below w.heap.size w w' := by
  subst e
  exact same_self r a b c d w h1 h2
set_option maxRecDepth 100000 in
set_option maxHeartbeats 16000000 in
theorem VerrangeDualityHolds_any (r t : List Pl.Ivl) (a b : Option Addr) (c d : Nat) (w : World) (h1 : RIn w r a c) (h2 : RIn w t b d) (EN : Env w) : Calls Tryz.prog 8 #[.agg #[.slice a r.length c], .agg #[.slice b t.length d]] w fun e w' => e = .returned (.bool true) ∧ Below w.heap.size w w' := by
  have HE := Lib.hid EN
  have H := Lib.hid h1
  have K := Lib.hid h2
  have C1 := Lib.hid (fun (W : World) (g1 : RIn W r a c) => compl_any r a c W g1)
  have C2 := Lib.hid (fun (W : World) (g1 : RIn W t b d) => compl_any t b d W g1)
  have C3 := Lib.hid (fun (W : World) (g1 : RIn W r a c) (g2 : RIn W t b d) => union_any r t a b c d W g1 g2)
  have BK := Lib.hid (Pl.back_is (a := r))
  have DU := Lib.hid (Pl.dual_is (a := r) (b := t))
  have EX := Lib.hid (fun h => (Pl.opF_zero (P := Pl.rngF t) (x := Pl.invR t) h).2.2.1)
  have EU := Lib.hid (fun h => (Pl.opF_zero (P := Pl.pairF r t) (x := Pl.unionR r t) h).2.2.1)
  obtain ⟨lx, hlx⟩ : ∃ l, Pl.opV (Pl.rngF r) (Pl.invR r) = l := ⟨_, rfl⟩
  obtain ⟨ly, hly⟩ : ∃ l, Pl.opV (Pl.rngF t) (Pl.invR t) = l := ⟨_, rfl⟩
  obtain ⟨lu, hlu⟩ : ∃ l, Pl.opV (Pl.pairF r t) (Pl.unionR r t) = l := ⟨_, rfl⟩
  rw [hlx] at C1 BK
  rw [hly] at C2 EX
  rw [hlu] at C3 EU
  have C4 := Lib.hid (fun (W : World) (o1 : Option Addr) (k1 : Nat) (g1 : RIn W lx o1 k1) => compl_any lx o1 k1 W g1)
  have C5 := Lib.hid (fun (W : World) (o1 : Option Addr) (k1 : Nat) (g1 : RIn W lu o1 k1) => compl_any lu o1 k1 W g1)
  have C6 := Lib.hid (fun (W : World) (o1 o2 : Option Addr) (k1 k2 : Nat) (g1 : RIn W lx o1 k1) (g2 : RIn W ly o2 k2) => inter_any lx ly o1 o2 k1 k2 W g1 g2)
  have BK1 := Lib.hid (show (Pl.opF (Pl.rngF r) (Pl.invR r)).1 = 0 → Pl.opV (Pl.rngF lx) (Pl.invR lx) = r ∧ Pl.opF (Pl.rngF lx) (Pl.invR lx) = (0, 0) from fun h => by have e := BK.out h; rw [e.1]; exact e.2)
  have DK1 := Lib.hid (show (Pl.opF (Pl.rngF r) (Pl.invR r)).1 = 0 → (Pl.opF (Pl.rngF t) (Pl.invR t)).1 = 0 → (Pl.opF (Pl.pairF r t) (Pl.unionR r t)).1 = 0 → (Pl.opF (Pl.rngF lu) (Pl.invR lu)).1 = 0 → Pl.opF (Pl.pairF lx ly) (Pl.commonR lx ly) = (0, 0) ∧ Pl.opV (Pl.pairF lx ly) (Pl.commonR lx ly) = Pl.opV (Pl.rngF lu) (Pl.invR lu) from fun h1 h2 h3 => by rw [(BK.out h1).1, EX.out h2, EU.out h3]; exact DU.out h1 h2 h3)
  clear BK DU EX EU hlx hly hlu
  generalize Pl.opF (Pl.rngF r) (Pl.invR r) = F1 at *
  generalize Pl.opF (Pl.rngF t) (Pl.invR t) = F2 at *
  generalize Pl.opF (Pl.pairF r t) (Pl.unionR r t) = F3 at *
  generalize Pl.opF (Pl.rngF lx) (Pl.invR lx) = F4 at *
  generalize Pl.opF (Pl.rngF lu) (Pl.invR lu) = F5 at *
  generalize Pl.opF (Pl.pairF lx ly) (Pl.commonR lx ly) = F6 at *
  generalize Pl.opV (Pl.rngF lx) (Pl.invR lx) = lb at *
  generalize Pl.opV (Pl.rngF lu) (Pl.invR lu) = lc at *
  generalize Pl.opV (Pl.pairF lx ly) (Pl.commonR lx ly) = ld at *
  obtain ⟨f1, g1⟩ := F1
  obtain ⟨f2, g2⟩ := F2
  obtain ⟨f3, g3⟩ := F3
  obtain ⟨f4, g4⟩ := F4
  obtain ⟨f5, g5⟩ := F5
  obtain ⟨f6, g6⟩ := F6
  delta RRngF at C1 C2 C3 C4 C5 C6
  simp only [fltV] at C1 C2 C3 C4 C5 C6
  clear h1 h2 EN
  go_enter Tryz.func8, Tryz.ntmps8
  have B0 : Below w.heap.size w w := Below.refl _ _
  go_wp2_with fail
  have B1 : Below w.heap.size w ((w.alloc (.cells #[.slice a r.length c] 24)).alloc (.cells #[.slice b t.length d] 24)) := by go_grown
  have q1 : w.heap.size + 2 ≤ ((w.alloc (.cells #[.slice a r.length c] 24)).alloc (.cells #[.slice b t.length d] 24)).heap.size := by simp only [World.size_alloc]; omega
  replace H := Lib.hid ((H.out.below (Below.refl _ _ |>.alloc (Nat.le_refl _) (.cells #[.slice a r.length c] 24)) (Nat.le_refl _)).below (Below.refl _ _ |>.alloc (Nat.le_refl _) (.cells #[.slice b t.length d] 24)) (Nat.le_refl _))
  replace K := Lib.hid ((K.out.below (Below.refl _ _ |>.alloc (Nat.le_refl _) (.cells #[.slice a r.length c] 24)) (Nat.le_refl _)).below (Below.refl _ _ |>.alloc (Nat.le_refl _) (.cells #[.slice b t.length d] 24)) (Nat.le_refl _))
  have X := ((Bk.new (r := w.heap.size) (cs := [.slice a r.length c]) w 24 (by simp)).alloc (.cells #[.slice b t.length d] 24))
  have Y := (Bk.new (r := w.heap.size + 1) (cs := [.slice b t.length d]) (w.alloc (.cells #[.slice a r.length c] 24)) 24 (by simp))
  generalize ((w.alloc (.cells #[.slice a r.length c] 24)).alloc (.cells #[.slice b t.length d] 24)) = w1 at *
  have s1 : w.heap.size ≤ w1.heap.size := B1.size
  obtain ⟨X_c, X_f, X_l⟩ := id X
  obtain ⟨Y_c, Y_f, Y_l⟩ := id Y
  refine (ranges_any _ (HE.out.below B1 (Nat.le_refl _))).mono ?_
  rintro e w2 ⟨rfl, hb⟩
  have B2 : Below w.heap.size w w2 := bcall (by go_grown) hb (by go_size)
  have q2 : w1.heap.size + 0 ≤ w2.heap.size := by have z := hb.size; (try simp only [World.size_alloc, World.size_setCell, World.size_drew] at z); omega
  replace H := Lib.hid (H.out.below hb (Nat.le_refl _))
  replace K := Lib.hid (K.out.below hb (Nat.le_refl _))
  replace X := (X).below hb (by go_size)
  replace Y := (Y).below hb (by go_size)
  clear hb
  have s2 : w.heap.size ≤ w2.heap.size := B2.size
  clear X_c X_f X_l Y_c Y_f Y_l
  obtain ⟨X_c, X_f, X_l⟩ := id X
  obtain ⟨Y_c, Y_f, Y_l⟩ := id Y
  go_wp2_with fail
  refine (great_any r a c _ H.out).mono ?_
  rintro e w3 ⟨⟨q1, rfl⟩, hb⟩
  have B3 : Below w.heap.size w w3 := bcall (by go_grown) hb (by go_size)
  have q3 : w2.heap.size + 0 ≤ w3.heap.size := by have z := hb.size; (try simp only [World.size_alloc, World.size_setCell, World.size_drew] at z); omega
  replace H := Lib.hid (H.out.below hb (Nat.le_refl _))
  replace K := Lib.hid (K.out.below hb (Nat.le_refl _))
  replace X := (X).below hb (by go_size)
  replace Y := (Y).below hb (by go_size)
  clear hb
  have s3 : w.heap.size ≤ w3.heap.size := B3.size
  clear X_c X_f X_l Y_c Y_f Y_l
  obtain ⟨X_c, X_f, X_l⟩ := id X
  obtain ⟨Y_c, Y_f, Y_l⟩ := id Y
  cases q1 with
  | true =>
    go_wp2_with fail
    go_ret
    exact ⟨by first | rfl | simp, by go_grown⟩
  | false =>
    go_wp2_with fail
    refine (great_any t b d _ K.out).mono ?_
    rintro e w4 ⟨⟨q2, rfl⟩, hb⟩
    have B4 : Below w.heap.size w w4 := bcall (by go_grown) hb (by go_size)
    have q4 : w3.heap.size + 0 ≤ w4.heap.size := by have z := hb.size; (try simp only [World.size_alloc, World.size_setCell, World.size_drew] at z); omega
    replace H := Lib.hid (H.out.below hb (Nat.le_refl _))
    replace K := Lib.hid (K.out.below hb (Nat.le_refl _))
    replace X := (X).below hb (by go_size)
    replace Y := (Y).below hb (by go_size)
    clear hb
    have s4 : w.heap.size ≤ w4.heap.size := B4.size
    clear X_c X_f X_l Y_c Y_f Y_l
    obtain ⟨X_c, X_f, X_l⟩ := id X
    obtain ⟨Y_c, Y_f, Y_l⟩ := id Y
    cases q2 with
    | true =>
      go_wp2_with fail
      go_ret
      exact ⟨by first | rfl | simp, by go_grown⟩
    | false =>
      go_wp2_with fail
      refine (C1.out _ H.out).mono ?_
      rintro e w5 ⟨ox, kx, rfl, RX, hb⟩
      replace RX := Lib.hid RX
      have B5 : Below w.heap.size w w5 := bcall (by go_grown) hb (by go_size)
      have q5 : w4.heap.size + 0 ≤ w5.heap.size := by have z := hb.size; (try simp only [World.size_alloc, World.size_setCell, World.size_drew] at z); omega
      replace H := Lib.hid (H.out.below hb (Nat.le_refl _))
      replace K := Lib.hid (K.out.below hb (Nat.le_refl _))
      replace X := (X).below hb (by go_size)
      replace Y := (Y).below hb (by go_size)
      clear hb
      have s5 : w.heap.size ≤ w5.heap.size := B5.size
      clear X_c X_f X_l Y_c Y_f Y_l
      obtain ⟨X_c, X_f, X_l⟩ := id X
      obtain ⟨Y_c, Y_f, Y_l⟩ := id Y
      go_wp2_with fail
      have B6 : Below w.heap.size w ((w5.alloc (.cells #[.slice ox lx.length kx] 24)).alloc (.cells #[.int .i64 f1, .int .i64 g1] 29)) := by go_grown
      have q6 : w5.heap.size + 2 ≤ ((w5.alloc (.cells #[.slice ox lx.length kx] 24)).alloc (.cells #[.int .i64 f1, .int .i64 g1] 29)).heap.size := by simp only [World.size_alloc]; omega
      replace H := Lib.hid ((H.out.below (Below.refl _ _ |>.alloc (Nat.le_refl _) (.cells #[.slice ox lx.length kx] 24)) (Nat.le_refl _)).below (Below.refl _ _ |>.alloc (Nat.le_refl _) (.cells #[.int .i64 f1, .int .i64 g1] 29)) (Nat.le_refl _))
      replace K := Lib.hid ((K.out.below (Below.refl _ _ |>.alloc (Nat.le_refl _) (.cells #[.slice ox lx.length kx] 24)) (Nat.le_refl _)).below (Below.refl _ _ |>.alloc (Nat.le_refl _) (.cells #[.int .i64 f1, .int .i64 g1] 29)) (Nat.le_refl _))
      replace RX := Lib.hid ((RX.out.below (Below.refl _ _ |>.alloc (Nat.le_refl _) (.cells #[.slice ox lx.length kx] 24)) (Nat.le_refl _)).below (Below.refl _ _ |>.alloc (Nat.le_refl _) (.cells #[.int .i64 f1, .int .i64 g1] 29)) (Nat.le_refl _))
      replace X := ((X.alloc (.cells #[.slice ox lx.length kx] 24)).alloc (.cells #[.int .i64 f1, .int .i64 g1] 29))
      replace Y := ((Y.alloc (.cells #[.slice ox lx.length kx] 24)).alloc (.cells #[.int .i64 f1, .int .i64 g1] 29))
      have Xx := ((Bk.new (r := w5.heap.size) (cs := [.slice ox lx.length kx]) w5 24 (by simp)).alloc (.cells #[.int .i64 f1, .int .i64 g1] 29))
      have F1 := (Bk.new (r := w5.heap.size + 1) (cs := [.int .i64 f1, .int .i64 g1]) (w5.alloc (.cells #[.slice ox lx.length kx] 24)) 29 (by simp))
      clear X_c X_f X_l Y_c Y_f Y_l
      generalize ((w5.alloc (.cells #[.slice ox lx.length kx] 24)).alloc (.cells #[.int .i64 f1, .int .i64 g1] 29)) = w6 at *
      have s6 : w.heap.size ≤ w6.heap.size := B6.size
      obtain ⟨X_c, X_f, X_l⟩ := id X
      obtain ⟨Y_c, Y_f, Y_l⟩ := id Y
      obtain ⟨Xx_c, Xx_f, Xx_l⟩ := id Xx
      obtain ⟨F1_c, F1_f, F1_l⟩ := id F1
      refine (C2.out _ K.out).mono ?_
      rintro e w7 ⟨oy, ky, rfl, RY, hb⟩
      replace RY := Lib.hid RY
      have B7 : Below w.heap.size w w7 := bcall (by go_grown) hb (by go_size)
      have q7 : w6.heap.size + 0 ≤ w7.heap.size := by have z := hb.size; (try simp only [World.size_alloc, World.size_setCell, World.size_drew] at z); omega
      replace H := Lib.hid (H.out.below hb (Nat.le_refl _))
      replace K := Lib.hid (K.out.below hb (Nat.le_refl _))
      replace RX := Lib.hid (RX.out.below hb (Nat.le_refl _))
      replace X := (X).below hb (by go_size)
      replace Y := (Y).below hb (by go_size)
      replace Xx := (Xx).below hb (by go_size)
      replace F1 := (F1).below hb (by go_size)
      clear hb
      have s7 : w.heap.size ≤ w7.heap.size := B7.size
      clear X_c X_f X_l Y_c Y_f Y_l Xx_c Xx_f Xx_l F1_c F1_f F1_l
      obtain ⟨X_c, X_f, X_l⟩ := id X
      obtain ⟨Y_c, Y_f, Y_l⟩ := id Y
      obtain ⟨Xx_c, Xx_f, Xx_l⟩ := id Xx
      obtain ⟨F1_c, F1_f, F1_l⟩ := id F1
      go_wp2_with fail
      have B8 : Below w.heap.size w ((w7.alloc (.cells #[.slice oy ly.length ky] 24)).alloc (.cells #[.int .i64 f2, .int .i64 g2] 29)) := by go_grown
      have q8 : w7.heap.size + 2 ≤ ((w7.alloc (.cells #[.slice oy ly.length ky] 24)).alloc (.cells #[.int .i64 f2, .int .i64 g2] 29)).heap.size := by simp only [World.size_alloc]; omega
      replace H := Lib.hid ((H.out.below (Below.refl _ _ |>.alloc (Nat.le_refl _) (.cells #[.slice oy ly.length ky] 24)) (Nat.le_refl _)).below (Below.refl _ _ |>.alloc (Nat.le_refl _) (.cells #[.int .i64 f2, .int .i64 g2] 29)) (Nat.le_refl _))
      replace K := Lib.hid ((K.out.below (Below.refl _ _ |>.alloc (Nat.le_refl _) (.cells #[.slice oy ly.length ky] 24)) (Nat.le_refl _)).below (Below.refl _ _ |>.alloc (Nat.le_refl _) (.cells #[.int .i64 f2, .int .i64 g2] 29)) (Nat.le_refl _))
      replace RX := Lib.hid ((RX.out.below (Below.refl _ _ |>.alloc (Nat.le_refl _) (.cells #[.slice oy ly.length ky] 24)) (Nat.le_refl _)).below (Below.refl _ _ |>.alloc (Nat.le_refl _) (.cells #[.int .i64 f2, .int .i64 g2] 29)) (Nat.le_refl _))
      replace RY := Lib.hid ((RY.out.below (Below.refl _ _ |>.alloc (Nat.le_refl _) (.cells #[.slice oy ly.length ky] 24)) (Nat.le_refl _)).below (Below.refl _ _ |>.alloc (Nat.le_refl _) (.cells #[.int .i64 f2, .int .i64 g2] 29)) (Nat.le_refl _))
      replace X := ((X.alloc (.cells #[.slice oy ly.length ky] 24)).alloc (.cells #[.int .i64 f2, .int .i64 g2] 29))
      replace Y := ((Y.alloc (.cells #[.slice oy ly.length ky] 24)).alloc (.cells #[.int .i64 f2, .int .i64 g2] 29))
      replace Xx := ((Xx.alloc (.cells #[.slice oy ly.length ky] 24)).alloc (.cells #[.int .i64 f2, .int .i64 g2] 29))
      replace F1 := ((F1.alloc (.cells #[.slice oy ly.length ky] 24)).alloc (.cells #[.int .i64 f2, .int .i64 g2] 29))
      have Yy := ((Bk.new (r := w7.heap.size) (cs := [.slice oy ly.length ky]) w7 24 (by simp)).alloc (.cells #[.int .i64 f2, .int .i64 g2] 29))
      have F2 := (Bk.new (r := w7.heap.size + 1) (cs := [.int .i64 f2, .int .i64 g2]) (w7.alloc (.cells #[.slice oy ly.length ky] 24)) 29 (by simp))
      clear X_c X_f X_l Y_c Y_f Y_l Xx_c Xx_f Xx_l F1_c F1_f F1_l
      generalize ((w7.alloc (.cells #[.slice oy ly.length ky] 24)).alloc (.cells #[.int .i64 f2, .int .i64 g2] 29)) = w8 at *
      have s8 : w.heap.size ≤ w8.heap.size := B8.size
      obtain ⟨X_c, X_f, X_l⟩ := id X
      obtain ⟨Y_c, Y_f, Y_l⟩ := id Y
      obtain ⟨Xx_c, Xx_f, Xx_l⟩ := id Xx
      obtain ⟨F1_c, F1_f, F1_l⟩ := id F1
      obtain ⟨Yy_c, Yy_f, Yy_l⟩ := id Yy
      obtain ⟨F2_c, F2_f, F2_l⟩ := id F2
      refine (C3.out _ H.out K.out).mono ?_
      rintro e w9 ⟨ou, ku, rfl, RU, hb⟩
      replace RU := Lib.hid RU
      have B9 : Below w.heap.size w w9 := bcall (by go_grown) hb (by go_size)
      have q9 : w8.heap.size + 0 ≤ w9.heap.size := by have z := hb.size; (try simp only [World.size_alloc, World.size_setCell, World.size_drew] at z); omega
      replace H := Lib.hid (H.out.below hb (Nat.le_refl _))
      replace K := Lib.hid (K.out.below hb (Nat.le_refl _))
      replace RX := Lib.hid (RX.out.below hb (Nat.le_refl _))
      replace RY := Lib.hid (RY.out.below hb (Nat.le_refl _))
      replace X := (X).below hb (by go_size)
      replace Y := (Y).below hb (by go_size)
      replace Xx := (Xx).below hb (by go_size)
      replace F1 := (F1).below hb (by go_size)
      replace Yy := (Yy).below hb (by go_size)
      replace F2 := (F2).below hb (by go_size)
      clear hb
      have s9 : w.heap.size ≤ w9.heap.size := B9.size
      clear X_c X_f X_l Y_c Y_f Y_l Xx_c Xx_f Xx_l F1_c F1_f F1_l Yy_c Yy_f Yy_l F2_c F2_f F2_l
      obtain ⟨X_c, X_f, X_l⟩ := id X
      obtain ⟨Y_c, Y_f, Y_l⟩ := id Y
      obtain ⟨Xx_c, Xx_f, Xx_l⟩ := id Xx
      obtain ⟨F1_c, F1_f, F1_l⟩ := id F1
      obtain ⟨Yy_c, Yy_f, Yy_l⟩ := id Yy
      obtain ⟨F2_c, F2_f, F2_l⟩ := id F2
      go_wp2_with fail
      have B10 : Below w.heap.size w ((w9.alloc (.cells #[.slice ou lu.length ku] 24)).alloc (.cells #[.int .i64 f3, .int .i64 g3] 29)) := by go_grown
      have q10 : w9.heap.size + 2 ≤ ((w9.alloc (.cells #[.slice ou lu.length ku] 24)).alloc (.cells #[.int .i64 f3, .int .i64 g3] 29)).heap.size := by simp only [World.size_alloc]; omega
      replace H := Lib.hid ((H.out.below (Below.refl _ _ |>.alloc (Nat.le_refl _) (.cells #[.slice ou lu.length ku] 24)) (Nat.le_refl _)).below (Below.refl _ _ |>.alloc (Nat.le_refl _) (.cells #[.int .i64 f3, .int .i64 g3] 29)) (Nat.le_refl _))
      replace K := Lib.hid ((K.out.below (Below.refl _ _ |>.alloc (Nat.le_refl _) (.cells #[.slice ou lu.length ku] 24)) (Nat.le_refl _)).below (Below.refl _ _ |>.alloc (Nat.le_refl _) (.cells #[.int .i64 f3, .int .i64 g3] 29)) (Nat.le_refl _))
      replace RX := Lib.hid ((RX.out.below (Below.refl _ _ |>.alloc (Nat.le_refl _) (.cells #[.slice ou lu.length ku] 24)) (Nat.le_refl _)).below (Below.refl _ _ |>.alloc (Nat.le_refl _) (.cells #[.int .i64 f3, .int .i64 g3] 29)) (Nat.le_refl _))
      replace RY := Lib.hid ((RY.out.below (Below.refl _ _ |>.alloc (Nat.le_refl _) (.cells #[.slice ou lu.length ku] 24)) (Nat.le_refl _)).below (Below.refl _ _ |>.alloc (Nat.le_refl _) (.cells #[.int .i64 f3, .int .i64 g3] 29)) (Nat.le_refl _))
      replace RU := Lib.hid ((RU.out.below (Below.refl _ _ |>.alloc (Nat.le_refl _) (.cells #[.slice ou lu.length ku] 24)) (Nat.le_refl _)).below (Below.refl _ _ |>.alloc (Nat.le_refl _) (.cells #[.int .i64 f3, .int .i64 g3] 29)) (Nat.le_refl _))
      replace X := ((X.alloc (.cells #[.slice ou lu.length ku] 24)).alloc (.cells #[.int .i64 f3, .int .i64 g3] 29))
      replace Y := ((Y.alloc (.cells #[.slice ou lu.length ku] 24)).alloc (.cells #[.int .i64 f3, .int .i64 g3] 29))
      replace Xx := ((Xx.alloc (.cells #[.slice ou lu.length ku] 24)).alloc (.cells #[.int .i64 f3, .int .i64 g3] 29))
      replace F1 := ((F1.alloc (.cells #[.slice ou lu.length ku] 24)).alloc (.cells #[.int .i64 f3, .int .i64 g3] 29))
      replace Yy := ((Yy.alloc (.cells #[.slice ou lu.length ku] 24)).alloc (.cells #[.int .i64 f3, .int .i64 g3] 29))
      replace F2 := ((F2.alloc (.cells #[.slice ou lu.length ku] 24)).alloc (.cells #[.int .i64 f3, .int .i64 g3] 29))
      have U := ((Bk.new (r := w9.heap.size) (cs := [.slice ou lu.length ku]) w9 24 (by simp)).alloc (.cells #[.int .i64 f3, .int .i64 g3] 29))
      have F3 := (Bk.new (r := w9.heap.size + 1) (cs := [.int .i64 f3, .int .i64 g3]) (w9.alloc (.cells #[.slice ou lu.length ku] 24)) 29 (by simp))
      clear X_c X_f X_l Y_c Y_f Y_l Xx_c Xx_f Xx_l F1_c F1_f F1_l Yy_c Yy_f Yy_l F2_c F2_f F2_l
      generalize ((w9.alloc (.cells #[.slice ou lu.length ku] 24)).alloc (.cells #[.int .i64 f3, .int .i64 g3] 29)) = w10 at *
      have s10 : w.heap.size ≤ w10.heap.size := B10.size
      obtain ⟨X_c, X_f, X_l⟩ := id X
      obtain ⟨Y_c, Y_f, Y_l⟩ := id Y
      obtain ⟨Xx_c, Xx_f, Xx_l⟩ := id Xx
      obtain ⟨F1_c, F1_f, F1_l⟩ := id F1
      obtain ⟨Yy_c, Yy_f, Yy_l⟩ := id Yy
      obtain ⟨F2_c, F2_f, F2_l⟩ := id F2
      obtain ⟨U_c, U_f, U_l⟩ := id U
      obtain ⟨F3_c, F3_f, F3_l⟩ := id F3
      refine (C4.out _ _ _ RX.out).mono ?_
      rintro e w11 ⟨ob, kb, rfl, RB, hb⟩
      replace RB := Lib.hid RB
      have B11 : Below w.heap.size w w11 := bcall (by go_grown) hb (by go_size)
      have q11 : w10.heap.size + 0 ≤ w11.heap.size := by have z := hb.size; (try simp only [World.size_alloc, World.size_setCell, World.size_drew] at z); omega
      replace H := Lib.hid (H.out.below hb (Nat.le_refl _))
      replace K := Lib.hid (K.out.below hb (Nat.le_refl _))
      replace RX := Lib.hid (RX.out.below hb (Nat.le_refl _))
      replace RY := Lib.hid (RY.out.below hb (Nat.le_refl _))
      replace RU := Lib.hid (RU.out.below hb (Nat.le_refl _))
      replace X := (X).below hb (by go_size)
      replace Y := (Y).below hb (by go_size)
      replace Xx := (Xx).below hb (by go_size)
      replace F1 := (F1).below hb (by go_size)
      replace Yy := (Yy).below hb (by go_size)
      replace F2 := (F2).below hb (by go_size)
      replace U := (U).below hb (by go_size)
      replace F3 := (F3).below hb (by go_size)
      clear hb
      have s11 : w.heap.size ≤ w11.heap.size := B11.size
      clear X_c X_f X_l Y_c Y_f Y_l Xx_c Xx_f Xx_l F1_c F1_f F1_l Yy_c Yy_f Yy_l F2_c F2_f F2_l U_c U_f U_l F3_c F3_f F3_l
      obtain ⟨X_c, X_f, X_l⟩ := id X
      obtain ⟨Y_c, Y_f, Y_l⟩ := id Y
      obtain ⟨Xx_c, Xx_f, Xx_l⟩ := id Xx
      obtain ⟨F1_c, F1_f, F1_l⟩ := id F1
      obtain ⟨Yy_c, Yy_f, Yy_l⟩ := id Yy
      obtain ⟨F2_c, F2_f, F2_l⟩ := id F2
      obtain ⟨U_c, U_f, U_l⟩ := id U
      obtain ⟨F3_c, F3_f, F3_l⟩ := id F3
      by_cases z1 : f1 = 0
      · have e1 := BK1.out z1
        obtain ⟨e0, e2⟩ := e1
        replace e0 := Lib.hid e0
        cases e2
        have v1 : (f1 != 0) = false := bneF z1
        have v4 : ((0 : Int) == 0) = true := rfl
        by_cases z2 : f2 = 0
        · have v2 : (f2 != 0) = false := bneF z2
          by_cases z3 : f3 = 0
          · have v3 : (f3 != 0) = false := bneF z3
            have DK := Lib.hid (DK1.out z1 z2 z3)
            clear z1 z2 z3 BK1 DK1
            go_wp2_with fail
            have B12 : Below w.heap.size w ((w11.alloc (.cells #[.slice ob lb.length kb] 24)).alloc (.cells #[.int .i64 0, .int .i64 0] 29)) := by go_grown
            have q12 : w11.heap.size + 2 ≤ ((w11.alloc (.cells #[.slice ob lb.length kb] 24)).alloc (.cells #[.int .i64 0, .int .i64 0] 29)).heap.size := by simp only [World.size_alloc]; omega
            replace H := Lib.hid ((H.out.below (Below.refl _ _ |>.alloc (Nat.le_refl _) (.cells #[.slice ob lb.length kb] 24)) (Nat.le_refl _)).below (Below.refl _ _ |>.alloc (Nat.le_refl _) (.cells #[.int .i64 0, .int .i64 0] 29)) (Nat.le_refl _))
            replace K := Lib.hid ((K.out.below (Below.refl _ _ |>.alloc (Nat.le_refl _) (.cells #[.slice ob lb.length kb] 24)) (Nat.le_refl _)).below (Below.refl _ _ |>.alloc (Nat.le_refl _) (.cells #[.int .i64 0, .int .i64 0] 29)) (Nat.le_refl _))
            replace RX := Lib.hid ((RX.out.below (Below.refl _ _ |>.alloc (Nat.le_refl _) (.cells #[.slice ob lb.length kb] 24)) (Nat.le_refl _)).below (Below.refl _ _ |>.alloc (Nat.le_refl _) (.cells #[.int .i64 0, .int .i64 0] 29)) (Nat.le_refl _))
            replace RY := Lib.hid ((RY.out.below (Below.refl _ _ |>.alloc (Nat.le_refl _) (.cells #[.slice ob lb.length kb] 24)) (Nat.le_refl _)).below (Below.refl _ _ |>.alloc (Nat.le_refl _) (.cells #[.int .i64 0, .int .i64 0] 29)) (Nat.le_refl _))
            replace RU := Lib.hid ((RU.out.below (Below.refl _ _ |>.alloc (Nat.le_refl _) (.cells #[.slice ob lb.length kb] 24)) (Nat.le_refl _)).below (Below.refl _ _ |>.alloc (Nat.le_refl _) (.cells #[.int .i64 0, .int .i64 0] 29)) (Nat.le_refl _))
            replace RB := Lib.hid ((RB.out.below (Below.refl _ _ |>.alloc (Nat.le_refl _) (.cells #[.slice ob lb.length kb] 24)) (Nat.le_refl _)).below (Below.refl _ _ |>.alloc (Nat.le_refl _) (.cells #[.int .i64 0, .int .i64 0] 29)) (Nat.le_refl _))
            replace X := ((X.alloc (.cells #[.slice ob lb.length kb] 24)).alloc (.cells #[.int .i64 0, .int .i64 0] 29))
            replace Y := ((Y.alloc (.cells #[.slice ob lb.length kb] 24)).alloc (.cells #[.int .i64 0, .int .i64 0] 29))
            replace Xx := ((Xx.alloc (.cells #[.slice ob lb.length kb] 24)).alloc (.cells #[.int .i64 0, .int .i64 0] 29))
            replace F1 := ((F1.alloc (.cells #[.slice ob lb.length kb] 24)).alloc (.cells #[.int .i64 0, .int .i64 0] 29))
            replace Yy := ((Yy.alloc (.cells #[.slice ob lb.length kb] 24)).alloc (.cells #[.int .i64 0, .int .i64 0] 29))
            replace F2 := ((F2.alloc (.cells #[.slice ob lb.length kb] 24)).alloc (.cells #[.int .i64 0, .int .i64 0] 29))
            replace U := ((U.alloc (.cells #[.slice ob lb.length kb] 24)).alloc (.cells #[.int .i64 0, .int .i64 0] 29))
            replace F3 := ((F3.alloc (.cells #[.slice ob lb.length kb] 24)).alloc (.cells #[.int .i64 0, .int .i64 0] 29))
            have Bb := ((Bk.new (r := w11.heap.size) (cs := [.slice ob lb.length kb]) w11 24 (by simp)).alloc (.cells #[.int .i64 0, .int .i64 0] 29))
            have F4 := (Bk.new (r := w11.heap.size + 1) (cs := [.int .i64 0, .int .i64 0]) (w11.alloc (.cells #[.slice ob lb.length kb] 24)) 29 (by simp))
            clear X_c X_f X_l Y_c Y_f Y_l Xx_c Xx_f Xx_l F1_c F1_f F1_l Yy_c Yy_f Yy_l F2_c F2_f F2_l U_c U_f U_l F3_c F3_f F3_l
            generalize ((w11.alloc (.cells #[.slice ob lb.length kb] 24)).alloc (.cells #[.int .i64 0, .int .i64 0] 29)) = w12 at *
            have s12 : w.heap.size ≤ w12.heap.size := B12.size
            obtain ⟨X_c, X_f, X_l⟩ := id X
            obtain ⟨Y_c, Y_f, Y_l⟩ := id Y
            obtain ⟨Xx_c, Xx_f, Xx_l⟩ := id Xx
            obtain ⟨F1_c, F1_f, F1_l⟩ := id F1
            obtain ⟨Yy_c, Yy_f, Yy_l⟩ := id Yy
            obtain ⟨F2_c, F2_f, F2_l⟩ := id F2
            obtain ⟨U_c, U_f, U_l⟩ := id U
            obtain ⟨F3_c, F3_f, F3_l⟩ := id F3
            obtain ⟨Bb_c, Bb_f, Bb_l⟩ := id Bb
            obtain ⟨F4_c, F4_f, F4_l⟩ := id F4
            refine (C5.out _ _ _ RU.out).mono ?_
            rintro e w13 ⟨oc, kc, rfl, RC, hb⟩
            replace RC := Lib.hid RC
            have B13 : Below w.heap.size w w13 := bcall (by go_grown) hb (by go_size)
            have q13 : w12.heap.size + 0 ≤ w13.heap.size := by have z := hb.size; (try simp only [World.size_alloc, World.size_setCell, World.size_drew] at z); omega
            replace H := Lib.hid (H.out.below hb (Nat.le_refl _))
            replace K := Lib.hid (K.out.below hb (Nat.le_refl _))
            replace RX := Lib.hid (RX.out.below hb (Nat.le_refl _))
            replace RY := Lib.hid (RY.out.below hb (Nat.le_refl _))
            replace RU := Lib.hid (RU.out.below hb (Nat.le_refl _))
            replace RB := Lib.hid (RB.out.below hb (Nat.le_refl _))
            replace X := (X).below hb (by go_size)
            replace Y := (Y).below hb (by go_size)
            replace Xx := (Xx).below hb (by go_size)
            replace F1 := (F1).below hb (by go_size)
            replace Yy := (Yy).below hb (by go_size)
            replace F2 := (F2).below hb (by go_size)
            replace U := (U).below hb (by go_size)
            replace F3 := (F3).below hb (by go_size)
            replace Bb := (Bb).below hb (by go_size)
            replace F4 := (F4).below hb (by go_size)
            clear hb
            have s13 : w.heap.size ≤ w13.heap.size := B13.size
            clear X_c X_f X_l Y_c Y_f Y_l Xx_c Xx_f Xx_l F1_c F1_f F1_l Yy_c Yy_f Yy_l F2_c F2_f F2_l U_c U_f U_l F3_c F3_f F3_l Bb_c Bb_f Bb_l F4_c F4_f F4_l
            obtain ⟨X_c, X_f, X_l⟩ := id X
            obtain ⟨Y_c, Y_f, Y_l⟩ := id Y
            obtain ⟨Xx_c, Xx_f, Xx_l⟩ := id Xx
            obtain ⟨F1_c, F1_f, F1_l⟩ := id F1
            obtain ⟨Yy_c, Yy_f, Yy_l⟩ := id Yy
            obtain ⟨F2_c, F2_f, F2_l⟩ := id F2
            obtain ⟨U_c, U_f, U_l⟩ := id U
            obtain ⟨F3_c, F3_f, F3_l⟩ := id F3
            obtain ⟨Bb_c, Bb_f, Bb_l⟩ := id Bb
            obtain ⟨F4_c, F4_f, F4_l⟩ := id F4
            go_wp2_with fail
            have B14 : Below w.heap.size w ((w13.alloc (.cells #[.slice oc lc.length kc] 24)).alloc (.cells #[.int .i64 f5, .int .i64 g5] 29)) := by go_grown
            have q14 : w13.heap.size + 2 ≤ ((w13.alloc (.cells #[.slice oc lc.length kc] 24)).alloc (.cells #[.int .i64 f5, .int .i64 g5] 29)).heap.size := by simp only [World.size_alloc]; omega
            replace H := Lib.hid ((H.out.below (Below.refl _ _ |>.alloc (Nat.le_refl _) (.cells #[.slice oc lc.length kc] 24)) (Nat.le_refl _)).below (Below.refl _ _ |>.alloc (Nat.le_refl _) (.cells #[.int .i64 f5, .int .i64 g5] 29)) (Nat.le_refl _))
            replace K := Lib.hid ((K.out.below (Below.refl _ _ |>.alloc (Nat.le_refl _) (.cells #[.slice oc lc.length kc] 24)) (Nat.le_refl _)).below (Below.refl _ _ |>.alloc (Nat.le_refl _) (.cells #[.int .i64 f5, .int .i64 g5] 29)) (Nat.le_refl _))
            replace RX := Lib.hid ((RX.out.below (Below.refl _ _ |>.alloc (Nat.le_refl _) (.cells #[.slice oc lc.length kc] 24)) (Nat.le_refl _)).below (Below.refl _ _ |>.alloc (Nat.le_refl _) (.cells #[.int .i64 f5, .int .i64 g5] 29)) (Nat.le_refl _))
            replace RY := Lib.hid ((RY.out.below (Below.refl _ _ |>.alloc (Nat.le_refl _) (.cells #[.slice oc lc.length kc] 24)) (Nat.le_refl _)).below (Below.refl _ _ |>.alloc (Nat.le_refl _) (.cells #[.int .i64 f5, .int .i64 g5] 29)) (Nat.le_refl _))
            replace RU := Lib.hid ((RU.out.below (Below.refl _ _ |>.alloc (Nat.le_refl _) (.cells #[.slice oc lc.length kc] 24)) (Nat.le_refl _)).below (Below.refl _ _ |>.alloc (Nat.le_refl _) (.cells #[.int .i64 f5, .int .i64 g5] 29)) (Nat.le_refl _))
            replace RB := Lib.hid ((RB.out.below (Below.refl _ _ |>.alloc (Nat.le_refl _) (.cells #[.slice oc lc.length kc] 24)) (Nat.le_refl _)).below (Below.refl _ _ |>.alloc (Nat.le_refl _) (.cells #[.int .i64 f5, .int .i64 g5] 29)) (Nat.le_refl _))
            replace RC := Lib.hid ((RC.out.below (Below.refl _ _ |>.alloc (Nat.le_refl _) (.cells #[.slice oc lc.length kc] 24)) (Nat.le_refl _)).below (Below.refl _ _ |>.alloc (Nat.le_refl _) (.cells #[.int .i64 f5, .int .i64 g5] 29)) (Nat.le_refl _))
            replace X := ((X.alloc (.cells #[.slice oc lc.length kc] 24)).alloc (.cells #[.int .i64 f5, .int .i64 g5] 29))
            replace Y := ((Y.alloc (.cells #[.slice oc lc.length kc] 24)).alloc (.cells #[.int .i64 f5, .int .i64 g5] 29))
            replace Xx := ((Xx.alloc (.cells #[.slice oc lc.length kc] 24)).alloc (.cells #[.int .i64 f5, .int .i64 g5] 29))
            replace F1 := ((F1.alloc (.cells #[.slice oc lc.length kc] 24)).alloc (.cells #[.int .i64 f5, .int .i64 g5] 29))
            replace Yy := ((Yy.alloc (.cells #[.slice oc lc.length kc] 24)).alloc (.cells #[.int .i64 f5, .int .i64 g5] 29))
            replace F2 := ((F2.alloc (.cells #[.slice oc lc.length kc] 24)).alloc (.cells #[.int .i64 f5, .int .i64 g5] 29))
            replace U := ((U.alloc (.cells #[.slice oc lc.length kc] 24)).alloc (.cells #[.int .i64 f5, .int .i64 g5] 29))
            replace F3 := ((F3.alloc (.cells #[.slice oc lc.length kc] 24)).alloc (.cells #[.int .i64 f5, .int .i64 g5] 29))
            replace Bb := ((Bb.alloc (.cells #[.slice oc lc.length kc] 24)).alloc (.cells #[.int .i64 f5, .int .i64 g5] 29))
            replace F4 := ((F4.alloc (.cells #[.slice oc lc.length kc] 24)).alloc (.cells #[.int .i64 f5, .int .i64 g5] 29))
            have Cc := ((Bk.new (r := w13.heap.size) (cs := [.slice oc lc.length kc]) w13 24 (by simp)).alloc (.cells #[.int .i64 f5, .int .i64 g5] 29))
            have F5 := (Bk.new (r := w13.heap.size + 1) (cs := [.int .i64 f5, .int .i64 g5]) (w13.alloc (.cells #[.slice oc lc.length kc] 24)) 29 (by simp))
            clear X_c X_f X_l Y_c Y_f Y_l Xx_c Xx_f Xx_l F1_c F1_f F1_l Yy_c Yy_f Yy_l F2_c F2_f F2_l U_c U_f U_l F3_c F3_f F3_l Bb_c Bb_f Bb_l F4_c F4_f F4_l
            generalize ((w13.alloc (.cells #[.slice oc lc.length kc] 24)).alloc (.cells #[.int .i64 f5, .int .i64 g5] 29)) = w14 at *
            have s14 : w.heap.size ≤ w14.heap.size := B14.size
            obtain ⟨X_c, X_f, X_l⟩ := id X
            obtain ⟨Y_c, Y_f, Y_l⟩ := id Y
            obtain ⟨Xx_c, Xx_f, Xx_l⟩ := id Xx
            obtain ⟨F1_c, F1_f, F1_l⟩ := id F1
            obtain ⟨Yy_c, Yy_f, Yy_l⟩ := id Yy
            obtain ⟨F2_c, F2_f, F2_l⟩ := id F2
            obtain ⟨U_c, U_f, U_l⟩ := id U
            obtain ⟨F3_c, F3_f, F3_l⟩ := id F3
            obtain ⟨Bb_c, Bb_f, Bb_l⟩ := id Bb
            obtain ⟨F4_c, F4_f, F4_l⟩ := id F4
            obtain ⟨Cc_c, Cc_f, Cc_l⟩ := id Cc
            obtain ⟨F5_c, F5_f, F5_l⟩ := id F5
            refine (C6.out _ _ _ _ _ RX.out RY.out).mono ?_
            rintro e w15 ⟨od, kd, rfl, RD, hb⟩
            replace RD := Lib.hid RD
            have B15 : Below w.heap.size w w15 := bcall (by go_grown) hb (by go_size)
            have q15 : w14.heap.size + 0 ≤ w15.heap.size := by have z := hb.size; (try simp only [World.size_alloc, World.size_setCell, World.size_drew] at z); omega
            replace H := Lib.hid (H.out.below hb (Nat.le_refl _))
            replace K := Lib.hid (K.out.below hb (Nat.le_refl _))
            replace RX := Lib.hid (RX.out.below hb (Nat.le_refl _))
            replace RY := Lib.hid (RY.out.below hb (Nat.le_refl _))
            replace RU := Lib.hid (RU.out.below hb (Nat.le_refl _))
            replace RB := Lib.hid (RB.out.below hb (Nat.le_refl _))
            replace RC := Lib.hid (RC.out.below hb (Nat.le_refl _))
            replace X := (X).below hb (by go_size)
            replace Y := (Y).below hb (by go_size)
            replace Xx := (Xx).below hb (by go_size)
            replace F1 := (F1).below hb (by go_size)
            replace Yy := (Yy).below hb (by go_size)
            replace F2 := (F2).below hb (by go_size)
            replace U := (U).below hb (by go_size)
            replace F3 := (F3).below hb (by go_size)
            replace Bb := (Bb).below hb (by go_size)
            replace F4 := (F4).below hb (by go_size)
            replace Cc := (Cc).below hb (by go_size)
            replace F5 := (F5).below hb (by go_size)
            clear hb
            have s15 : w.heap.size ≤ w15.heap.size := B15.size
            clear X_c X_f X_l Y_c Y_f Y_l Xx_c Xx_f Xx_l F1_c F1_f F1_l Yy_c Yy_f Yy_l F2_c F2_f F2_l U_c U_f U_l F3_c F3_f F3_l Bb_c Bb_f Bb_l F4_c F4_f F4_l Cc_c Cc_f Cc_l F5_c F5_f F5_l
            obtain ⟨X_c, X_f, X_l⟩ := id X
            obtain ⟨Y_c, Y_f, Y_l⟩ := id Y
            obtain ⟨Xx_c, Xx_f, Xx_l⟩ := id Xx
            obtain ⟨F1_c, F1_f, F1_l⟩ := id F1
            obtain ⟨Yy_c, Yy_f, Yy_l⟩ := id Yy
            obtain ⟨F2_c, F2_f, F2_l⟩ := id F2
            obtain ⟨U_c, U_f, U_l⟩ := id U
            obtain ⟨F3_c, F3_f, F3_l⟩ := id F3
            obtain ⟨Bb_c, Bb_f, Bb_l⟩ := id Bb
            obtain ⟨F4_c, F4_f, F4_l⟩ := id F4
            obtain ⟨Cc_c, Cc_f, Cc_l⟩ := id Cc
            obtain ⟨F5_c, F5_f, F5_l⟩ := id F5
            by_cases z5 : f5 = 0
            · obtain ⟨e6, e7⟩ := DK.out z5
              cases e6
              subst e7
              have v5 : (f5 != 0) = false := bneF z5
              go_wp2_with fail
              have B16 : Below w.heap.size w ((w15.alloc (.cells #[.slice od ld.length kd] 24)).alloc (.cells #[.int .i64 0, .int .i64 0] 29)) := by go_grown
              have q16 : w15.heap.size + 2 ≤ ((w15.alloc (.cells #[.slice od ld.length kd] 24)).alloc (.cells #[.int .i64 0, .int .i64 0] 29)).heap.size := by simp only [World.size_alloc]; omega
              replace H := Lib.hid ((H.out.below (Below.refl _ _ |>.alloc (Nat.le_refl _) (.cells #[.slice od ld.length kd] 24)) (Nat.le_refl _)).below (Below.refl _ _ |>.alloc (Nat.le_refl _) (.cells #[.int .i64 0, .int .i64 0] 29)) (Nat.le_refl _))
              replace K := Lib.hid ((K.out.below (Below.refl _ _ |>.alloc (Nat.le_refl _) (.cells #[.slice od ld.length kd] 24)) (Nat.le_refl _)).below (Below.refl _ _ |>.alloc (Nat.le_refl _) (.cells #[.int .i64 0, .int .i64 0] 29)) (Nat.le_refl _))
              replace RX := Lib.hid ((RX.out.below (Below.refl _ _ |>.alloc (Nat.le_refl _) (.cells #[.slice od ld.length kd] 24)) (Nat.le_refl _)).below (Below.refl _ _ |>.alloc (Nat.le_refl _) (.cells #[.int .i64 0, .int .i64 0] 29)) (Nat.le_refl _))
              replace RY := Lib.hid ((RY.out.below (Below.refl _ _ |>.alloc (Nat.le_refl _) (.cells #[.slice od ld.length kd] 24)) (Nat.le_refl _)).below (Below.refl _ _ |>.alloc (Nat.le_refl _) (.cells #[.int .i64 0, .int .i64 0] 29)) (Nat.le_refl _))
              replace RU := Lib.hid ((RU.out.below (Below.refl _ _ |>.alloc (Nat.le_refl _) (.cells #[.slice od ld.length kd] 24)) (Nat.le_refl _)).below (Below.refl _ _ |>.alloc (Nat.le_refl _) (.cells #[.int .i64 0, .int .i64 0] 29)) (Nat.le_refl _))
              replace RB := Lib.hid ((RB.out.below (Below.refl _ _ |>.alloc (Nat.le_refl _) (.cells #[.slice od ld.length kd] 24)) (Nat.le_refl _)).below (Below.refl _ _ |>.alloc (Nat.le_refl _) (.cells #[.int .i64 0, .int .i64 0] 29)) (Nat.le_refl _))
              replace RC := Lib.hid ((RC.out.below (Below.refl _ _ |>.alloc (Nat.le_refl _) (.cells #[.slice od ld.length kd] 24)) (Nat.le_refl _)).below (Below.refl _ _ |>.alloc (Nat.le_refl _) (.cells #[.int .i64 0, .int .i64 0] 29)) (Nat.le_refl _))
              replace RD := Lib.hid ((RD.out.below (Below.refl _ _ |>.alloc (Nat.le_refl _) (.cells #[.slice od ld.length kd] 24)) (Nat.le_refl _)).below (Below.refl _ _ |>.alloc (Nat.le_refl _) (.cells #[.int .i64 0, .int .i64 0] 29)) (Nat.le_refl _))
              replace X := ((X.alloc (.cells #[.slice od ld.length kd] 24)).alloc (.cells #[.int .i64 0, .int .i64 0] 29))
              replace Y := ((Y.alloc (.cells #[.slice od ld.length kd] 24)).alloc (.cells #[.int .i64 0, .int .i64 0] 29))
              replace Xx := ((Xx.alloc (.cells #[.slice od ld.length kd] 24)).alloc (.cells #[.int .i64 0, .int .i64 0] 29))
              replace F1 := ((F1.alloc (.cells #[.slice od ld.length kd] 24)).alloc (.cells #[.int .i64 0, .int .i64 0] 29))
              replace Yy := ((Yy.alloc (.cells #[.slice od ld.length kd] 24)).alloc (.cells #[.int .i64 0, .int .i64 0] 29))
              replace F2 := ((F2.alloc (.cells #[.slice od ld.length kd] 24)).alloc (.cells #[.int .i64 0, .int .i64 0] 29))
              replace U := ((U.alloc (.cells #[.slice od ld.length kd] 24)).alloc (.cells #[.int .i64 0, .int .i64 0] 29))
              replace F3 := ((F3.alloc (.cells #[.slice od ld.length kd] 24)).alloc (.cells #[.int .i64 0, .int .i64 0] 29))
              replace Bb := ((Bb.alloc (.cells #[.slice od ld.length kd] 24)).alloc (.cells #[.int .i64 0, .int .i64 0] 29))
              replace F4 := ((F4.alloc (.cells #[.slice od ld.length kd] 24)).alloc (.cells #[.int .i64 0, .int .i64 0] 29))
              replace Cc := ((Cc.alloc (.cells #[.slice od ld.length kd] 24)).alloc (.cells #[.int .i64 0, .int .i64 0] 29))
              replace F5 := ((F5.alloc (.cells #[.slice od ld.length kd] 24)).alloc (.cells #[.int .i64 0, .int .i64 0] 29))
              have Dd := ((Bk.new (r := w15.heap.size) (cs := [.slice od ld.length kd]) w15 24 (by simp)).alloc (.cells #[.int .i64 0, .int .i64 0] 29))
              have F6 := (Bk.new (r := w15.heap.size + 1) (cs := [.int .i64 0, .int .i64 0]) (w15.alloc (.cells #[.slice od ld.length kd] 24)) 29 (by simp))
              clear X_c X_f X_l Y_c Y_f Y_l Xx_c Xx_f Xx_l F1_c F1_f F1_l Yy_c Yy_f Yy_l F2_c F2_f F2_l U_c U_f U_l F3_c F3_f F3_l Bb_c Bb_f Bb_l F4_c F4_f F4_l Cc_c Cc_f Cc_l F5_c F5_f F5_l
              generalize ((w15.alloc (.cells #[.slice od ld.length kd] 24)).alloc (.cells #[.int .i64 0, .int .i64 0] 29)) = w16 at *
              have s16 : w.heap.size ≤ w16.heap.size := B16.size
              obtain ⟨X_c, X_f, X_l⟩ := id X
              obtain ⟨Y_c, Y_f, Y_l⟩ := id Y
              obtain ⟨Xx_c, Xx_f, Xx_l⟩ := id Xx
              obtain ⟨F1_c, F1_f, F1_l⟩ := id F1
              obtain ⟨Yy_c, Yy_f, Yy_l⟩ := id Yy
              obtain ⟨F2_c, F2_f, F2_l⟩ := id F2
              obtain ⟨U_c, U_f, U_l⟩ := id U
              obtain ⟨F3_c, F3_f, F3_l⟩ := id F3
              obtain ⟨Bb_c, Bb_f, Bb_l⟩ := id Bb
              obtain ⟨F4_c, F4_f, F4_l⟩ := id F4
              obtain ⟨Cc_c, Cc_f, Cc_l⟩ := id Cc
              obtain ⟨F5_c, F5_f, F5_l⟩ := id F5
              obtain ⟨Dd_c, Dd_f, Dd_l⟩ := id Dd
              obtain ⟨F6_c, F6_f, F6_l⟩ := id F6
              refine (same_two e0.out RB.out H.out).mono ?_
              rintro e w17 ⟨rfl, hb⟩
              have B17 : Below w.heap.size w w17 := bcall (by go_grown) hb (by go_size)
              have q17 : w16.heap.size + 0 ≤ w17.heap.size := by have z := hb.size; (try simp only [World.size_alloc, World.size_setCell, World.size_drew] at z); omega
              replace H := Lib.hid (H.out.below hb (Nat.le_refl _))
              replace K := Lib.hid (K.out.below hb (Nat.le_refl _))
              replace RX := Lib.hid (RX.out.below hb (Nat.le_refl _))
              replace RY := Lib.hid (RY.out.below hb (Nat.le_refl _))
              replace RU := Lib.hid (RU.out.below hb (Nat.le_refl _))
              replace RB := Lib.hid (RB.out.below hb (Nat.le_refl _))
              replace RC := Lib.hid (RC.out.below hb (Nat.le_refl _))
              replace RD := Lib.hid (RD.out.below hb (Nat.le_refl _))
              replace X := (X).below hb (by go_size)
              replace Y := (Y).below hb (by go_size)
              replace Xx := (Xx).below hb (by go_size)
              replace F1 := (F1).below hb (by go_size)
              replace Yy := (Yy).below hb (by go_size)
              replace F2 := (F2).below hb (by go_size)
              replace U := (U).below hb (by go_size)
              replace F3 := (F3).below hb (by go_size)
              replace Bb := (Bb).below hb (by go_size)
              replace F4 := (F4).below hb (by go_size)
              replace Cc := (Cc).below hb (by go_size)
              replace F5 := (F5).below hb (by go_size)
              replace Dd := (Dd).below hb (by go_size)
              replace F6 := (F6).below hb (by go_size)
              clear hb
              have s17 : w.heap.size ≤ w17.heap.size := B17.size
              clear X_c X_f X_l Y_c Y_f Y_l Xx_c Xx_f Xx_l F1_c F1_f F1_l Yy_c Yy_f Yy_l F2_c F2_f F2_l U_c U_f U_l F3_c F3_f F3_l Bb_c Bb_f Bb_l F4_c F4_f F4_l Cc_c Cc_f Cc_l F5_c F5_f F5_l Dd_c Dd_f Dd_l F6_c F6_f F6_l
              obtain ⟨X_c, X_f, X_l⟩ := id X
              obtain ⟨Y_c, Y_f, Y_l⟩ := id Y
              obtain ⟨Xx_c, Xx_f, Xx_l⟩ := id Xx
              obtain ⟨F1_c, F1_f, F1_l⟩ := id F1
              obtain ⟨Yy_c, Yy_f, Yy_l⟩ := id Yy
              obtain ⟨F2_c, F2_f, F2_l⟩ := id F2
              obtain ⟨U_c, U_f, U_l⟩ := id U
              obtain ⟨F3_c, F3_f, F3_l⟩ := id F3
              obtain ⟨Bb_c, Bb_f, Bb_l⟩ := id Bb
              obtain ⟨F4_c, F4_f, F4_l⟩ := id F4
              obtain ⟨Cc_c, Cc_f, Cc_l⟩ := id Cc
              obtain ⟨F5_c, F5_f, F5_l⟩ := id F5
              obtain ⟨Dd_c, Dd_f, Dd_l⟩ := id Dd
              obtain ⟨F6_c, F6_f, F6_l⟩ := id F6
              go_wp2_with fail
              refine (same_self ld _ _ _ _ _ RC.out RD.out).mono ?_
              rintro e w18 ⟨rfl, hb⟩
              have B18 : Below w.heap.size w w18 := bcall (by go_grown) hb (by go_size)
              have q18 : w17.heap.size + 0 ≤ w18.heap.size := by have z := hb.size; (try simp only [World.size_alloc, World.size_setCell, World.size_drew] at z); omega
              replace H := Lib.hid (H.out.below hb (Nat.le_refl _))
              replace K := Lib.hid (K.out.below hb (Nat.le_refl _))
              replace RX := Lib.hid (RX.out.below hb (Nat.le_refl _))
              replace RY := Lib.hid (RY.out.below hb (Nat.le_refl _))
              replace RU := Lib.hid (RU.out.below hb (Nat.le_refl _))
              replace RB := Lib.hid (RB.out.below hb (Nat.le_refl _))
              replace RC := Lib.hid (RC.out.below hb (Nat.le_refl _))
              replace RD := Lib.hid (RD.out.below hb (Nat.le_refl _))
              replace X := (X).below hb (by go_size)
              replace Y := (Y).below hb (by go_size)
              replace Xx := (Xx).below hb (by go_size)
              replace F1 := (F1).below hb (by go_size)
              replace Yy := (Yy).below hb (by go_size)
              replace F2 := (F2).below hb (by go_size)
              replace U := (U).below hb (by go_size)
              replace F3 := (F3).below hb (by go_size)
              replace Bb := (Bb).below hb (by go_size)
              replace F4 := (F4).below hb (by go_size)
              replace Cc := (Cc).below hb (by go_size)
              replace F5 := (F5).below hb (by go_size)
              replace Dd := (Dd).below hb (by go_size)
              replace F6 := (F6).below hb (by go_size)
              clear hb
              have s18 : w.heap.size ≤ w18.heap.size := B18.size
              clear X_c X_f X_l Y_c Y_f Y_l Xx_c Xx_f Xx_l F1_c F1_f F1_l Yy_c Yy_f Yy_l F2_c F2_f F2_l U_c U_f U_l F3_c F3_f F3_l Bb_c Bb_f Bb_l F4_c F4_f F4_l Cc_c Cc_f Cc_l F5_c F5_f F5_l Dd_c Dd_f Dd_l F6_c F6_f F6_l
              obtain ⟨X_c, X_f, X_l⟩ := id X
              obtain ⟨Y_c, Y_f, Y_l⟩ := id Y
              obtain ⟨Xx_c, Xx_f, Xx_l⟩ := id Xx
              obtain ⟨F1_c, F1_f, F1_l⟩ := id F1
              obtain ⟨Yy_c, Yy_f, Yy_l⟩ := id Yy
              obtain ⟨F2_c, F2_f, F2_l⟩ := id F2
              obtain ⟨U_c, U_f, U_l⟩ := id U
              obtain ⟨F3_c, F3_f, F3_l⟩ := id F3
              obtain ⟨Bb_c, Bb_f, Bb_l⟩ := id Bb
              obtain ⟨F4_c, F4_f, F4_l⟩ := id F4
              obtain ⟨Cc_c, Cc_f, Cc_l⟩ := id Cc
              obtain ⟨F5_c, F5_f, F5_l⟩ := id F5
              obtain ⟨Dd_c, Dd_f, Dd_l⟩ := id Dd
              obtain ⟨F6_c, F6_f, F6_l⟩ := id F6
              go_wp2_with fail
              go_ret
              exact ⟨by first | rfl | simp, by go_grown⟩
            · have v5 : (f5 != 0) = true := bneT z5
              go_wp2_with fail
              have B16 : Below w.heap.size w ((w15.alloc (.cells #[.slice od ld.length kd] 24)).alloc (.cells #[.int .i64 f6, .int .i64 g6] 29)) := by go_grown
              have q16 : w15.heap.size + 2 ≤ ((w15.alloc (.cells #[.slice od ld.length kd] 24)).alloc (.cells #[.int .i64 f6, .int .i64 g6] 29)).heap.size := by simp only [World.size_alloc]; omega
              replace H := Lib.hid ((H.out.below (Below.refl _ _ |>.alloc (Nat.le_refl _) (.cells #[.slice od ld.length kd] 24)) (Nat.le_refl _)).below (Below.refl _ _ |>.alloc (Nat.le_refl _) (.cells #[.int .i64 f6, .int .i64 g6] 29)) (Nat.le_refl _))
              replace K := Lib.hid ((K.out.below (Below.refl _ _ |>.alloc (Nat.le_refl _) (.cells #[.slice od ld.length kd] 24)) (Nat.le_refl _)).below (Below.refl _ _ |>.alloc (Nat.le_refl _) (.cells #[.int .i64 f6, .int .i64 g6] 29)) (Nat.le_refl _))
              replace RX := Lib.hid ((RX.out.below (Below.refl _ _ |>.alloc (Nat.le_refl _) (.cells #[.slice od ld.length kd] 24)) (Nat.le_refl _)).below (Below.refl _ _ |>.alloc (Nat.le_refl _) (.cells #[.int .i64 f6, .int .i64 g6] 29)) (Nat.le_refl _))
              replace RY := Lib.hid ((RY.out.below (Below.refl _ _ |>.alloc (Nat.le_refl _) (.cells #[.slice od ld.length kd] 24)) (Nat.le_refl _)).below (Below.refl _ _ |>.alloc (Nat.le_refl _) (.cells #[.int .i64 f6, .int .i64 g6] 29)) (Nat.le_refl _))
              replace RU := Lib.hid ((RU.out.below (Below.refl _ _ |>.alloc (Nat.le_refl _) (.cells #[.slice od ld.length kd] 24)) (Nat.le_refl _)).below (Below.refl _ _ |>.alloc (Nat.le_refl _) (.cells #[.int .i64 f6, .int .i64 g6] 29)) (Nat.le_refl _))
              replace RB := Lib.hid ((RB.out.below (Below.refl _ _ |>.alloc (Nat.le_refl _) (.cells #[.slice od ld.length kd] 24)) (Nat.le_refl _)).below (Below.refl _ _ |>.alloc (Nat.le_refl _) (.cells #[.int .i64 f6, .int .i64 g6] 29)) (Nat.le_refl _))
              replace RC := Lib.hid ((RC.out.below (Below.refl _ _ |>.alloc (Nat.le_refl _) (.cells #[.slice od ld.length kd] 24)) (Nat.le_refl _)).below (Below.refl _ _ |>.alloc (Nat.le_refl _) (.cells #[.int .i64 f6, .int .i64 g6] 29)) (Nat.le_refl _))
              replace RD := Lib.hid ((RD.out.below (Below.refl _ _ |>.alloc (Nat.le_refl _) (.cells #[.slice od ld.length kd] 24)) (Nat.le_refl _)).below (Below.refl _ _ |>.alloc (Nat.le_refl _) (.cells #[.int .i64 f6, .int .i64 g6] 29)) (Nat.le_refl _))
              replace X := ((X.alloc (.cells #[.slice od ld.length kd] 24)).alloc (.cells #[.int .i64 f6, .int .i64 g6] 29))
              replace Y := ((Y.alloc (.cells #[.slice od ld.length kd] 24)).alloc (.cells #[.int .i64 f6, .int .i64 g6] 29))
              replace Xx := ((Xx.alloc (.cells #[.slice od ld.length kd] 24)).alloc (.cells #[.int .i64 f6, .int .i64 g6] 29))
              replace F1 := ((F1.alloc (.cells #[.slice od ld.length kd] 24)).alloc (.cells #[.int .i64 f6, .int .i64 g6] 29))
              replace Yy := ((Yy.alloc (.cells #[.slice od ld.length kd] 24)).alloc (.cells #[.int .i64 f6, .int .i64 g6] 29))
              replace F2 := ((F2.alloc (.cells #[.slice od ld.length kd] 24)).alloc (.cells #[.int .i64 f6, .int .i64 g6] 29))
              replace U := ((U.alloc (.cells #[.slice od ld.length kd] 24)).alloc (.cells #[.int .i64 f6, .int .i64 g6] 29))
              replace F3 := ((F3.alloc (.cells #[.slice od ld.length kd] 24)).alloc (.cells #[.int .i64 f6, .int .i64 g6] 29))
              replace Bb := ((Bb.alloc (.cells #[.slice od ld.length kd] 24)).alloc (.cells #[.int .i64 f6, .int .i64 g6] 29))
              replace F4 := ((F4.alloc (.cells #[.slice od ld.length kd] 24)).alloc (.cells #[.int .i64 f6, .int .i64 g6] 29))
              replace Cc := ((Cc.alloc (.cells #[.slice od ld.length kd] 24)).alloc (.cells #[.int .i64 f6, .int .i64 g6] 29))
              replace F5 := ((F5.alloc (.cells #[.slice od ld.length kd] 24)).alloc (.cells #[.int .i64 f6, .int .i64 g6] 29))
              have Dd := ((Bk.new (r := w15.heap.size) (cs := [.slice od ld.length kd]) w15 24 (by simp)).alloc (.cells #[.int .i64 f6, .int .i64 g6] 29))
              have F6 := (Bk.new (r := w15.heap.size + 1) (cs := [.int .i64 f6, .int .i64 g6]) (w15.alloc (.cells #[.slice od ld.length kd] 24)) 29 (by simp))
              clear X_c X_f X_l Y_c Y_f Y_l Xx_c Xx_f Xx_l F1_c F1_f F1_l Yy_c Yy_f Yy_l F2_c F2_f F2_l U_c U_f U_l F3_c F3_f F3_l Bb_c Bb_f Bb_l F4_c F4_f F4_l Cc_c Cc_f Cc_l F5_c F5_f F5_l
              generalize ((w15.alloc (.cells #[.slice od ld.length kd] 24)).alloc (.cells #[.int .i64 f6, .int .i64 g6] 29)) = w16 at *
              have s16 : w.heap.size ≤ w16.heap.size := B16.size
              obtain ⟨X_c, X_f, X_l⟩ := id X
              obtain ⟨Y_c, Y_f, Y_l⟩ := id Y
              obtain ⟨Xx_c, Xx_f, Xx_l⟩ := id Xx
              obtain ⟨F1_c, F1_f, F1_l⟩ := id F1
              obtain ⟨Yy_c, Yy_f, Yy_l⟩ := id Yy
              obtain ⟨F2_c, F2_f, F2_l⟩ := id F2
              obtain ⟨U_c, U_f, U_l⟩ := id U
              obtain ⟨F3_c, F3_f, F3_l⟩ := id F3
              obtain ⟨Bb_c, Bb_f, Bb_l⟩ := id Bb
              obtain ⟨F4_c, F4_f, F4_l⟩ := id F4
              obtain ⟨Cc_c, Cc_f, Cc_l⟩ := id Cc
              obtain ⟨F5_c, F5_f, F5_l⟩ := id F5
              obtain ⟨Dd_c, Dd_f, Dd_l⟩ := id Dd
              obtain ⟨F6_c, F6_f, F6_l⟩ := id F6
              refine (same_two e0.out RB.out H.out).mono ?_
              rintro e w17 ⟨rfl, hb⟩
              have B17 : Below w.heap.size w w17 := bcall (by go_grown) hb (by go_size)
              have q17 : w16.heap.size + 0 ≤ w17.heap.size := by have z := hb.size; (try simp only [World.size_alloc, World.size_setCell, World.size_drew] at z); omega
              replace H := Lib.hid (H.out.below hb (Nat.le_refl _))
              replace K := Lib.hid (K.out.below hb (Nat.le_refl _))
              replace RX := Lib.hid (RX.out.below hb (Nat.le_refl _))
              replace RY := Lib.hid (RY.out.below hb (Nat.le_refl _))
              replace RU := Lib.hid (RU.out.below hb (Nat.le_refl _))
              replace RB := Lib.hid (RB.out.below hb (Nat.le_refl _))
              replace RC := Lib.hid (RC.out.below hb (Nat.le_refl _))
              replace RD := Lib.hid (RD.out.below hb (Nat.le_refl _))
              replace X := (X).below hb (by go_size)
              replace Y := (Y).below hb (by go_size)
              replace Xx := (Xx).below hb (by go_size)
              replace F1 := (F1).below hb (by go_size)
              replace Yy := (Yy).below hb (by go_size)
              replace F2 := (F2).below hb (by go_size)
              replace U := (U).below hb (by go_size)
              replace F3 := (F3).below hb (by go_size)
              replace Bb := (Bb).below hb (by go_size)
              replace F4 := (F4).below hb (by go_size)
              replace Cc := (Cc).below hb (by go_size)
              replace F5 := (F5).below hb (by go_size)
              replace Dd := (Dd).below hb (by go_size)
              replace F6 := (F6).below hb (by go_size)
              clear hb
              have s17 : w.heap.size ≤ w17.heap.size := B17.size
              clear X_c X_f X_l Y_c Y_f Y_l Xx_c Xx_f Xx_l F1_c F1_f F1_l Yy_c Yy_f Yy_l F2_c F2_f F2_l U_c U_f U_l F3_c F3_f F3_l Bb_c Bb_f Bb_l F4_c F4_f F4_l Cc_c Cc_f Cc_l F5_c F5_f F5_l Dd_c Dd_f Dd_l F6_c F6_f F6_l
              obtain ⟨X_c, X_f, X_l⟩ := id X
              obtain ⟨Y_c, Y_f, Y_l⟩ := id Y
              obtain ⟨Xx_c, Xx_f, Xx_l⟩ := id Xx
              obtain ⟨F1_c, F1_f, F1_l⟩ := id F1
              obtain ⟨Yy_c, Yy_f, Yy_l⟩ := id Yy
              obtain ⟨F2_c, F2_f, F2_l⟩ := id F2
              obtain ⟨U_c, U_f, U_l⟩ := id U
              obtain ⟨F3_c, F3_f, F3_l⟩ := id F3
              obtain ⟨Bb_c, Bb_f, Bb_l⟩ := id Bb
              obtain ⟨F4_c, F4_f, F4_l⟩ := id F4
              obtain ⟨Cc_c, Cc_f, Cc_l⟩ := id Cc
              obtain ⟨F5_c, F5_f, F5_l⟩ := id F5
              obtain ⟨Dd_c, Dd_f, Dd_l⟩ := id Dd
              obtain ⟨F6_c, F6_f, F6_l⟩ := id F6
              go_wp2_with fail
              go_ret
              exact ⟨by first | rfl | simp, by go_grown⟩
          · have v3 : (f3 != 0) = true := bneT z3
            go_wp2_with fail
            have B12 : Below w.heap.size w ((w11.alloc (.cells #[.slice ob lb.length kb] 24)).alloc (.cells #[.int .i64 0, .int .i64 0] 29)) := by go_grown
            have q12 : w11.heap.size + 2 ≤ ((w11.alloc (.cells #[.slice ob lb.length kb] 24)).alloc (.cells #[.int .i64 0, .int .i64 0] 29)).heap.size := by simp only [World.size_alloc]; omega
            replace H := Lib.hid ((H.out.below (Below.refl _ _ |>.alloc (Nat.le_refl _) (.cells #[.slice ob lb.length kb] 24)) (Nat.le_refl _)).below (Below.refl _ _ |>.alloc (Nat.le_refl _) (.cells #[.int .i64 0, .int .i64 0] 29)) (Nat.le_refl _))
            replace K := Lib.hid ((K.out.below (Below.refl _ _ |>.alloc (Nat.le_refl _) (.cells #[.slice ob lb.length kb] 24)) (Nat.le_refl _)).below (Below.refl _ _ |>.alloc (Nat.le_refl _) (.cells #[.int .i64 0, .int .i64 0] 29)) (Nat.le_refl _))
            replace RX := Lib.hid ((RX.out.below (Below.refl _ _ |>.alloc (Nat.le_refl _) (.cells #[.slice ob lb.length kb] 24)) (Nat.le_refl _)).below (Below.refl _ _ |>.alloc (Nat.le_refl _) (.cells #[.int .i64 0, .int .i64 0] 29)) (Nat.le_refl _))
            replace RY := Lib.hid ((RY.out.below (Below.refl _ _ |>.alloc (Nat.le_refl _) (.cells #[.slice ob lb.length kb] 24)) (Nat.le_refl _)).below (Below.refl _ _ |>.alloc (Nat.le_refl _) (.cells #[.int .i64 0, .int .i64 0] 29)) (Nat.le_refl _))
            replace RU := Lib.hid ((RU.out.below (Below.refl _ _ |>.alloc (Nat.le_refl _) (.cells #[.slice ob lb.length kb] 24)) (Nat.le_refl _)).below (Below.refl _ _ |>.alloc (Nat.le_refl _) (.cells #[.int .i64 0, .int .i64 0] 29)) (Nat.le_refl _))
            replace RB := Lib.hid ((RB.out.below (Below.refl _ _ |>.alloc (Nat.le_refl _) (.cells #[.slice ob lb.length kb] 24)) (Nat.le_refl _)).below (Below.refl _ _ |>.alloc (Nat.le_refl _) (.cells #[.int .i64 0, .int .i64 0] 29)) (Nat.le_refl _))
            replace X := ((X.alloc (.cells #[.slice ob lb.length kb] 24)).alloc (.cells #[.int .i64 0, .int .i64 0] 29))
            replace Y := ((Y.alloc (.cells #[.slice ob lb.length kb] 24)).alloc (.cells #[.int .i64 0, .int .i64 0] 29))
            replace Xx := ((Xx.alloc (.cells #[.slice ob lb.length kb] 24)).alloc (.cells #[.int .i64 0, .int .i64 0] 29))
            replace F1 := ((F1.alloc (.cells #[.slice ob lb.length kb] 24)).alloc (.cells #[.int .i64 0, .int .i64 0] 29))
            replace Yy := ((Yy.alloc (.cells #[.slice ob lb.length kb] 24)).alloc (.cells #[.int .i64 0, .int .i64 0] 29))
            replace F2 := ((F2.alloc (.cells #[.slice ob lb.length kb] 24)).alloc (.cells #[.int .i64 0, .int .i64 0] 29))
            replace U := ((U.alloc (.cells #[.slice ob lb.length kb] 24)).alloc (.cells #[.int .i64 0, .int .i64 0] 29))
            replace F3 := ((F3.alloc (.cells #[.slice ob lb.length kb] 24)).alloc (.cells #[.int .i64 0, .int .i64 0] 29))
            have Bb := ((Bk.new (r := w11.heap.size) (cs := [.slice ob lb.length kb]) w11 24 (by simp)).alloc (.cells #[.int .i64 0, .int .i64 0] 29))
            have F4 := (Bk.new (r := w11.heap.size + 1) (cs := [.int .i64 0, .int .i64 0]) (w11.alloc (.cells #[.slice ob lb.length kb] 24)) 29 (by simp))
            clear X_c X_f X_l Y_c Y_f Y_l Xx_c Xx_f Xx_l F1_c F1_f F1_l Yy_c Yy_f Yy_l F2_c F2_f F2_l U_c U_f U_l F3_c F3_f F3_l
            generalize ((w11.alloc (.cells #[.slice ob lb.length kb] 24)).alloc (.cells #[.int .i64 0, .int .i64 0] 29)) = w12 at *
            have s12 : w.heap.size ≤ w12.heap.size := B12.size
            obtain ⟨X_c, X_f, X_l⟩ := id X
            obtain ⟨Y_c, Y_f, Y_l⟩ := id Y
            obtain ⟨Xx_c, Xx_f, Xx_l⟩ := id Xx
            obtain ⟨F1_c, F1_f, F1_l⟩ := id F1
            obtain ⟨Yy_c, Yy_f, Yy_l⟩ := id Yy
            obtain ⟨F2_c, F2_f, F2_l⟩ := id F2
            obtain ⟨U_c, U_f, U_l⟩ := id U
            obtain ⟨F3_c, F3_f, F3_l⟩ := id F3
            obtain ⟨Bb_c, Bb_f, Bb_l⟩ := id Bb
            obtain ⟨F4_c, F4_f, F4_l⟩ := id F4
            refine (same_two e0.out RB.out H.out).mono ?_
            rintro e w13 ⟨rfl, hb⟩
            have B13 : Below w.heap.size w w13 := bcall (by go_grown) hb (by go_size)
            have q13 : w12.heap.size + 0 ≤ w13.heap.size := by have z := hb.size; (try simp only [World.size_alloc, World.size_setCell, World.size_drew] at z); omega
            replace H := Lib.hid (H.out.below hb (Nat.le_refl _))
            replace K := Lib.hid (K.out.below hb (Nat.le_refl _))
            replace RX := Lib.hid (RX.out.below hb (Nat.le_refl _))
            replace RY := Lib.hid (RY.out.below hb (Nat.le_refl _))
            replace RU := Lib.hid (RU.out.below hb (Nat.le_refl _))
            replace RB := Lib.hid (RB.out.below hb (Nat.le_refl _))
            replace X := (X).below hb (by go_size)
            replace Y := (Y).below hb (by go_size)
            replace Xx := (Xx).below hb (by go_size)
            replace F1 := (F1).below hb (by go_size)
            replace Yy := (Yy).below hb (by go_size)
            replace F2 := (F2).below hb (by go_size)
            replace U := (U).below hb (by go_size)
            replace F3 := (F3).below hb (by go_size)
            replace Bb := (Bb).below hb (by go_size)
            replace F4 := (F4).below hb (by go_size)
            clear hb
            have s13 : w.heap.size ≤ w13.heap.size := B13.size
            clear X_c X_f X_l Y_c Y_f Y_l Xx_c Xx_f Xx_l F1_c F1_f F1_l Yy_c Yy_f Yy_l F2_c F2_f F2_l U_c U_f U_l F3_c F3_f F3_l Bb_c Bb_f Bb_l F4_c F4_f F4_l
            obtain ⟨X_c, X_f, X_l⟩ := id X
            obtain ⟨Y_c, Y_f, Y_l⟩ := id Y
            obtain ⟨Xx_c, Xx_f, Xx_l⟩ := id Xx
            obtain ⟨F1_c, F1_f, F1_l⟩ := id F1
            obtain ⟨Yy_c, Yy_f, Yy_l⟩ := id Yy
            obtain ⟨F2_c, F2_f, F2_l⟩ := id F2
            obtain ⟨U_c, U_f, U_l⟩ := id U
            obtain ⟨F3_c, F3_f, F3_l⟩ := id F3
            obtain ⟨Bb_c, Bb_f, Bb_l⟩ := id Bb
            obtain ⟨F4_c, F4_f, F4_l⟩ := id F4
            go_wp2_with fail
            go_ret
            exact ⟨by first | rfl | simp, by go_grown⟩
        · have v2 : (f2 != 0) = true := bneT z2
          go_wp2_with fail
          have B12 : Below w.heap.size w ((w11.alloc (.cells #[.slice ob lb.length kb] 24)).alloc (.cells #[.int .i64 0, .int .i64 0] 29)) := by go_grown
          have q12 : w11.heap.size + 2 ≤ ((w11.alloc (.cells #[.slice ob lb.length kb] 24)).alloc (.cells #[.int .i64 0, .int .i64 0] 29)).heap.size := by simp only [World.size_alloc]; omega
          replace H := Lib.hid ((H.out.below (Below.refl _ _ |>.alloc (Nat.le_refl _) (.cells #[.slice ob lb.length kb] 24)) (Nat.le_refl _)).below (Below.refl _ _ |>.alloc (Nat.le_refl _) (.cells #[.int .i64 0, .int .i64 0] 29)) (Nat.le_refl _))
          replace K := Lib.hid ((K.out.below (Below.refl _ _ |>.alloc (Nat.le_refl _) (.cells #[.slice ob lb.length kb] 24)) (Nat.le_refl _)).below (Below.refl _ _ |>.alloc (Nat.le_refl _) (.cells #[.int .i64 0, .int .i64 0] 29)) (Nat.le_refl _))
          replace RX := Lib.hid ((RX.out.below (Below.refl _ _ |>.alloc (Nat.le_refl _) (.cells #[.slice ob lb.length kb] 24)) (Nat.le_refl _)).below (Below.refl _ _ |>.alloc (Nat.le_refl _) (.cells #[.int .i64 0, .int .i64 0] 29)) (Nat.le_refl _))
          replace RY := Lib.hid ((RY.out.below (Below.refl _ _ |>.alloc (Nat.le_refl _) (.cells #[.slice ob lb.length kb] 24)) (Nat.le_refl _)).below (Below.refl _ _ |>.alloc (Nat.le_refl _) (.cells #[.int .i64 0, .int .i64 0] 29)) (Nat.le_refl _))
          replace RU := Lib.hid ((RU.out.below (Below.refl _ _ |>.alloc (Nat.le_refl _) (.cells #[.slice ob lb.length kb] 24)) (Nat.le_refl _)).below (Below.refl _ _ |>.alloc (Nat.le_refl _) (.cells #[.int .i64 0, .int .i64 0] 29)) (Nat.le_refl _))
          replace RB := Lib.hid ((RB.out.below (Below.refl _ _ |>.alloc (Nat.le_refl _) (.cells #[.slice ob lb.length kb] 24)) (Nat.le_refl _)).below (Below.refl _ _ |>.alloc (Nat.le_refl _) (.cells #[.int .i64 0, .int .i64 0] 29)) (Nat.le_refl _))
          replace X := ((X.alloc (.cells #[.slice ob lb.length kb] 24)).alloc (.cells #[.int .i64 0, .int .i64 0] 29))
          replace Y := ((Y.alloc (.cells #[.slice ob lb.length kb] 24)).alloc (.cells #[.int .i64 0, .int .i64 0] 29))
          replace Xx := ((Xx.alloc (.cells #[.slice ob lb.length kb] 24)).alloc (.cells #[.int .i64 0, .int .i64 0] 29))
          replace F1 := ((F1.alloc (.cells #[.slice ob lb.length kb] 24)).alloc (.cells #[.int .i64 0, .int .i64 0] 29))
          replace Yy := ((Yy.alloc (.cells #[.slice ob lb.length kb] 24)).alloc (.cells #[.int .i64 0, .int .i64 0] 29))
          replace F2 := ((F2.alloc (.cells #[.slice ob lb.length kb] 24)).alloc (.cells #[.int .i64 0, .int .i64 0] 29))
          replace U := ((U.alloc (.cells #[.slice ob lb.length kb] 24)).alloc (.cells #[.int .i64 0, .int .i64 0] 29))
          replace F3 := ((F3.alloc (.cells #[.slice ob lb.length kb] 24)).alloc (.cells #[.int .i64 0, .int .i64 0] 29))
          have Bb := ((Bk.new (r := w11.heap.size) (cs := [.slice ob lb.length kb]) w11 24 (by simp)).alloc (.cells #[.int .i64 0, .int .i64 0] 29))
          have F4 := (Bk.new (r := w11.heap.size + 1) (cs := [.int .i64 0, .int .i64 0]) (w11.alloc (.cells #[.slice ob lb.length kb] 24)) 29 (by simp))
          clear X_c X_f X_l Y_c Y_f Y_l Xx_c Xx_f Xx_l F1_c F1_f F1_l Yy_c Yy_f Yy_l F2_c F2_f F2_l U_c U_f U_l F3_c F3_f F3_l
          generalize ((w11.alloc (.cells #[.slice ob lb.length kb] 24)).alloc (.cells #[.int .i64 0, .int .i64 0] 29)) = w12 at *
          have s12 : w.heap.size ≤ w12.heap.size := B12.size
          obtain ⟨X_c, X_f, X_l⟩ := id X
          obtain ⟨Y_c, Y_f, Y_l⟩ := id Y
          obtain ⟨Xx_c, Xx_f, Xx_l⟩ := id Xx
          obtain ⟨F1_c, F1_f, F1_l⟩ := id F1
          obtain ⟨Yy_c, Yy_f, Yy_l⟩ := id Yy
          obtain ⟨F2_c, F2_f, F2_l⟩ := id F2
          obtain ⟨U_c, U_f, U_l⟩ := id U
          obtain ⟨F3_c, F3_f, F3_l⟩ := id F3
          obtain ⟨Bb_c, Bb_f, Bb_l⟩ := id Bb
          obtain ⟨F4_c, F4_f, F4_l⟩ := id F4
          refine (same_two e0.out RB.out H.out).mono ?_
          rintro e w13 ⟨rfl, hb⟩
          have B13 : Below w.heap.size w w13 := bcall (by go_grown) hb (by go_size)
          have q13 : w12.heap.size + 0 ≤ w13.heap.size := by have z := hb.size; (try simp only [World.size_alloc, World.size_setCell, World.size_drew] at z); omega
          replace H := Lib.hid (H.out.below hb (Nat.le_refl _))
          replace K := Lib.hid (K.out.below hb (Nat.le_refl _))
          replace RX := Lib.hid (RX.out.below hb (Nat.le_refl _))
          replace RY := Lib.hid (RY.out.below hb (Nat.le_refl _))
          replace RU := Lib.hid (RU.out.below hb (Nat.le_refl _))
          replace RB := Lib.hid (RB.out.below hb (Nat.le_refl _))
          replace X := (X).below hb (by go_size)
          replace Y := (Y).below hb (by go_size)
          replace Xx := (Xx).below hb (by go_size)
          replace F1 := (F1).below hb (by go_size)
          replace Yy := (Yy).below hb (by go_size)
          replace F2 := (F2).below hb (by go_size)
          replace U := (U).below hb (by go_size)
          replace F3 := (F3).below hb (by go_size)
          replace Bb := (Bb).below hb (by go_size)
          replace F4 := (F4).below hb (by go_size)
          clear hb
          have s13 : w.heap.size ≤ w13.heap.size := B13.size
          clear X_c X_f X_l Y_c Y_f Y_l Xx_c Xx_f Xx_l F1_c F1_f F1_l Yy_c Yy_f Yy_l F2_c F2_f F2_l U_c U_f U_l F3_c F3_f F3_l Bb_c Bb_f Bb_l F4_c F4_f F4_l
          obtain ⟨X_c, X_f, X_l⟩ := id X
          obtain ⟨Y_c, Y_f, Y_l⟩ := id Y
          obtain ⟨Xx_c, Xx_f, Xx_l⟩ := id Xx
          obtain ⟨F1_c, F1_f, F1_l⟩ := id F1
          obtain ⟨Yy_c, Yy_f, Yy_l⟩ := id Yy
          obtain ⟨F2_c, F2_f, F2_l⟩ := id F2
          obtain ⟨U_c, U_f, U_l⟩ := id U
          obtain ⟨F3_c, F3_f, F3_l⟩ := id F3
          obtain ⟨Bb_c, Bb_f, Bb_l⟩ := id Bb
          obtain ⟨F4_c, F4_f, F4_l⟩ := id F4
          go_wp2_with fail
          go_ret
          exact ⟨by first | rfl | simp, by go_grown⟩
      · have v1 : (f1 != 0) = true := bneT z1
        go_wp2_with fail
        go_ret
        exact ⟨by first | rfl | simp, by go_grown⟩
end Go.Proofs.YtjfkmbehckdjlaaGreatDoor
