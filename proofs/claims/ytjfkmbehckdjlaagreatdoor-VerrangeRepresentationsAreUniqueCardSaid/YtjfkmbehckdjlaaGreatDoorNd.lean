/- The law VerrangeRepresentationsAreUnique: its walk. -/
import Derived.Test.YtjfkmbehckdjlaaGreatDoorMEd
namespace Go.Proofs.YtjfkmbehckdjlaaGreatDoor
open Go.RowKit

namespace Pl
theorem agreeB_iff {a b t : List Ivl} (ha : rngF a = (0, 0)) (hb : rngF b = (0, 0)) (ht : ∀ x ∈ t, x.Ok) : agreeB a b t = true ↔ Agree a b t := by
  unfold agreeB Agree
  rw [List.all_eq_true]
  refine ⟨fun h x hx => ?_, fun h x hx => ?_⟩
  · have h1 := h x hx
    simp only [Bool.and_eq_true, beq_iff_eq, Bool.or_eq_true] at h1
    rw [con_has ha (ht x hx).lo, con_has hb (ht x hx).lo, con_has ha (ht x hx).hi, con_has hb (ht x hx).hi] at h1
    exact ⟨h1.1, fun hu => h1.2.resolve_left (by rw [hu]; decide)⟩
  · have h1 := h x hx
    simp only [Bool.and_eq_true, beq_iff_eq, Bool.or_eq_true]
    rw [con_has ha (ht x hx).lo, con_has hb (ht x hx).lo, con_has ha (ht x hx).hi, con_has hb (ht x hx).hi]
    refine ⟨h1.1, ?_⟩
    cases hu : x.un with
    | true => exact .inl rfl
    | false => exact .inr (h1.2 hu)
theorem agree_same {a b : List Ivl} (ha : rngF a = (0, 0)) (hb : rngF b = (0, 0)) : (agreeB a b a && agreeB a b b) = true ↔ a = b := by
  have ca := (rng_ok (r := a) (by rw [ha])).2
  have cb := (rng_ok (r := b) (by rw [hb])).2
  rw [Bool.and_eq_true, agreeB_iff ha hb ca.ok, agreeB_iff ha hb cb.ok]
  refine ⟨fun h => agree_eq ca cb h.1 h.2, fun e => ?_⟩
  subst e
  exact ⟨fun x _ => ⟨rfl, fun _ => rfl⟩, fun x _ => ⟨rfl, fun _ => rfl⟩⟩
end Pl
set_option maxRecDepth 100000 in
set_option maxHeartbeats 16000000 in
theorem vru_a (r t : List Pl.Ivl) (a b : Option Addr) (c d : Nat) (w : World) (h1 : RIn w r a c) (h2 : RIn w t b d) (EN : Env w) (f1 f2 : Int) (er : Pl.rngF r = (f1, f2)) (hf : f1 ≠ 0) : Calls Tryz.prog 9 #[.agg #[.slice a r.length c], .agg #[.slice b t.length d]] w fun e w' => e = .returned (.bool true) ∧ Below w.heap.size w w' := by
  have HE := Lib.hid EN
  have H := Lib.hid h1
  have K := Lib.hid h2
  have C1 := Lib.hid (fun (W : World) (g : RIn W r a c) => rngValidate_any r a c W g)
  have C2 := Lib.hid (fun (W : World) (g : RIn W t b d) => rngValidate_any t b d W g)
  have CP := Lib.hid (fun (W : World) (g1 : RIn W r a c) (g2 : RIn W t b d) => PairFault_any r t a b c d W g1 g2)
  rw [er] at C1
  rw [show Pl.pairF r t = (f1, f2) by rw [Pl.pairF_a (by rw [er]; exact hf), er]] at CP
  have u1 : (f1 == 0) = false := beqF hf
  have u2 : (f1 != 0) = true := bneT hf
  clear hf
  simp only [fltV] at C1 C2 CP
  clear h1 h2 EN er
  go_enter Tryz.func9, Tryz.ntmps9
  have B0 : Below w.heap.size w w := Below.refl _ _
  go_wp2_with fail
  have B1 : Below w.heap.size w ((w.alloc (.cells #[.slice a r.length c] 24)).alloc (.cells #[.slice b t.length d] 24)) := by go_grown
  have q1 : w.heap.size + 2 ≤ ((w.alloc (.cells #[.slice a r.length c] 24)).alloc (.cells #[.slice b t.length d] 24)).heap.size := by simp only [World.size_alloc]; omega
  replace H := Lib.hid ((H.out.below (Below.refl _ _ |>.alloc (Nat.le_refl _) (.cells #[.slice a r.length c] 24)) (Nat.le_refl _)).below (Below.refl _ _ |>.alloc (Nat.le_refl _) (.cells #[.slice b t.length d] 24)) (Nat.le_refl _))
  replace K := Lib.hid ((K.out.below (Below.refl _ _ |>.alloc (Nat.le_refl _) (.cells #[.slice a r.length c] 24)) (Nat.le_refl _)).below (Below.refl _ _ |>.alloc (Nat.le_refl _) (.cells #[.slice b t.length d] 24)) (Nat.le_refl _))
  have X := ((Bk.new (r := w.heap.size) (cs := [.slice a r.length c]) w 24 (by simp)).alloc (.cells #[.slice b t.length d] 24))
  have Y := (Bk.new (r := w.heap.size + 1) (cs := [.slice b t.length d]) (w.alloc (.cells #[.slice a r.length c] 24)) 24 (by simp))
  generalize ((w.alloc (.cells #[.slice a r.length c] 24)).alloc (.cells #[.slice b t.length d] 24)) = w1 at *
  have s1 : w.heap.size ≤ w1.heap.size := B1.size
  obtain ⟨X_c, X_f, X_l⟩ := id X
  obtain ⟨Y_c, Y_f, Y_l⟩ := id Y
  refine (ranges_any _ (HE.out.below B1 (Nat.le_refl _))).mono ?_
  rintro e w2 ⟨rfl, hb⟩
  have B2 : Below w.heap.size w w2 := bcall (by go_grown) hb (by go_size)
  have q2 : w1.heap.size + 0 ≤ w2.heap.size := by have z := hb.size; (try simp only [World.size_alloc, World.size_setCell, World.size_drew] at z); omega
  replace H := Lib.hid (H.out.below hb (Nat.le_refl _))
  replace K := Lib.hid (K.out.below hb (Nat.le_refl _))
  replace X := (X).below hb (by go_size)
  replace Y := (Y).below hb (by go_size)
  clear hb
  have s2 : w.heap.size ≤ w2.heap.size := B2.size
  clear X_c X_f X_l Y_c Y_f Y_l
  obtain ⟨X_c, X_f, X_l⟩ := id X
  obtain ⟨Y_c, Y_f, Y_l⟩ := id Y
  go_wp2_with fail
  refine (great_any r a c _ H.out).mono ?_
  rintro e w3 ⟨⟨q1, rfl⟩, hb⟩
  have B3 : Below w.heap.size w w3 := bcall (by go_grown) hb (by go_size)
  have q3 : w2.heap.size + 0 ≤ w3.heap.size := by have z := hb.size; (try simp only [World.size_alloc, World.size_setCell, World.size_drew] at z); omega
  replace H := Lib.hid (H.out.below hb (Nat.le_refl _))
  replace K := Lib.hid (K.out.below hb (Nat.le_refl _))
  replace X := (X).below hb (by go_size)
  replace Y := (Y).below hb (by go_size)
  clear hb
  have s3 : w.heap.size ≤ w3.heap.size := B3.size
  clear X_c X_f X_l Y_c Y_f Y_l
  obtain ⟨X_c, X_f, X_l⟩ := id X
  obtain ⟨Y_c, Y_f, Y_l⟩ := id Y
  cases q1 with
  | true =>
    go_wp2_with fail
    go_ret
    exact ⟨by first | rfl | simp, by go_grown⟩
  | false =>
    go_wp2_with fail
    refine (great_any t b d _ K.out).mono ?_
    rintro e w4 ⟨⟨q2, rfl⟩, hb⟩
    have B4 : Below w.heap.size w w4 := bcall (by go_grown) hb (by go_size)
    have q4 : w3.heap.size + 0 ≤ w4.heap.size := by have z := hb.size; (try simp only [World.size_alloc, World.size_setCell, World.size_drew] at z); omega
    replace H := Lib.hid (H.out.below hb (Nat.le_refl _))
    replace K := Lib.hid (K.out.below hb (Nat.le_refl _))
    replace X := (X).below hb (by go_size)
    replace Y := (Y).below hb (by go_size)
    clear hb
    have s4 : w.heap.size ≤ w4.heap.size := B4.size
    clear X_c X_f X_l Y_c Y_f Y_l
    obtain ⟨X_c, X_f, X_l⟩ := id X
    obtain ⟨Y_c, Y_f, Y_l⟩ := id Y
    cases q2 with
    | true =>
      go_wp2_with fail
      go_ret
      exact ⟨by first | rfl | simp, by go_grown⟩
    | false =>
      go_wp2_with fail
      refine (C1.out _ H.out).mono ?_
      rintro e w5 ⟨rfl, hb⟩
      have B5 : Below w.heap.size w w5 := bcall (by go_grown) hb (by go_size)
      have q5 : w4.heap.size + 0 ≤ w5.heap.size := by have z := hb.size; (try simp only [World.size_alloc, World.size_setCell, World.size_drew] at z); omega
      replace H := Lib.hid (H.out.below hb (Nat.le_refl _))
      replace K := Lib.hid (K.out.below hb (Nat.le_refl _))
      replace X := (X).below hb (by go_size)
      replace Y := (Y).below hb (by go_size)
      clear hb
      have s5 : w.heap.size ≤ w5.heap.size := B5.size
      clear X_c X_f X_l Y_c Y_f Y_l
      obtain ⟨X_c, X_f, X_l⟩ := id X
      obtain ⟨Y_c, Y_f, Y_l⟩ := id Y
      go_wp2_with fail
      refine (CP.out _ H.out K.out).mono ?_
      rintro e w6 ⟨rfl, hb⟩
      have B6 : Below w.heap.size w w6 := bcall (by go_grown) hb (by go_size)
      have q6 : w5.heap.size + 0 ≤ w6.heap.size := by have z := hb.size; (try simp only [World.size_alloc, World.size_setCell, World.size_drew] at z); omega
      replace H := Lib.hid (H.out.below hb (Nat.le_refl _))
      replace K := Lib.hid (K.out.below hb (Nat.le_refl _))
      replace X := (X).below hb (by go_size)
      replace Y := (Y).below hb (by go_size)
      clear hb
      have s6 : w.heap.size ≤ w6.heap.size := B6.size
      clear X_c X_f X_l Y_c Y_f Y_l
      obtain ⟨X_c, X_f, X_l⟩ := id X
      obtain ⟨Y_c, Y_f, Y_l⟩ := id Y
      go_wp2_with fail
      go_ret
      exact ⟨by first | rfl | simp, by go_grown⟩
set_option maxRecDepth 100000 in
set_option maxHeartbeats 16000000 in
theorem vru_b (r t : List Pl.Ivl) (a b : Option Addr) (c d : Nat) (w : World) (h1 : RIn w r a c) (h2 : RIn w t b d) (EN : Env w) (er : Pl.rngF r = (0, 0)) (f1 f2 : Int) (et : Pl.rngF t = (f1, f2)) (hf : f1 ≠ 0) : Calls Tryz.prog 9 #[.agg #[.slice a r.length c], .agg #[.slice b t.length d]] w fun e w' => e = .returned (.bool true) ∧ Below w.heap.size w w' := by
  have HE := Lib.hid EN
  have H := Lib.hid h1
  have K := Lib.hid h2
  have C1 := Lib.hid (fun (W : World) (g : RIn W r a c) => rngValidate_any r a c W g)
  have C2 := Lib.hid (fun (W : World) (g : RIn W t b d) => rngValidate_any t b d W g)
  have CP := Lib.hid (fun (W : World) (g1 : RIn W r a c) (g2 : RIn W t b d) => PairFault_any r t a b c d W g1 g2)
  rw [er] at C1
  rw [et] at C2
  rw [show Pl.pairF r t = (f1, -2) by rw [Pl.pairF_b (by rw [er]) (by rw [et]; exact hf), et]] at CP
  have u1 : (f1 == 0) = false := beqF hf
  have u2 : (f1 != 0) = true := bneT hf
  clear hf
  simp only [fltV] at C1 C2 CP
  clear h1 h2 EN er et
  go_enter Tryz.func9, Tryz.ntmps9
  have B0 : Below w.heap.size w w := Below.refl _ _
  go_wp2_with fail
  have B1 : Below w.heap.size w ((w.alloc (.cells #[.slice a r.length c] 24)).alloc (.cells #[.slice b t.length d] 24)) := by go_grown
  have q1 : w.heap.size + 2 ≤ ((w.alloc (.cells #[.slice a r.length c] 24)).alloc (.cells #[.slice b t.length d] 24)).heap.size := by simp only [World.size_alloc]; omega
  replace H := Lib.hid ((H.out.below (Below.refl _ _ |>.alloc (Nat.le_refl _) (.cells #[.slice a r.length c] 24)) (Nat.le_refl _)).below (Below.refl _ _ |>.alloc (Nat.le_refl _) (.cells #[.slice b t.length d] 24)) (Nat.le_refl _))
  replace K := Lib.hid ((K.out.below (Below.refl _ _ |>.alloc (Nat.le_refl _) (.cells #[.slice a r.length c] 24)) (Nat.le_refl _)).below (Below.refl _ _ |>.alloc (Nat.le_refl _) (.cells #[.slice b t.length d] 24)) (Nat.le_refl _))
  have X := ((Bk.new (r := w.heap.size) (cs := [.slice a r.length c]) w 24 (by simp)).alloc (.cells #[.slice b t.length d] 24))
  have Y := (Bk.new (r := w.heap.size + 1) (cs := [.slice b t.length d]) (w.alloc (.cells #[.slice a r.length c] 24)) 24 (by simp))
  generalize ((w.alloc (.cells #[.slice a r.length c] 24)).alloc (.cells #[.slice b t.length d] 24)) = w1 at *
  have s1 : w.heap.size ≤ w1.heap.size := B1.size
  obtain ⟨X_c, X_f, X_l⟩ := id X
  obtain ⟨Y_c, Y_f, Y_l⟩ := id Y
  refine (ranges_any _ (HE.out.below B1 (Nat.le_refl _))).mono ?_
  rintro e w2 ⟨rfl, hb⟩
  have B2 : Below w.heap.size w w2 := bcall (by go_grown) hb (by go_size)
  have q2 : w1.heap.size + 0 ≤ w2.heap.size := by have z := hb.size; (try simp only [World.size_alloc, World.size_setCell, World.size_drew] at z); omega
  replace H := Lib.hid (H.out.below hb (Nat.le_refl _))
  replace K := Lib.hid (K.out.below hb (Nat.le_refl _))
  replace X := (X).below hb (by go_size)
  replace Y := (Y).below hb (by go_size)
  clear hb
  have s2 : w.heap.size ≤ w2.heap.size := B2.size
  clear X_c X_f X_l Y_c Y_f Y_l
  obtain ⟨X_c, X_f, X_l⟩ := id X
  obtain ⟨Y_c, Y_f, Y_l⟩ := id Y
  go_wp2_with fail
  refine (great_any r a c _ H.out).mono ?_
  rintro e w3 ⟨⟨q1, rfl⟩, hb⟩
  have B3 : Below w.heap.size w w3 := bcall (by go_grown) hb (by go_size)
  have q3 : w2.heap.size + 0 ≤ w3.heap.size := by have z := hb.size; (try simp only [World.size_alloc, World.size_setCell, World.size_drew] at z); omega
  replace H := Lib.hid (H.out.below hb (Nat.le_refl _))
  replace K := Lib.hid (K.out.below hb (Nat.le_refl _))
  replace X := (X).below hb (by go_size)
  replace Y := (Y).below hb (by go_size)
  clear hb
  have s3 : w.heap.size ≤ w3.heap.size := B3.size
  clear X_c X_f X_l Y_c Y_f Y_l
  obtain ⟨X_c, X_f, X_l⟩ := id X
  obtain ⟨Y_c, Y_f, Y_l⟩ := id Y
  cases q1 with
  | true =>
    go_wp2_with fail
    go_ret
    exact ⟨by first | rfl | simp, by go_grown⟩
  | false =>
    go_wp2_with fail
    refine (great_any t b d _ K.out).mono ?_
    rintro e w4 ⟨⟨q2, rfl⟩, hb⟩
    have B4 : Below w.heap.size w w4 := bcall (by go_grown) hb (by go_size)
    have q4 : w3.heap.size + 0 ≤ w4.heap.size := by have z := hb.size; (try simp only [World.size_alloc, World.size_setCell, World.size_drew] at z); omega
    replace H := Lib.hid (H.out.below hb (Nat.le_refl _))
    replace K := Lib.hid (K.out.below hb (Nat.le_refl _))
    replace X := (X).below hb (by go_size)
    replace Y := (Y).below hb (by go_size)
    clear hb
    have s4 : w.heap.size ≤ w4.heap.size := B4.size
    clear X_c X_f X_l Y_c Y_f Y_l
    obtain ⟨X_c, X_f, X_l⟩ := id X
    obtain ⟨Y_c, Y_f, Y_l⟩ := id Y
    cases q2 with
    | true =>
      go_wp2_with fail
      go_ret
      exact ⟨by first | rfl | simp, by go_grown⟩
    | false =>
      go_wp2_with fail
      refine (C1.out _ H.out).mono ?_
      rintro e w5 ⟨rfl, hb⟩
      have B5 : Below w.heap.size w w5 := bcall (by go_grown) hb (by go_size)
      have q5 : w4.heap.size + 0 ≤ w5.heap.size := by have z := hb.size; (try simp only [World.size_alloc, World.size_setCell, World.size_drew] at z); omega
      replace H := Lib.hid (H.out.below hb (Nat.le_refl _))
      replace K := Lib.hid (K.out.below hb (Nat.le_refl _))
      replace X := (X).below hb (by go_size)
      replace Y := (Y).below hb (by go_size)
      clear hb
      have s5 : w.heap.size ≤ w5.heap.size := B5.size
      clear X_c X_f X_l Y_c Y_f Y_l
      obtain ⟨X_c, X_f, X_l⟩ := id X
      obtain ⟨Y_c, Y_f, Y_l⟩ := id Y
      go_wp2_with fail
      refine (C2.out _ K.out).mono ?_
      rintro e w6 ⟨rfl, hb⟩
      have B6 : Below w.heap.size w w6 := bcall (by go_grown) hb (by go_size)
      have q6 : w5.heap.size + 0 ≤ w6.heap.size := by have z := hb.size; (try simp only [World.size_alloc, World.size_setCell, World.size_drew] at z); omega
      replace H := Lib.hid (H.out.below hb (Nat.le_refl _))
      replace K := Lib.hid (K.out.below hb (Nat.le_refl _))
      replace X := (X).below hb (by go_size)
      replace Y := (Y).below hb (by go_size)
      clear hb
      have s6 : w.heap.size ≤ w6.heap.size := B6.size
      clear X_c X_f X_l Y_c Y_f Y_l
      obtain ⟨X_c, X_f, X_l⟩ := id X
      obtain ⟨Y_c, Y_f, Y_l⟩ := id Y
      go_wp2_with fail
      refine (CP.out _ H.out K.out).mono ?_
      rintro e w7 ⟨rfl, hb⟩
      have B7 : Below w.heap.size w w7 := bcall (by go_grown) hb (by go_size)
      have q7 : w6.heap.size + 0 ≤ w7.heap.size := by have z := hb.size; (try simp only [World.size_alloc, World.size_setCell, World.size_drew] at z); omega
      replace H := Lib.hid (H.out.below hb (Nat.le_refl _))
      replace K := Lib.hid (K.out.below hb (Nat.le_refl _))
      replace X := (X).below hb (by go_size)
      replace Y := (Y).below hb (by go_size)
      clear hb
      have s7 : w.heap.size ≤ w7.heap.size := B7.size
      clear X_c X_f X_l Y_c Y_f Y_l
      obtain ⟨X_c, X_f, X_l⟩ := id X
      obtain ⟨Y_c, Y_f, Y_l⟩ := id Y
      go_wp2_with fail
      go_ret
      exact ⟨by first | rfl | simp, by go_grown⟩
set_option maxRecDepth 100000 in
set_option maxHeartbeats 16000000 in
theorem vru_c (r t : List Pl.Ivl) (a b : Option Addr) (c d : Nat) (w : World) (h1 : RIn w r a c) (h2 : RIn w t b d) (EN : Env w) (er : Pl.rngF r = (0, 0)) (et : Pl.rngF t = (0, 0)) : Calls Tryz.prog 9 #[.agg #[.slice a r.length c], .agg #[.slice b t.length d]] w fun e w' => e = .returned (.bool true) ∧ Below w.heap.size w w' := by
  have HE := Lib.hid EN
  have H := Lib.hid h1
  have K := Lib.hid h2
  have C1 := Lib.hid (fun (W : World) (g : RIn W r a c) => rngValidate_any r a c W g)
  have C2 := Lib.hid (fun (W : World) (g : RIn W t b d) => rngValidate_any t b d W g)
  have CP := Lib.hid (fun (W : World) (g1 : RIn W r a c) (g2 : RIn W t b d) => PairFault_any r t a b c d W g1 g2)
  rw [er] at C1
  rw [et] at C2
  have SA := Lib.hid (Pl.agree_same er et)
  have CA := Lib.hid (fun (W : World) (g1 : RIn W r a c) (g2 : RIn W t b d) => agree_any r t r a b a c d c W g1 g2 g1)
  have CB := Lib.hid (fun (W : World) (g1 : RIn W r a c) (g2 : RIn W t b d) => agree_any r t t a b b c d d W g1 g2 g2)
  have CS := Lib.hid (fun (W : World) (g1 : RIn W r a c) (g2 : RIn W t b d) => SameRange_any r t a b c d W g1 g2)

  generalize Pl.agreeB r t r = A1 at *
  generalize Pl.agreeB r t t = A2 at *
  simp only [fltV] at C1 C2 CP
  clear h1 h2 EN er et
  go_enter Tryz.func9, Tryz.ntmps9
  have B0 : Below w.heap.size w w := Below.refl _ _
  go_wp2_with fail
  have B1 : Below w.heap.size w ((w.alloc (.cells #[.slice a r.length c] 24)).alloc (.cells #[.slice b t.length d] 24)) := by go_grown
  have q1 : w.heap.size + 2 ≤ ((w.alloc (.cells #[.slice a r.length c] 24)).alloc (.cells #[.slice b t.length d] 24)).heap.size := by simp only [World.size_alloc]; omega
  replace H := Lib.hid ((H.out.below (Below.refl _ _ |>.alloc (Nat.le_refl _) (.cells #[.slice a r.length c] 24)) (Nat.le_refl _)).below (Below.refl _ _ |>.alloc (Nat.le_refl _) (.cells #[.slice b t.length d] 24)) (Nat.le_refl _))
  replace K := Lib.hid ((K.out.below (Below.refl _ _ |>.alloc (Nat.le_refl _) (.cells #[.slice a r.length c] 24)) (Nat.le_refl _)).below (Below.refl _ _ |>.alloc (Nat.le_refl _) (.cells #[.slice b t.length d] 24)) (Nat.le_refl _))
  have X := ((Bk.new (r := w.heap.size) (cs := [.slice a r.length c]) w 24 (by simp)).alloc (.cells #[.slice b t.length d] 24))
  have Y := (Bk.new (r := w.heap.size + 1) (cs := [.slice b t.length d]) (w.alloc (.cells #[.slice a r.length c] 24)) 24 (by simp))
  generalize ((w.alloc (.cells #[.slice a r.length c] 24)).alloc (.cells #[.slice b t.length d] 24)) = w1 at *
  have s1 : w.heap.size ≤ w1.heap.size := B1.size
  obtain ⟨X_c, X_f, X_l⟩ := id X
  obtain ⟨Y_c, Y_f, Y_l⟩ := id Y
  refine (ranges_any _ (HE.out.below B1 (Nat.le_refl _))).mono ?_
  rintro e w2 ⟨rfl, hb⟩
  have B2 : Below w.heap.size w w2 := bcall (by go_grown) hb (by go_size)
  have q2 : w1.heap.size + 0 ≤ w2.heap.size := by have z := hb.size; (try simp only [World.size_alloc, World.size_setCell, World.size_drew] at z); omega
  replace H := Lib.hid (H.out.below hb (Nat.le_refl _))
  replace K := Lib.hid (K.out.below hb (Nat.le_refl _))
  replace X := (X).below hb (by go_size)
  replace Y := (Y).below hb (by go_size)
  clear hb
  have s2 : w.heap.size ≤ w2.heap.size := B2.size
  clear X_c X_f X_l Y_c Y_f Y_l
  obtain ⟨X_c, X_f, X_l⟩ := id X
  obtain ⟨Y_c, Y_f, Y_l⟩ := id Y
  go_wp2_with fail
  refine (great_any r a c _ H.out).mono ?_
  rintro e w3 ⟨⟨q1, rfl⟩, hb⟩
  have B3 : Below w.heap.size w w3 := bcall (by go_grown) hb (by go_size)
  have q3 : w2.heap.size + 0 ≤ w3.heap.size := by have z := hb.size; (try simp only [World.size_alloc, World.size_setCell, World.size_drew] at z); omega
  replace H := Lib.hid (H.out.below hb (Nat.le_refl _))
  replace K := Lib.hid (K.out.below hb (Nat.le_refl _))
  replace X := (X).below hb (by go_size)
  replace Y := (Y).below hb (by go_size)
  clear hb
  have s3 : w.heap.size ≤ w3.heap.size := B3.size
  clear X_c X_f X_l Y_c Y_f Y_l
  obtain ⟨X_c, X_f, X_l⟩ := id X
  obtain ⟨Y_c, Y_f, Y_l⟩ := id Y
  cases q1 with
  | true =>
    go_wp2_with fail
    go_ret
    exact ⟨by first | rfl | simp, by go_grown⟩
  | false =>
    go_wp2_with fail
    refine (great_any t b d _ K.out).mono ?_
    rintro e w4 ⟨⟨q2, rfl⟩, hb⟩
    have B4 : Below w.heap.size w w4 := bcall (by go_grown) hb (by go_size)
    have q4 : w3.heap.size + 0 ≤ w4.heap.size := by have z := hb.size; (try simp only [World.size_alloc, World.size_setCell, World.size_drew] at z); omega
    replace H := Lib.hid (H.out.below hb (Nat.le_refl _))
    replace K := Lib.hid (K.out.below hb (Nat.le_refl _))
    replace X := (X).below hb (by go_size)
    replace Y := (Y).below hb (by go_size)
    clear hb
    have s4 : w.heap.size ≤ w4.heap.size := B4.size
    clear X_c X_f X_l Y_c Y_f Y_l
    obtain ⟨X_c, X_f, X_l⟩ := id X
    obtain ⟨Y_c, Y_f, Y_l⟩ := id Y
    cases q2 with
    | true =>
      go_wp2_with fail
      go_ret
      exact ⟨by first | rfl | simp, by go_grown⟩
    | false =>
      go_wp2_with fail
      refine (C1.out _ H.out).mono ?_
      rintro e w5 ⟨rfl, hb⟩
      have B5 : Below w.heap.size w w5 := bcall (by go_grown) hb (by go_size)
      have q5 : w4.heap.size + 0 ≤ w5.heap.size := by have z := hb.size; (try simp only [World.size_alloc, World.size_setCell, World.size_drew] at z); omega
      replace H := Lib.hid (H.out.below hb (Nat.le_refl _))
      replace K := Lib.hid (K.out.below hb (Nat.le_refl _))
      replace X := (X).below hb (by go_size)
      replace Y := (Y).below hb (by go_size)
      clear hb
      have s5 : w.heap.size ≤ w5.heap.size := B5.size
      clear X_c X_f X_l Y_c Y_f Y_l
      obtain ⟨X_c, X_f, X_l⟩ := id X
      obtain ⟨Y_c, Y_f, Y_l⟩ := id Y
      go_wp2_with fail
      refine (C2.out _ K.out).mono ?_
      rintro e w6 ⟨rfl, hb⟩
      have B6 : Below w.heap.size w w6 := bcall (by go_grown) hb (by go_size)
      have q6 : w5.heap.size + 0 ≤ w6.heap.size := by have z := hb.size; (try simp only [World.size_alloc, World.size_setCell, World.size_drew] at z); omega
      replace H := Lib.hid (H.out.below hb (Nat.le_refl _))
      replace K := Lib.hid (K.out.below hb (Nat.le_refl _))
      replace X := (X).below hb (by go_size)
      replace Y := (Y).below hb (by go_size)
      clear hb
      have s6 : w.heap.size ≤ w6.heap.size := B6.size
      clear X_c X_f X_l Y_c Y_f Y_l
      obtain ⟨X_c, X_f, X_l⟩ := id X
      obtain ⟨Y_c, Y_f, Y_l⟩ := id Y
      go_wp2_with fail
      refine wp_region_ord [0, 1, 2, 10, 11, 3, 4, 5, 6, 7, 8, 9, 12, 13, 14] (by kernel_rfl) (by kernel_rfl) ?_
      have B7 : Below w.heap.size w w6.drew := by go_grown
      have q7 : w6.heap.size + 0 ≤ w6.drew.heap.size := by simp only [World.size_drew]; omega
      replace H := Lib.hid (H.out.below (Below.refl _ _).drew (Nat.le_refl _))
      replace K := Lib.hid (K.out.below (Below.refl _ _).drew (Nat.le_refl _))
      replace X := X.drew
      replace Y := Y.drew
      clear X_c X_f X_l Y_c Y_f Y_l
      generalize w6.drew = w7 at *
      have s7 : w.heap.size ≤ w7.heap.size := B7.size
      obtain ⟨X_c, X_f, X_l⟩ := id X
      obtain ⟨Y_c, Y_f, Y_l⟩ := id Y
      repeat (first | (refine wpI_rd rfl rfl ?_; go_big_quiet_step (fail); refine wpQuiet_nil ?_) | (refine wpI_skip rfl rfl ?_; try simp only [Act.put, List.setIfInBounds_toArray, List.set_cons_zero, List.set_cons_succ]))
      try simp only [Act.put, List.setIfInBounds_toArray, List.set_cons_zero, List.set_cons_succ]
      refine wpI_call (f := 33) rfl rfl rfl (by simp [go_sem]; rfl) ?_
      refine (CA.out _ H.out K.out).mono ?_
      rintro e w8 ⟨rfl, hb⟩
      refine ⟨_, rfl, hb, ?_⟩
      skip
      have B8 : Below w.heap.size w w8 := bcall (by go_grown) hb (by go_size)
      have q8 : w7.heap.size + 0 ≤ w8.heap.size := by have z := hb.size; (try simp only [World.size_alloc, World.size_setCell, World.size_drew] at z); omega
      replace H := Lib.hid (H.out.below hb (Nat.le_refl _))
      replace K := Lib.hid (K.out.below hb (Nat.le_refl _))
      replace X := (X).below hb (by go_size)
      replace Y := (Y).below hb (by go_size)
      clear hb
      have s8 : w.heap.size ≤ w8.heap.size := B8.size
      clear X_c X_f X_l Y_c Y_f Y_l
      obtain ⟨X_c, X_f, X_l⟩ := id X
      obtain ⟨Y_c, Y_f, Y_l⟩ := id Y
      try simp only [Act.put, List.setIfInBounds_toArray, List.set_cons_zero, List.set_cons_succ]
      cases A1 with
      | true =>
        repeat (first | (refine wpI_rd rfl rfl ?_; go_big_quiet_step (fail); refine wpQuiet_nil ?_) | (refine wpI_skip rfl rfl ?_; try simp only [Act.put, List.setIfInBounds_toArray, List.set_cons_zero, List.set_cons_succ]))
        try simp only [Act.put, List.setIfInBounds_toArray, List.set_cons_zero, List.set_cons_succ]
        refine wpI_call (f := 33) rfl rfl rfl (by simp [go_sem]; rfl) ?_
        refine (CB.out _ H.out K.out).mono ?_
        rintro e w9 ⟨rfl, hb⟩
        refine ⟨_, rfl, hb, ?_⟩
        skip
        have B9 : Below w.heap.size w w9 := bcall (by go_grown) hb (by go_size)
        have q9 : w8.heap.size + 0 ≤ w9.heap.size := by have z := hb.size; (try simp only [World.size_alloc, World.size_setCell, World.size_drew] at z); omega
        replace H := Lib.hid (H.out.below hb (Nat.le_refl _))
        replace K := Lib.hid (K.out.below hb (Nat.le_refl _))
        replace X := (X).below hb (by go_size)
        replace Y := (Y).below hb (by go_size)
        clear hb
        have s9 : w.heap.size ≤ w9.heap.size := B9.size
        clear X_c X_f X_l Y_c Y_f Y_l
        obtain ⟨X_c, X_f, X_l⟩ := id X
        obtain ⟨Y_c, Y_f, Y_l⟩ := id Y
        try simp only [Act.put, List.setIfInBounds_toArray, List.set_cons_zero, List.set_cons_succ]
        cases A2 with
        | true =>
          repeat (first | (refine wpI_rd rfl rfl ?_; go_big_quiet_step (fail); refine wpQuiet_nil ?_) | (refine wpI_skip rfl rfl ?_; try simp only [Act.put, List.setIfInBounds_toArray, List.set_cons_zero, List.set_cons_succ]))
          try simp only [Act.put, List.setIfInBounds_toArray, List.set_cons_zero, List.set_cons_succ]
          refine wpI_call (f := 25) rfl rfl rfl (by simp [go_sem]; rfl) ?_
          refine (CS.out _ H.out K.out).mono ?_
          rintro e w10 ⟨⟨q, rfl, hq⟩, hb⟩
          refine ⟨_, rfl, hb, ?_⟩
          skip
          have B10 : Below w.heap.size w w10 := bcall (by go_grown) hb (by go_size)
          have q10 : w9.heap.size + 0 ≤ w10.heap.size := by have z := hb.size; (try simp only [World.size_alloc, World.size_setCell, World.size_drew] at z); omega
          replace H := Lib.hid (H.out.below hb (Nat.le_refl _))
          replace K := Lib.hid (K.out.below hb (Nat.le_refl _))
          replace X := (X).below hb (by go_size)
          replace Y := (Y).below hb (by go_size)
          clear hb
          have s10 : w.heap.size ≤ w10.heap.size := B10.size
          clear X_c X_f X_l Y_c Y_f Y_l
          obtain ⟨X_c, X_f, X_l⟩ := id X
          obtain ⟨Y_c, Y_f, Y_l⟩ := id Y
          try simp only [Act.put, List.setIfInBounds_toArray, List.set_cons_zero, List.set_cons_succ]
          cases q with
          | true =>
            repeat (first | (refine wpI_rd rfl rfl ?_; go_big_quiet_step (fail); refine wpQuiet_nil ?_) | (refine wpI_skip rfl rfl ?_; try simp only [Act.put, List.setIfInBounds_toArray, List.set_cons_zero, List.set_cons_succ]))
            try simp only [Act.put, List.setIfInBounds_toArray, List.set_cons_zero, List.set_cons_succ]
            refine wpI_nil ?_
            try simp only [Act.put, List.setIfInBounds_toArray, List.set_cons_zero, List.set_cons_succ]
            go_wp2_with fail
            go_ret
            exact ⟨by first | rfl | simp, by go_grown⟩
          | false =>
            exact absurd (hq.2 (SA.out.1 rfl)) (by first | decide | simp)
        | false =>
          repeat (first | (refine wpI_rd rfl rfl ?_; go_big_quiet_step (fail); refine wpQuiet_nil ?_) | (refine wpI_skip rfl rfl ?_; try simp only [Act.put, List.setIfInBounds_toArray, List.set_cons_zero, List.set_cons_succ]))
          try simp only [Act.put, List.setIfInBounds_toArray, List.set_cons_zero, List.set_cons_succ]
          refine wpI_call (f := 25) rfl rfl rfl (by simp [go_sem]; rfl) ?_
          refine (CS.out _ H.out K.out).mono ?_
          rintro e w10 ⟨⟨q, rfl, hq⟩, hb⟩
          refine ⟨_, rfl, hb, ?_⟩
          skip
          have B10 : Below w.heap.size w w10 := bcall (by go_grown) hb (by go_size)
          have q10 : w9.heap.size + 0 ≤ w10.heap.size := by have z := hb.size; (try simp only [World.size_alloc, World.size_setCell, World.size_drew] at z); omega
          replace H := Lib.hid (H.out.below hb (Nat.le_refl _))
          replace K := Lib.hid (K.out.below hb (Nat.le_refl _))
          replace X := (X).below hb (by go_size)
          replace Y := (Y).below hb (by go_size)
          clear hb
          have s10 : w.heap.size ≤ w10.heap.size := B10.size
          clear X_c X_f X_l Y_c Y_f Y_l
          obtain ⟨X_c, X_f, X_l⟩ := id X
          obtain ⟨Y_c, Y_f, Y_l⟩ := id Y
          try simp only [Act.put, List.setIfInBounds_toArray, List.set_cons_zero, List.set_cons_succ]
          cases q with
          | true =>
            exact absurd (SA.out.2 (hq.1 rfl)) (by first | decide | simp)
          | false =>
            repeat (first | (refine wpI_rd rfl rfl ?_; go_big_quiet_step (fail); refine wpQuiet_nil ?_) | (refine wpI_skip rfl rfl ?_; try simp only [Act.put, List.setIfInBounds_toArray, List.set_cons_zero, List.set_cons_succ]))
            try simp only [Act.put, List.setIfInBounds_toArray, List.set_cons_zero, List.set_cons_succ]
            refine wpI_nil ?_
            try simp only [Act.put, List.setIfInBounds_toArray, List.set_cons_zero, List.set_cons_succ]
            go_wp2_with fail
            go_ret
            exact ⟨by first | rfl | simp, by go_grown⟩
      | false =>
        repeat (first | (refine wpI_rd rfl rfl ?_; go_big_quiet_step (fail); refine wpQuiet_nil ?_) | (refine wpI_skip rfl rfl ?_; try simp only [Act.put, List.setIfInBounds_toArray, List.set_cons_zero, List.set_cons_succ]))
        try simp only [Act.put, List.setIfInBounds_toArray, List.set_cons_zero, List.set_cons_succ]
        refine wpI_call (f := 25) rfl rfl rfl (by simp [go_sem]; rfl) ?_
        refine (CS.out _ H.out K.out).mono ?_
        rintro e w9 ⟨⟨q, rfl, hq⟩, hb⟩
        refine ⟨_, rfl, hb, ?_⟩
        skip
        have B9 : Below w.heap.size w w9 := bcall (by go_grown) hb (by go_size)
        have q9 : w8.heap.size + 0 ≤ w9.heap.size := by have z := hb.size; (try simp only [World.size_alloc, World.size_setCell, World.size_drew] at z); omega
        replace H := Lib.hid (H.out.below hb (Nat.le_refl _))
        replace K := Lib.hid (K.out.below hb (Nat.le_refl _))
        replace X := (X).below hb (by go_size)
        replace Y := (Y).below hb (by go_size)
        clear hb
        have s9 : w.heap.size ≤ w9.heap.size := B9.size
        clear X_c X_f X_l Y_c Y_f Y_l
        obtain ⟨X_c, X_f, X_l⟩ := id X
        obtain ⟨Y_c, Y_f, Y_l⟩ := id Y
        try simp only [Act.put, List.setIfInBounds_toArray, List.set_cons_zero, List.set_cons_succ]
        cases q with
        | true =>
          exact absurd (SA.out.2 (hq.1 rfl)) (by first | decide | simp)
        | false =>
          repeat (first | (refine wpI_rd rfl rfl ?_; go_big_quiet_step (fail); refine wpQuiet_nil ?_) | (refine wpI_skip rfl rfl ?_; try simp only [Act.put, List.setIfInBounds_toArray, List.set_cons_zero, List.set_cons_succ]))
          try simp only [Act.put, List.setIfInBounds_toArray, List.set_cons_zero, List.set_cons_succ]
          refine wpI_nil ?_
          try simp only [Act.put, List.setIfInBounds_toArray, List.set_cons_zero, List.set_cons_succ]
          go_wp2_with fail
          go_ret
          exact ⟨by first | rfl | simp, by go_grown⟩
theorem VerrangeRepresentationsAreUnique_any (r t : List Pl.Ivl) (a b : Option Addr) (c d : Nat) (w : World) (h1 : RIn w r a c) (h2 : RIn w t b d) (EN : Env w) : Calls Tryz.prog 9 #[.agg #[.slice a r.length c], .agg #[.slice b t.length d]] w fun e w' => e = .returned (.bool true) ∧ Below w.heap.size w w' := by
  by_cases f1 : (Pl.rngF r).1 = 0
  · by_cases f2 : (Pl.rngF t).1 = 0
    · exact vru_c r t a b c d w h1 h2 EN (Pl.rng_zero f1) (Pl.rng_zero f2)
    · exact vru_b r t a b c d w h1 h2 EN (Pl.rng_zero f1) _ _ rfl f2
  · exact vru_a r t a b c d w h1 h2 EN _ _ rfl f1
end Go.Proofs.YtjfkmbehckdjlaaGreatDoor
