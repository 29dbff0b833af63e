/- Contracts: the zero version; an interval by itself. -/
import Derived.Test.YtjfkmbehckdjlaaGreatDoorMKo
namespace Go.Proofs.YtjfkmbehckdjlaaGreatDoor
open Go.RowKit

abbrev ivV (x : Pl.Ivl) (a b : Option Addr) (c d : Nat) : Value := .agg #[.int .i64 x.lo.maj, .int .i64 x.lo.min, .int .i64 x.lo.pat, .slice a x.lo.pre.length c, .int .i64 x.hi.maj, .int .i64 x.hi.min, .int .i64 x.hi.pat, .slice b x.hi.pre.length d, .bool x.un]
theorem Zero_any (v : Pl.Ver) (a : Option Addr) (c : Nat) (w : World) :
    Calls Tryz.prog 74 #[verV v a c] w fun e w' => e = .returned (.bool (Pl.zeroB v)) ∧ Below w.heap.size w w' := by
  have key : ∀ b1 b2 b3 b4 : Bool, decide (v.maj = 0) = b1 → decide (v.min = 0) = b2 → decide (v.pat = 0) = b3 → decide (v.pre.length = 0) = b4 → Hid ((b1 && b2 && b3 && b4) = Pl.zeroB v) := fun b1 b2 b3 b4 e1 e2 e3 e4 => Lib.hid (by subst e1 e2 e3 e4; rfl)
  by_cases h0 : v.maj = 0
  · by_cases h1 : v.min = 0
    · by_cases h2 : v.pat = 0
      · by_cases h3 : v.pre.length = 0
        · have E := key true true true true (decide_eq_true h0) (decide_eq_true h1) (decide_eq_true h2) (decide_eq_true h3)
          have t0 := beqT h0
          have t1 := beqT h1
          have t2 := beqT h2
          have t3 : ((v.pre.length : Int) == 0) = true := beqT (by omega)
          clear key h0 h1 h2 h3
          go_enter Tryz.func74, Tryz.ntmps74
          go_wp2_with fail
          go_ret
          exact ⟨ret_bool (by rw [← E.out]; simp), by go_grown⟩
        · have E := key true true true false (decide_eq_true h0) (decide_eq_true h1) (decide_eq_true h2) (decide_eq_false h3)
          have t0 := beqT h0
          have t1 := beqT h1
          have t2 := beqT h2
          have t3 : ((v.pre.length : Int) == 0) = false := beqF (by omega)
          clear key h0 h1 h2 h3
          go_enter Tryz.func74, Tryz.ntmps74
          go_wp2_with fail
          go_ret
          exact ⟨ret_bool (by rw [← E.out]; simp), by go_grown⟩
      · have E := key true true false _ (decide_eq_true h0) (decide_eq_true h1) (decide_eq_false h2) rfl
        have t0 := beqT h0
        have t1 := beqT h1
        have t2 := beqF h2
        clear key h0 h1 h2
        go_enter Tryz.func74, Tryz.ntmps74
        go_wp2_with fail
        go_ret
        exact ⟨ret_bool (by rw [← E.out]; simp), by go_grown⟩
    · have E := key true false _ _ (decide_eq_true h0) (decide_eq_false h1) rfl rfl
      have t0 := beqT h0
      have t1 := beqF h1
      clear key h0 h1
      go_enter Tryz.func74, Tryz.ntmps74
      go_wp2_with fail
      go_ret
      exact ⟨ret_bool (by rw [← E.out]; simp), by go_grown⟩
  · have E := key false _ _ _ (decide_eq_false h0) rfl rfl rfl
    have t0 := beqF h0
    clear key h0
    go_enter Tryz.func74, Tryz.ntmps74
    go_wp2_with fail
    go_ret
    exact ⟨ret_bool (by rw [← E.out]; simp), by go_grown⟩
set_option maxHeartbeats 1000000 in
theorem check_lo (x : Pl.Ivl) (a b : Option Addr) (c d : Nat) (w : World) (h1 : VIn w x.lo a c) (h2 : VIn w x.hi b d) (f1 f2 : Int) (hf : f1 ≠ 0) (e1 : Pl.vrF x.lo = (f1, f2)) :
    Calls Tryz.prog 43 #[ivV x a b c d] w fun e w' => e = .returned (.int .i64 (Pl.chkI x)) ∧ Below w.heap.size w w' := by
  have E : Hid (f1 = Pl.chkI x) := Lib.hid (Eq.symm (by unfold Pl.chkI; rw [e1, if_pos hf]))
  have u1 := bneT hf
  have u2 := beqF hf
  clear hf
  have C1 := Lib.hid (fun (W : World) (g : VIn W x.lo a c) => Validate_any x.lo a c W g)
  rw [e1] at C1
  simp only [fltV] at C1
  have L := Lib.hid h1
  have R := Lib.hid h2
  clear h1 h2 e1
  go_enter Tryz.func43, Tryz.ntmps43
  have B0 : Below w.heap.size w w := Below.refl _ _
  go_wp2_with fail
  refine (C1.out _ (L.out.below (by go_grown) (Nat.le_refl _))).mono ?_
  rintro e w1 ⟨rfl, hb⟩
  have B1 : Below w.heap.size w w1 := bcall (by go_grown) hb (by go_size)
  have q1 : w.heap.size + 1 ≤ w1.heap.size := by have z := hb.size; (try simp only [World.size_alloc] at z); omega
  replace L := Lib.hid ((L.out.below (Below.refl _ _ |>.alloc (Nat.le_refl _) _) (Nat.le_refl _)).below hb (Nat.le_refl _))
  replace R := Lib.hid ((R.out.below (Below.refl _ _ |>.alloc (Nat.le_refl _) _) (Nat.le_refl _)).below hb (Nat.le_refl _))
  have X := ((Bk.new (r := w.heap.size) (cs := [.int .i64 x.lo.maj, .int .i64 x.lo.min, .int .i64 x.lo.pat, .slice a x.lo.pre.length c, .int .i64 x.hi.maj, .int .i64 x.hi.min, .int .i64 x.hi.pat, .slice b x.hi.pre.length d, .bool x.un]) _ 58 (by simp))).below hb (by go_size)
  clear hb
  have s1 : w.heap.size ≤ w1.heap.size := B1.size
  obtain ⟨X_c, X_f, X_l⟩ := id X
  go_wp2_with fail
  go_ret
  exact ⟨ret_int E.out, by go_grown⟩
set_option maxHeartbeats 1000000 in
theorem check_un (x : Pl.Ivl) (a b : Option Addr) (c d : Nat) (w : World) (h1 : VIn w x.lo a c) (h2 : VIn w x.hi b d) (e1 : Pl.vrF x.lo = (0, 0)) (hu : x.un = true) (z : Bool) (hz : Pl.zeroB x.hi = z) :
    Calls Tryz.prog 43 #[ivV x a b c d] w fun e w' => e = .returned (.int .i64 (Pl.chkI x)) ∧ Below w.heap.size w w' := by
  have E : Hid ((if z = true then 0 else 5) = Pl.chkI x) := Lib.hid (Eq.symm (by unfold Pl.chkI; rw [e1, if_neg (by decide), if_pos hu, hz]))
  have C1 := Lib.hid (fun (W : World) (g : VIn W x.lo a c) => Validate_any x.lo a c W g)
  rw [e1] at C1
  simp only [fltV] at C1
  have C2 := Lib.hid (fun (W : World) => Zero_any x.hi b d W)
  rw [hz] at C2
  clear hz
  have L := Lib.hid h1
  have R := Lib.hid h2
  clear h1 h2 e1
  unfold ivV
  rw [hu]
  clear hu
  go_enter Tryz.func43, Tryz.ntmps43
  have B0 : Below w.heap.size w w := Below.refl _ _
  go_wp2_with fail
  refine (C1.out _ (L.out.below (by go_grown) (Nat.le_refl _))).mono ?_
  rintro e w1 ⟨rfl, hb⟩
  have B1 : Below w.heap.size w w1 := bcall (by go_grown) hb (by go_size)
  have q1 : w.heap.size + 1 ≤ w1.heap.size := by have z := hb.size; (try simp only [World.size_alloc] at z); omega
  replace L := Lib.hid ((L.out.below (Below.refl _ _ |>.alloc (Nat.le_refl _) _) (Nat.le_refl _)).below hb (Nat.le_refl _))
  replace R := Lib.hid ((R.out.below (Below.refl _ _ |>.alloc (Nat.le_refl _) _) (Nat.le_refl _)).below hb (Nat.le_refl _))
  have X := ((Bk.new (r := w.heap.size) (cs := [.int .i64 x.lo.maj, .int .i64 x.lo.min, .int .i64 x.lo.pat, .slice a x.lo.pre.length c, .int .i64 x.hi.maj, .int .i64 x.hi.min, .int .i64 x.hi.pat, .slice b x.hi.pre.length d, .bool true]) _ 58 (by simp))).below hb (by go_size)
  clear hb
  have s1 : w.heap.size ≤ w1.heap.size := B1.size
  obtain ⟨X_c, X_f, X_l⟩ := id X
  go_wp2_with fail
  refine (C2.out _).mono ?_
  rintro e w2 ⟨rfl, hb⟩
  have B2 : Below w.heap.size w w2 := bcall (by go_grown) hb (by go_size)
  have q2 : w1.heap.size + 1 ≤ w2.heap.size := by have z := hb.size; (try simp only [World.size_alloc] at z); omega
  replace L := Lib.hid ((L.out.below (Below.refl _ _ |>.alloc (Nat.le_refl _) _) (Nat.le_refl _)).below hb (Nat.le_refl _))
  replace R := Lib.hid ((R.out.below (Below.refl _ _ |>.alloc (Nat.le_refl _) _) (Nat.le_refl _)).below hb (Nat.le_refl _))
  replace X := ((X.alloc _)).below hb (by go_size)
  clear hb
  have s2 : w.heap.size ≤ w2.heap.size := B2.size
  clear X_c X_f X_l
  obtain ⟨X_c, X_f, X_l⟩ := id X
  cases z
  all_goals (go_wp2_with fail; go_ret; exact ⟨ret_int (by rw [← E.out]; rfl), by go_grown⟩)
set_option maxHeartbeats 1000000 in
theorem check_hi (x : Pl.Ivl) (a b : Option Addr) (c d : Nat) (w : World) (h1 : VIn w x.lo a c) (h2 : VIn w x.hi b d) (e1 : Pl.vrF x.lo = (0, 0)) (hu : x.un = false) (f1 f2 : Int) (hf : f1 ≠ 0) (e2 : Pl.vrF x.hi = (f1, f2)) :
    Calls Tryz.prog 43 #[ivV x a b c d] w fun e w' => e = .returned (.int .i64 (Pl.chkI x)) ∧ Below w.heap.size w w' := by
  have E : Hid (f1 = Pl.chkI x) := Lib.hid (Eq.symm (by unfold Pl.chkI; rw [e1, if_neg (by decide), if_neg (by rw [hu]; decide), e2, if_pos hf]))
  have u1 := bneT hf
  have u2 := beqF hf
  clear hf
  have C1 := Lib.hid (fun (W : World) (g : VIn W x.lo a c) => Validate_any x.lo a c W g)
  rw [e1] at C1
  simp only [fltV] at C1
  have C2 := Lib.hid (fun (W : World) (g : VIn W x.hi b d) => Validate_any x.hi b d W g)
  rw [e2] at C2
  simp only [fltV] at C2
  clear e2
  have L := Lib.hid h1
  have R := Lib.hid h2
  clear h1 h2 e1
  unfold ivV
  rw [hu]
  clear hu
  go_enter Tryz.func43, Tryz.ntmps43
  have B0 : Below w.heap.size w w := Below.refl _ _
  go_wp2_with fail
  refine (C1.out _ (L.out.below (by go_grown) (Nat.le_refl _))).mono ?_
  rintro e w1 ⟨rfl, hb⟩
  have B1 : Below w.heap.size w w1 := bcall (by go_grown) hb (by go_size)
  have q1 : w.heap.size + 1 ≤ w1.heap.size := by have z := hb.size; (try simp only [World.size_alloc] at z); omega
  replace L := Lib.hid ((L.out.below (Below.refl _ _ |>.alloc (Nat.le_refl _) _) (Nat.le_refl _)).below hb (Nat.le_refl _))
  replace R := Lib.hid ((R.out.below (Below.refl _ _ |>.alloc (Nat.le_refl _) _) (Nat.le_refl _)).below hb (Nat.le_refl _))
  have X := ((Bk.new (r := w.heap.size) (cs := [.int .i64 x.lo.maj, .int .i64 x.lo.min, .int .i64 x.lo.pat, .slice a x.lo.pre.length c, .int .i64 x.hi.maj, .int .i64 x.hi.min, .int .i64 x.hi.pat, .slice b x.hi.pre.length d, .bool false]) _ 58 (by simp))).below hb (by go_size)
  clear hb
  have s1 : w.heap.size ≤ w1.heap.size := B1.size
  obtain ⟨X_c, X_f, X_l⟩ := id X
  go_wp2_with fail
  refine (C2.out _ (R.out.below (by go_grown) (Nat.le_refl _))).mono ?_
  rintro e w2 ⟨rfl, hb⟩
  have B2 : Below w.heap.size w w2 := bcall (by go_grown) hb (by go_size)
  have q2 : w1.heap.size + 1 ≤ w2.heap.size := by have z := hb.size; (try simp only [World.size_alloc] at z); omega
  replace L := Lib.hid ((L.out.below (Below.refl _ _ |>.alloc (Nat.le_refl _) _) (Nat.le_refl _)).below hb (Nat.le_refl _))
  replace R := Lib.hid ((R.out.below (Below.refl _ _ |>.alloc (Nat.le_refl _) _) (Nat.le_refl _)).below hb (Nat.le_refl _))
  replace X := ((X.alloc _)).below hb (by go_size)
  clear hb
  have s2 : w.heap.size ≤ w2.heap.size := B2.size
  clear X_c X_f X_l
  obtain ⟨X_c, X_f, X_l⟩ := id X
  go_wp2_with fail
  go_ret
  exact ⟨ret_int E.out, by go_grown⟩
set_option maxHeartbeats 1000000 in
theorem check_ok (x : Pl.Ivl) (a b : Option Addr) (c d : Nat) (w : World) (h1 : VIn w x.lo a c) (h2 : VIn w x.hi b d) (e1 : Pl.vrF x.lo = (0, 0)) (hu : x.un = false) (e2 : Pl.vrF x.hi = (0, 0)) (k : Int) (hk : Pl.verCmp x.lo x.hi = k) :
    Calls Tryz.prog 43 #[ivV x a b c d] w fun e w' => e = .returned (.int .i64 (Pl.chkI x)) ∧ Below w.heap.size w w' := by
  have E : Hid ((if 0 ≤ k then 5 else 0) = Pl.chkI x) := Lib.hid (Eq.symm (by unfold Pl.chkI; rw [e1, if_neg (by decide), if_neg (by rw [hu]; decide), e2, if_neg (by decide), hk]))
  have CO := Lib.hid (fun (W : World) (g1 : VIn W x.lo a c) (g2 : VIn W x.hi b d) => Order_any x.lo x.hi a b c d W (VOk.of g1 (Pl.vr_ok (by rw [e1]))) (VOk.of g2 (Pl.vr_ok (by rw [e2]))))
  rw [hk] at CO
  clear hk
  have C1 := Lib.hid (fun (W : World) (g : VIn W x.lo a c) => Validate_any x.lo a c W g)
  rw [e1] at C1
  simp only [fltV] at C1
  have C2 := Lib.hid (fun (W : World) (g : VIn W x.hi b d) => Validate_any x.hi b d W g)
  rw [e2] at C2
  simp only [fltV] at C2
  clear e2
  have L := Lib.hid h1
  have R := Lib.hid h2
  clear h1 h2 e1
  unfold ivV
  rw [hu]
  clear hu
  go_enter Tryz.func43, Tryz.ntmps43
  have B0 : Below w.heap.size w w := Below.refl _ _
  go_wp2_with fail
  refine (C1.out _ (L.out.below (by go_grown) (Nat.le_refl _))).mono ?_
  rintro e w1 ⟨rfl, hb⟩
  have B1 : Below w.heap.size w w1 := bcall (by go_grown) hb (by go_size)
  have q1 : w.heap.size + 1 ≤ w1.heap.size := by have z := hb.size; (try simp only [World.size_alloc] at z); omega
  replace L := Lib.hid ((L.out.below (Below.refl _ _ |>.alloc (Nat.le_refl _) _) (Nat.le_refl _)).below hb (Nat.le_refl _))
  replace R := Lib.hid ((R.out.below (Below.refl _ _ |>.alloc (Nat.le_refl _) _) (Nat.le_refl _)).below hb (Nat.le_refl _))
  have X := ((Bk.new (r := w.heap.size) (cs := [.int .i64 x.lo.maj, .int .i64 x.lo.min, .int .i64 x.lo.pat, .slice a x.lo.pre.length c, .int .i64 x.hi.maj, .int .i64 x.hi.min, .int .i64 x.hi.pat, .slice b x.hi.pre.length d, .bool false]) _ 58 (by simp))).below hb (by go_size)
  clear hb
  have s1 : w.heap.size ≤ w1.heap.size := B1.size
  obtain ⟨X_c, X_f, X_l⟩ := id X
  go_wp2_with fail
  refine (C2.out _ (R.out.below (by go_grown) (Nat.le_refl _))).mono ?_
  rintro e w2 ⟨rfl, hb⟩
  have B2 : Below w.heap.size w w2 := bcall (by go_grown) hb (by go_size)
  have q2 : w1.heap.size + 1 ≤ w2.heap.size := by have z := hb.size; (try simp only [World.size_alloc] at z); omega
  replace L := Lib.hid ((L.out.below (Below.refl _ _ |>.alloc (Nat.le_refl _) _) (Nat.le_refl _)).below hb (Nat.le_refl _))
  replace R := Lib.hid ((R.out.below (Below.refl _ _ |>.alloc (Nat.le_refl _) _) (Nat.le_refl _)).below hb (Nat.le_refl _))
  replace X := ((X.alloc _)).below hb (by go_size)
  clear hb
  have s2 : w.heap.size ≤ w2.heap.size := B2.size
  clear X_c X_f X_l
  obtain ⟨X_c, X_f, X_l⟩ := id X
  go_wp2_with fail
  refine (CO.out _ (L.out.below (by go_grown) (Nat.le_refl _)) (R.out.below (by go_grown) (Nat.le_refl _))).mono ?_
  rintro e w3 ⟨rfl, hb⟩
  have B3 : Below w.heap.size w w3 := bcall (by go_grown) hb (by go_size)
  have q3 : w2.heap.size + 1 ≤ w3.heap.size := by have z := hb.size; (try simp only [World.size_alloc] at z); omega
  replace L := Lib.hid ((L.out.below (Below.refl _ _ |>.alloc (Nat.le_refl _) _) (Nat.le_refl _)).below hb (Nat.le_refl _))
  replace R := Lib.hid ((R.out.below (Below.refl _ _ |>.alloc (Nat.le_refl _) _) (Nat.le_refl _)).below hb (Nat.le_refl _))
  replace X := ((X.alloc _)).below hb (by go_size)
  clear hb
  have s3 : w.heap.size ≤ w3.heap.size := B3.size
  clear X_c X_f X_l
  obtain ⟨X_c, X_f, X_l⟩ := id X
  by_cases hk : 0 ≤ k
  · have t1 : decide ((0 : Int) ≤ k) = true := decide_eq_true hk
    replace E := Lib.hid (E.out.symm.trans (if_pos hk)).symm
    clear hk
    go_wp2_with fail
    go_ret
    exact ⟨ret_int E.out, by go_grown⟩
  · have t1 : decide ((0 : Int) ≤ k) = false := decide_eq_false hk
    replace E := Lib.hid (E.out.symm.trans (if_neg hk)).symm
    clear hk
    go_wp2_with fail
    go_ret
    exact ⟨ret_int E.out, by go_grown⟩
theorem check_any (x : Pl.Ivl) (a b : Option Addr) (c d : Nat) (w : World) (h1 : VIn w x.lo a c) (h2 : VIn w x.hi b d) :
    Calls Tryz.prog 43 #[ivV x a b c d] w fun e w' => e = .returned (.int .i64 (Pl.chkI x)) ∧ Below w.heap.size w w' := by
  by_cases f1 : (Pl.vrF x.lo).1 = 0
  · cases hu : x.un with
    | true => exact check_un x a b c d w h1 h2 (Pl.vr_zero f1) hu _ rfl
    | false =>
      by_cases f2 : (Pl.vrF x.hi).1 = 0
      · exact check_ok x a b c d w h1 h2 (Pl.vr_zero f1) hu (Pl.vr_zero f2) _ rfl
      · exact check_hi x a b c d w h1 h2 (Pl.vr_zero f1) hu _ _ f2 rfl
  · exact check_lo x a b c d w h1 h2 _ _ f1 rfl
end Go.Proofs.YtjfkmbehckdjlaaGreatDoor
