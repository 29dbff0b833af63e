/- Texts joined: Dc Dd. -/
import Derived.Test.YtgngehfgcogceaaGreatDoorZMKo
section
/- Contracts: the zero version; an interval by itself. -/
namespace Go.Proofs.YtgngehfgcogceaaGreatDoor
open Go.RowKit

abbrev ivV (x : Pl.Ivl) (a b : Option Addr) (c d : Nat) : Value := .agg #[.int .i64 x.lo.maj, .int .i64 x.lo.min, .int .i64 x.lo.pat, .slice a x.lo.pre.length c, .int .i64 x.hi.maj, .int .i64 x.hi.min, .int .i64 x.hi.pat, .slice b x.hi.pre.length d, .bool x.un]
theorem Zero_any (v : Pl.Ver) (a : Option Addr) (c : Nat) (w : World) :
    Calls Tryz.prog 66 #[verV v a c] w fun e w' => e = .returned (.bool (Pl.zeroB v)) ∧ Below w.heap.size w w' := by
  have key : ∀ b1 b2 b3 b4 : Bool, decide (v.maj = 0) = b1 → decide (v.min = 0) = b2 → decide (v.pat = 0) = b3 → decide (v.pre.length = 0) = b4 → Hid ((b1 && b2 && b3 && b4) = Pl.zeroB v) := fun b1 b2 b3 b4 e1 e2 e3 e4 => Lib.hid (by subst e1 e2 e3 e4; rfl)
  by_cases h0 : v.maj = 0
  · by_cases h1 : v.min = 0
    · by_cases h2 : v.pat = 0
      · by_cases h3 : v.pre.length = 0
        · have E := key true true true true (decide_eq_true h0) (decide_eq_true h1) (decide_eq_true h2) (decide_eq_true h3)
          have t0 := beqT h0
          have t1 := beqT h1
          have t2 := beqT h2
          have t3 : ((v.pre.length : Int) == 0) = true := beqT (by omega)
          clear key h0 h1 h2 h3
          go_enter Tryz.func66, Tryz.ntmps66
          go_wp2_with fail
          go_ret
          exact ⟨ret_bool (by rw [← E.out]; simp), by go_grown⟩
        · have E := key true true true false (decide_eq_true h0) (decide_eq_true h1) (decide_eq_true h2) (decide_eq_false h3)
          have t0 := beqT h0
          have t1 := beqT h1
          have t2 := beqT h2
          have t3 : ((v.pre.length : Int) == 0) = false := beqF (by omega)
          clear key h0 h1 h2 h3
          go_enter Tryz.func66, Tryz.ntmps66
          go_wp2_with fail
          go_ret
          exact ⟨ret_bool (by rw [← E.out]; simp), by go_grown⟩
      · have E := key true true false _ (decide_eq_true h0) (decide_eq_true h1) (decide_eq_false h2) rfl
        have t0 := beqT h0
        have t1 := beqT h1
        have t2 := beqF h2
        clear key h0 h1 h2
        go_enter Tryz.func66, Tryz.ntmps66
        go_wp2_with fail
        go_ret
        exact ⟨ret_bool (by rw [← E.out]; simp), by go_grown⟩
    · have E := key true false _ _ (decide_eq_true h0) (decide_eq_false h1) rfl rfl
      have t0 := beqT h0
      have t1 := beqF h1
      clear key h0 h1
      go_enter Tryz.func66, Tryz.ntmps66
      go_wp2_with fail
      go_ret
      exact ⟨ret_bool (by rw [← E.out]; simp), by go_grown⟩
  · have E := key false _ _ _ (decide_eq_false h0) rfl rfl rfl
    have t0 := beqF h0
    clear key h0
    go_enter Tryz.func66, Tryz.ntmps66
    go_wp2_with fail
    go_ret
    exact ⟨ret_bool (by rw [← E.out]; simp), by go_grown⟩
set_option maxHeartbeats 1000000 in
theorem check_lo (x : Pl.Ivl) (a b : Option Addr) (c d : Nat) (w : World) (h1 : VIn w x.lo a c) (h2 : VIn w x.hi b d) (f1 f2 : Int) (hf : f1 ≠ 0) (e1 : Pl.vrF x.lo = (f1, f2)) :
    Calls Tryz.prog 45 #[ivV x a b c d] w fun e w' => e = .returned (.int .i64 (Pl.chkI x)) ∧ Below w.heap.size w w' := by
  have E : Hid (f1 = Pl.chkI x) := Lib.hid (Eq.symm (by unfold Pl.chkI; rw [e1, if_pos hf]))
  have u1 := bneT hf
  have u2 := beqF hf
  clear hf
  have C1 := Lib.hid (fun (W : World) (g : VIn W x.lo a c) => Validate_any x.lo a c W g)
  rw [e1] at C1
  simp only [fltV] at C1
  have L := Lib.hid h1
  have R := Lib.hid h2
  clear h1 h2 e1
  go_enter Tryz.func45, Tryz.ntmps45
  have B0 : Below w.heap.size w w := Below.refl _ _
  go_wp2_with fail
  refine (C1.out _ (L.out.below (by go_grown) (Nat.le_refl _))).mono ?_
  rintro e w1 ⟨rfl, hb⟩
  have B1 : Below w.heap.size w w1 := bcall (by go_grown) hb (by go_size)
  have q1 : w.heap.size + 1 ≤ w1.heap.size := by have z := hb.size; (try simp only [World.size_alloc] at z); omega
  replace L := Lib.hid ((L.out.below (Below.refl _ _ |>.alloc (Nat.le_refl _) _) (Nat.le_refl _)).below hb (Nat.le_refl _))
  replace R := Lib.hid ((R.out.below (Below.refl _ _ |>.alloc (Nat.le_refl _) _) (Nat.le_refl _)).below hb (Nat.le_refl _))
  have X := ((Bk.new (r := w.heap.size) (cs := [.int .i64 x.lo.maj, .int .i64 x.lo.min, .int .i64 x.lo.pat, .slice a x.lo.pre.length c, .int .i64 x.hi.maj, .int .i64 x.hi.min, .int .i64 x.hi.pat, .slice b x.hi.pre.length d, .bool x.un]) _ 103 (by simp))).below hb (by go_size)
  clear hb
  have s1 : w.heap.size ≤ w1.heap.size := B1.size
  obtain ⟨X_c, X_f, X_l⟩ := id X
  go_wp2_with fail
  go_ret
  exact ⟨ret_int E.out, by go_grown⟩
set_option maxHeartbeats 1000000 in
theorem check_un (x : Pl.Ivl) (a b : Option Addr) (c d : Nat) (w : World) (h1 : VIn w x.lo a c) (h2 : VIn w x.hi b d) (e1 : Pl.vrF x.lo = (0, 0)) (hu : x.un = true) (z : Bool) (hz : Pl.zeroB x.hi = z) :
    Calls Tryz.prog 45 #[ivV x a b c d] w fun e w' => e = .returned (.int .i64 (Pl.chkI x)) ∧ Below w.heap.size w w' := by
  have E : Hid ((if z = true then 0 else 5) = Pl.chkI x) := Lib.hid (Eq.symm (by unfold Pl.chkI; rw [e1, if_neg (by decide), if_pos hu, hz]))
  have C1 := Lib.hid (fun (W : World) (g : VIn W x.lo a c) => Validate_any x.lo a c W g)
  rw [e1] at C1
  simp only [fltV] at C1
  have C2 := Lib.hid (fun (W : World) => Zero_any x.hi b d W)
  rw [hz] at C2
  clear hz
  have L := Lib.hid h1
  have R := Lib.hid h2
  clear h1 h2 e1
  unfold ivV
  rw [hu]
  clear hu
  go_enter Tryz.func45, Tryz.ntmps45
  have B0 : Below w.heap.size w w := Below.refl _ _
  go_wp2_with fail
  refine (C1.out _ (L.out.below (by go_grown) (Nat.le_refl _))).mono ?_
  rintro e w1 ⟨rfl, hb⟩
  have B1 : Below w.heap.size w w1 := bcall (by go_grown) hb (by go_size)
  have q1 : w.heap.size + 1 ≤ w1.heap.size := by have z := hb.size; (try simp only [World.size_alloc] at z); omega
  replace L := Lib.hid ((L.out.below (Below.refl _ _ |>.alloc (Nat.le_refl _) _) (Nat.le_refl _)).below hb (Nat.le_refl _))
  replace R := Lib.hid ((R.out.below (Below.refl _ _ |>.alloc (Nat.le_refl _) _) (Nat.le_refl _)).below hb (Nat.le_refl _))
  have X := ((Bk.new (r := w.heap.size) (cs := [.int .i64 x.lo.maj, .int .i64 x.lo.min, .int .i64 x.lo.pat, .slice a x.lo.pre.length c, .int .i64 x.hi.maj, .int .i64 x.hi.min, .int .i64 x.hi.pat, .slice b x.hi.pre.length d, .bool true]) _ 103 (by simp))).below hb (by go_size)
  clear hb
  have s1 : w.heap.size ≤ w1.heap.size := B1.size
  obtain ⟨X_c, X_f, X_l⟩ := id X
  go_wp2_with fail
  refine (C2.out _).mono ?_
  rintro e w2 ⟨rfl, hb⟩
  have B2 : Below w.heap.size w w2 := bcall (by go_grown) hb (by go_size)
  have q2 : w1.heap.size + 1 ≤ w2.heap.size := by have z := hb.size; (try simp only [World.size_alloc] at z); omega
  replace L := Lib.hid ((L.out.below (Below.refl _ _ |>.alloc (Nat.le_refl _) _) (Nat.le_refl _)).below hb (Nat.le_refl _))
  replace R := Lib.hid ((R.out.below (Below.refl _ _ |>.alloc (Nat.le_refl _) _) (Nat.le_refl _)).below hb (Nat.le_refl _))
  replace X := ((X.alloc _)).below hb (by go_size)
  clear hb
  have s2 : w.heap.size ≤ w2.heap.size := B2.size
  clear X_c X_f X_l
  obtain ⟨X_c, X_f, X_l⟩ := id X
  cases z
  all_goals (go_wp2_with fail; go_ret; exact ⟨ret_int (by rw [← E.out]; rfl), by go_grown⟩)
set_option maxHeartbeats 1000000 in
theorem check_hi (x : Pl.Ivl) (a b : Option Addr) (c d : Nat) (w : World) (h1 : VIn w x.lo a c) (h2 : VIn w x.hi b d) (e1 : Pl.vrF x.lo = (0, 0)) (hu : x.un = false) (f1 f2 : Int) (hf : f1 ≠ 0) (e2 : Pl.vrF x.hi = (f1, f2)) :
    Calls Tryz.prog 45 #[ivV x a b c d] w fun e w' => e = .returned (.int .i64 (Pl.chkI x)) ∧ Below w.heap.size w w' := by
  have E : Hid (f1 = Pl.chkI x) := Lib.hid (Eq.symm (by unfold Pl.chkI; rw [e1, if_neg (by decide), if_neg (by rw [hu]; decide), e2, if_pos hf]))
  have u1 := bneT hf
  have u2 := beqF hf
  clear hf
  have C1 := Lib.hid (fun (W : World) (g : VIn W x.lo a c) => Validate_any x.lo a c W g)
  rw [e1] at C1
  simp only [fltV] at C1
  have C2 := Lib.hid (fun (W : World) (g : VIn W x.hi b d) => Validate_any x.hi b d W g)
  rw [e2] at C2
  simp only [fltV] at C2
  clear e2
  have L := Lib.hid h1
  have R := Lib.hid h2
  clear h1 h2 e1
  unfold ivV
  rw [hu]
  clear hu
  go_enter Tryz.func45, Tryz.ntmps45
  have B0 : Below w.heap.size w w := Below.refl _ _
  go_wp2_with fail
  refine (C1.out _ (L.out.below (by go_grown) (Nat.le_refl _))).mono ?_
  rintro e w1 ⟨rfl, hb⟩
  have B1 : Below w.heap.size w w1 := bcall (by go_grown) hb (by go_size)
  have q1 : w.heap.size + 1 ≤ w1.heap.size := by have z := hb.size; (try simp only [World.size_alloc] at z); omega
  replace L := Lib.hid ((L.out.below (Below.refl _ _ |>.alloc (Nat.le_refl _) _) (Nat.le_refl _)).below hb (Nat.le_refl _))
  replace R := Lib.hid ((R.out.below (Below.refl _ _ |>.alloc (Nat.le_refl _) _) (Nat.le_refl _)).below hb (Nat.le_refl _))
  have X := ((Bk.new (r := w.heap.size) (cs := [.int .i64 x.lo.maj, .int .i64 x.lo.min, .int .i64 x.lo.pat, .slice a x.lo.pre.length c, .int .i64 x.hi.maj, .int .i64 x.hi.min, .int .i64 x.hi.pat, .slice b x.hi.pre.length d, .bool false]) _ 103 (by simp))).below hb (by go_size)
  clear hb
  have s1 : w.heap.size ≤ w1.heap.size := B1.size
  obtain ⟨X_c, X_f, X_l⟩ := id X
  go_wp2_with fail
  refine (C2.out _ (R.out.below (by go_grown) (Nat.le_refl _))).mono ?_
  rintro e w2 ⟨rfl, hb⟩
  have B2 : Below w.heap.size w w2 := bcall (by go_grown) hb (by go_size)
  have q2 : w1.heap.size + 1 ≤ w2.heap.size := by have z := hb.size; (try simp only [World.size_alloc] at z); omega
  replace L := Lib.hid ((L.out.below (Below.refl _ _ |>.alloc (Nat.le_refl _) _) (Nat.le_refl _)).below hb (Nat.le_refl _))
  replace R := Lib.hid ((R.out.below (Below.refl _ _ |>.alloc (Nat.le_refl _) _) (Nat.le_refl _)).below hb (Nat.le_refl _))
  replace X := ((X.alloc _)).below hb (by go_size)
  clear hb
  have s2 : w.heap.size ≤ w2.heap.size := B2.size
  clear X_c X_f X_l
  obtain ⟨X_c, X_f, X_l⟩ := id X
  go_wp2_with fail
  go_ret
  exact ⟨ret_int E.out, by go_grown⟩
set_option maxHeartbeats 1000000 in
theorem check_ok (x : Pl.Ivl) (a b : Option Addr) (c d : Nat) (w : World) (h1 : VIn w x.lo a c) (h2 : VIn w x.hi b d) (e1 : Pl.vrF x.lo = (0, 0)) (hu : x.un = false) (e2 : Pl.vrF x.hi = (0, 0)) (k : Int) (hk : Pl.verCmp x.lo x.hi = k) :
    Calls Tryz.prog 45 #[ivV x a b c d] w fun e w' => e = .returned (.int .i64 (Pl.chkI x)) ∧ Below w.heap.size w w' := by
  have E : Hid ((if 0 ≤ k then 5 else 0) = Pl.chkI x) := Lib.hid (Eq.symm (by unfold Pl.chkI; rw [e1, if_neg (by decide), if_neg (by rw [hu]; decide), e2, if_neg (by decide), hk]))
  have CO := Lib.hid (fun (W : World) (g1 : VIn W x.lo a c) (g2 : VIn W x.hi b d) => Order_any x.lo x.hi a b c d W (VOk.of g1 (Pl.vr_ok (by rw [e1]))) (VOk.of g2 (Pl.vr_ok (by rw [e2]))))
  rw [hk] at CO
  clear hk
  have C1 := Lib.hid (fun (W : World) (g : VIn W x.lo a c) => Validate_any x.lo a c W g)
  rw [e1] at C1
  simp only [fltV] at C1
  have C2 := Lib.hid (fun (W : World) (g : VIn W x.hi b d) => Validate_any x.hi b d W g)
  rw [e2] at C2
  simp only [fltV] at C2
  clear e2
  have L := Lib.hid h1
  have R := Lib.hid h2
  clear h1 h2 e1
  unfold ivV
  rw [hu]
  clear hu
  go_enter Tryz.func45, Tryz.ntmps45
  have B0 : Below w.heap.size w w := Below.refl _ _
  go_wp2_with fail
  refine (C1.out _ (L.out.below (by go_grown) (Nat.le_refl _))).mono ?_
  rintro e w1 ⟨rfl, hb⟩
  have B1 : Below w.heap.size w w1 := bcall (by go_grown) hb (by go_size)
  have q1 : w.heap.size + 1 ≤ w1.heap.size := by have z := hb.size; (try simp only [World.size_alloc] at z); omega
  replace L := Lib.hid ((L.out.below (Below.refl _ _ |>.alloc (Nat.le_refl _) _) (Nat.le_refl _)).below hb (Nat.le_refl _))
  replace R := Lib.hid ((R.out.below (Below.refl _ _ |>.alloc (Nat.le_refl _) _) (Nat.le_refl _)).below hb (Nat.le_refl _))
  have X := ((Bk.new (r := w.heap.size) (cs := [.int .i64 x.lo.maj, .int .i64 x.lo.min, .int .i64 x.lo.pat, .slice a x.lo.pre.length c, .int .i64 x.hi.maj, .int .i64 x.hi.min, .int .i64 x.hi.pat, .slice b x.hi.pre.length d, .bool false]) _ 103 (by simp))).below hb (by go_size)
  clear hb
  have s1 : w.heap.size ≤ w1.heap.size := B1.size
  obtain ⟨X_c, X_f, X_l⟩ := id X
  go_wp2_with fail
  refine (C2.out _ (R.out.below (by go_grown) (Nat.le_refl _))).mono ?_
  rintro e w2 ⟨rfl, hb⟩
  have B2 : Below w.heap.size w w2 := bcall (by go_grown) hb (by go_size)
  have q2 : w1.heap.size + 1 ≤ w2.heap.size := by have z := hb.size; (try simp only [World.size_alloc] at z); omega
  replace L := Lib.hid ((L.out.below (Below.refl _ _ |>.alloc (Nat.le_refl _) _) (Nat.le_refl _)).below hb (Nat.le_refl _))
  replace R := Lib.hid ((R.out.below (Below.refl _ _ |>.alloc (Nat.le_refl _) _) (Nat.le_refl _)).below hb (Nat.le_refl _))
  replace X := ((X.alloc _)).below hb (by go_size)
  clear hb
  have s2 : w.heap.size ≤ w2.heap.size := B2.size
  clear X_c X_f X_l
  obtain ⟨X_c, X_f, X_l⟩ := id X
  go_wp2_with fail
  refine (CO.out _ (L.out.below (by go_grown) (Nat.le_refl _)) (R.out.below (by go_grown) (Nat.le_refl _))).mono ?_
  rintro e w3 ⟨rfl, hb⟩
  have B3 : Below w.heap.size w w3 := bcall (by go_grown) hb (by go_size)
  have q3 : w2.heap.size + 1 ≤ w3.heap.size := by have z := hb.size; (try simp only [World.size_alloc] at z); omega
  replace L := Lib.hid ((L.out.below (Below.refl _ _ |>.alloc (Nat.le_refl _) _) (Nat.le_refl _)).below hb (Nat.le_refl _))
  replace R := Lib.hid ((R.out.below (Below.refl _ _ |>.alloc (Nat.le_refl _) _) (Nat.le_refl _)).below hb (Nat.le_refl _))
  replace X := ((X.alloc _)).below hb (by go_size)
  clear hb
  have s3 : w.heap.size ≤ w3.heap.size := B3.size
  clear X_c X_f X_l
  obtain ⟨X_c, X_f, X_l⟩ := id X
  by_cases hk : 0 ≤ k
  · have t1 : decide ((0 : Int) ≤ k) = true := decide_eq_true hk
    replace E := Lib.hid (E.out.symm.trans (if_pos hk)).symm
    clear hk
    go_wp2_with fail
    go_ret
    exact ⟨ret_int E.out, by go_grown⟩
  · have t1 : decide ((0 : Int) ≤ k) = false := decide_eq_false hk
    replace E := Lib.hid (E.out.symm.trans (if_neg hk)).symm
    clear hk
    go_wp2_with fail
    go_ret
    exact ⟨ret_int E.out, by go_grown⟩
theorem check_any (x : Pl.Ivl) (a b : Option Addr) (c d : Nat) (w : World) (h1 : VIn w x.lo a c) (h2 : VIn w x.hi b d) :
    Calls Tryz.prog 45 #[ivV x a b c d] w fun e w' => e = .returned (.int .i64 (Pl.chkI x)) ∧ Below w.heap.size w w' := by
  by_cases f1 : (Pl.vrF x.lo).1 = 0
  · cases hu : x.un with
    | true => exact check_un x a b c d w h1 h2 (Pl.vr_zero f1) hu _ rfl
    | false =>
      by_cases f2 : (Pl.vrF x.hi).1 = 0
      · exact check_ok x a b c d w h1 h2 (Pl.vr_zero f1) hu (Pl.vr_zero f2) _ rfl
      · exact check_hi x a b c d w h1 h2 (Pl.vr_zero f1) hu _ _ f2 rfl
  · exact check_lo x a b c d w h1 h2 _ _ f1 rfl
end Go.Proofs.YtgngehfgcogceaaGreatDoor

end
section
/- Contract: the fault of a range, by the program. -/
namespace Go.Proofs.YtgngehfgcogceaaGreatDoor
open Go.RowKit
namespace Pl
theorem step_bad {r : List Ivl} {k : Nat} {h : k < r.length} {C : Int} (e : chkI r[k] = C) (hC : C ≠ 0) : stepI r k h = C := by unfold stepI; rw [e, if_pos hC]
theorem step_first {r : List Ivl} {k : Nat} {h : k < r.length} (e : chkI r[k] = 0) (h0 : k = 0) : stepI r k h = 0 := by unfold stepI; rw [e, if_neg (by decide), dif_neg (by omega)]
theorem step_next {r : List Ivl} {k : Nat} {h : k < r.length} (e : chkI r[k] = 0) (h0 : 0 < k) : stepI r k h = if badI (r[k - 1]'(by omega)) r[k] = true then 5 else 0 := by unfold stepI; rw [e, if_neg (by decide), dif_pos h0]
/-- The intervals ahead of a place are valid by themselves. -/
def ChkTo (r : List Ivl) (k : Nat) : Prop := ∀ j (h : j < r.length), j < k → chkI r[j] = 0
theorem ChkTo.zero (r : List Ivl) : ChkTo r 0 := fun _ _ h => absurd h (by omega)
theorem ChkTo.succ {r : List Ivl} {k : Nat} (h : ChkTo r k) {hk : k < r.length} (e : chkI r[k] = 0) : ChkTo r (k + 1) := fun j hj h1 => by
  by_cases hjk : j = k
  · subst hjk; exact e
  · exact h j hj (by omega)
end Pl
theorem idx_prev {k : Nat} {n : Nat} (h0 : 0 < k) (hk : k < n) (hn : n ≤ 9223372036854775807) : ((k : Int) - 1).toNat = k - 1 ∧ IntKind.i64.wrap ((k : Int) - 1) = (k : Int) - 1 ∧ (0 : Int) ≤ (k : Int) - 1 ∧ (1 : Int) ≤ (k : Int) ∧ (k : Int) - 1 < (n : Int) ∧ decide (0 < k) = true ∧ decide ((0 : Int) < (k : Int)) = true := by
  refine ⟨by omega, IntWalk.i64_in _ (by omega), by omega, by omega, by omega, by simp; omega, by simp; omega⟩

set_option maxRecDepth 100000 in
set_option maxHeartbeats 4000000 in
theorem rngValidate_any (r : List Pl.Ivl) (a : Option Addr) (c : Nat) (w : World) (h : RIn w r a c) :
    Calls Tryz.prog 25 #[.agg #[.slice a r.length c]] w fun e w' => e = .returned (fltV (Pl.rngF r)) ∧ Below w.heap.size w w' := by
  have hm := h.len
  obtain ⟨F, hF⟩ : ∃ F, Pl.rngF r = F := ⟨_, rfl⟩
  rw [hF]
  by_cases hn : 12 < r.length
  · have e := Pl.rngF_big hn hF
    subst e
    have t1 : decide ((12 : Int) < (r.length : Int)) = true := by simp; omega
    clear hF hn
    go_enter Tryz.func25, Tryz.ntmps25
    go_wp2_with fail
    refine bodyPost_ret (v := .agg #[.int .i64 2, .int .i64 (-1)]) (by simp [results, Tryz.results25, go_sem]) rfl ⟨rfl, by go_grown⟩
  · have HF := Lib.hid (Pl.rngF_small (show r.length ≤ 12 by omega) hF)
    have t1 : decide ((12 : Int) < (r.length : Int)) = false := by simp; omega
    clear hF hn
    have H := Lib.hid h
    clear h
    go_enter Tryz.func25, Tryz.ntmps25
    go_wp2_with fail
    go_loopw [15] (fun i wr => ∃ k : Nat, k ≤ r.length ∧ i = .int .i64 k ∧ Hid (Pl.stepsF r k = F ∧ Pl.ChkTo r k) ∧ Below (w.heap.size + 2) ((w.alloc (.cells #[.slice a r.length c] 44)).alloc (.cells #[.int .i64 0, .int .i64 0] 30)) wr) (fun i _ => r.length - (intOf i).toNat)
    case atStart => exact ⟨0, Nat.zero_le _, rfl, Lib.hid ⟨HF.out, Pl.ChkTo.zero r⟩, Below.refl _ _⟩
    case round =>
      obtain ⟨k, hk, rfl, hu, hb⟩ := hrel
      have B1 : Below w.heap.size w wr := bcall (by go_grown) hb (by simp)
      have q0 : w.heap.size + 2 ≤ wr.heap.size := by have z := hb.size; simp at z; omega
      have X : Bk wr w.heap.size [.slice a r.length c] := ((Bk.new (cs := [.slice a r.length c]) _ _ rfl).alloc _).below hb (by simp)
      have R : Bk wr (w.heap.size + 1) [.int .i64 0, .int .i64 0] := (Bk.new (cs := [.int .i64 0, .int .i64 0]) _ _ (by simp)).below hb (by simp)
      by_cases hlt2 : k < r.length
      · obtain ⟨b, off, rfl, hlt, hat⟩ := (H.out.below B1 (Nat.le_refl _)).at (by omega)
        obtain ⟨a1, b1, c1, d1, I⟩ := hat k hlt2
        have HGO := Lib.hid (Pl.stepsF_go hlt2 hu.out.1)
        have HAT := Lib.hid hat
        clear hat
        obtain ⟨C, hC⟩ : ∃ C, Pl.chkI r[k] = C := ⟨_, rfl⟩
        by_cases c0 : C = 0
        · subst c0
          have HC := Lib.hid hC
          have OKX := Lib.hid (Pl.chkI_ok.1 hC)
          have t3 : ((0 : Int) == 0) = true := rfl
          have t4 : ((0 : Int) != 0) = false := rfl
          by_cases h0 : k = 0
          · have E := Lib.hid (And.intro (HGO.out.1 (Pl.step_first hC h0)) (hu.out.2.succ hC))
            have t5 : decide (0 < k) = false := by simp; omega
            have t6 : decide ((0 : Int) < (k : Int)) = false := by simp; omega
            clear HGO hC h0 HAT OKX
            obtain ⟨e0, e1, e2, e3, e4, e5, e6, e7, e8, VL, VH⟩ := I
            replace VL := Lib.hid VL
            replace VH := Lib.hid VH
            obtain ⟨X_c, X_f, X_l⟩ := id X
            obtain ⟨R_c, R_f, R_l⟩ := id R
            generalize r[k] = x at *
            go_wp2_with fail
            have hb0 := hb
            refine (check_any x a1 b1 c1 d1 _ (VL.out.below (by go_grown) (Nat.le_refl _)) (VH.out.below (by go_grown) (Nat.le_refl _))).mono ?_
            rintro e w2 ⟨rfl, hb1⟩
            rw [HC.out]
            have hbN : Below (w.heap.size + 2) _ w2 := bcall (hb0.alloc (by omega) _) hb1 (by simp; omega)
            have hW : Below wr.heap.size wr w2 := bcall (by go_grown) hb1 (by simp)
            have B2 : Below w.heap.size w w2 := bcall (by go_grown) hb1 (by go_size)
            have q2 : wr.heap.size + 1 ≤ w2.heap.size := by have z := hb1.size; (try simp only [World.size_alloc] at z); omega
            replace VL := Lib.hid ((VL.out.below (Below.refl _ _ |>.alloc (Nat.le_refl _) _) (Nat.le_refl _)).below hb1 (Nat.le_refl _))
            replace VH := Lib.hid ((VH.out.below (Below.refl _ _ |>.alloc (Nat.le_refl _) _) (Nat.le_refl _)).below hb1 (Nat.le_refl _))
            replace X := ((X.alloc _)).below hb1 (by go_size)
            replace R := ((R.alloc _)).below hb1 (by go_size)
            have Y := ((Bk.new (r := wr.heap.size) (cs := [.int .i64 x.lo.maj, .int .i64 x.lo.min, .int .i64 x.lo.pat, .slice a1 x.lo.pre.length c1, .int .i64 x.hi.maj, .int .i64 x.hi.min, .int .i64 x.hi.pat, .slice b1 x.hi.pre.length d1, .bool x.un]) _ 103 (by simp))).below hb1 (by go_size)
            clear hb1
            have s2 : w.heap.size ≤ w2.heap.size := B2.size
            clear X_c X_f X_l R_c R_f R_l
            obtain ⟨X_c, X_f, X_l⟩ := id X
            obtain ⟨R_c, R_f, R_l⟩ := id R
            obtain ⟨Y_c, Y_f, Y_l⟩ := id Y
            clear e0 e1 e2 e3 e4 e5 e6 e7 e8
            go_wp2_with fail
            go_roundw
            case rel => exact ⟨k + 1, hlt2, by go_num, E, hbN⟩
            case measure => simp [intOf]; omega
          · have hpos : 0 < k := by omega
            have HS := Lib.hid (Pl.step_next (h := hlt2) hC hpos)
            obtain ⟨a2, b2, c2, d2, P⟩ := HAT.out (k - 1) (by omega)
            have OKP := Lib.hid (Pl.chkI_ok.1 (hu.out.2 (k - 1) (by omega) (by omega)))
            have HN := Lib.hid (hu.out.2.succ hC)
            obtain ⟨i1, i2, i3, i4, i5, i6, i7⟩ := idx_prev hpos hlt2 (by omega)
            have HP := Lib.hid P
            clear HAT P hC h0
            obtain ⟨p, hp⟩ : ∃ p, r[k - 1]'(by omega) = p := ⟨_, rfl⟩
            rw [hp] at HP HS OKP
            clear hp
            cases hpu : p.un with
            | true =>
              have hb5 : Pl.badI p r[k] = true := by unfold Pl.badI; rw [hpu]; rfl
              have E := Lib.hid (HGO.out.2 (by rw [HS.out, hb5]; decide))
              rw [HS.out, hb5, if_pos rfl] at E
              clear HGO HS OKP OKX HN hb5
              obtain ⟨e0, e1, e2, e3, e4, e5, e6, e7, e8, VL, VH⟩ := I
              replace VL := Lib.hid VL
              replace VH := Lib.hid VH
              obtain ⟨X_c, X_f, X_l⟩ := id X
              obtain ⟨R_c, R_f, R_l⟩ := id R
              generalize r[k] = x at *
              go_wp2_with fail
              have hb0 := hb
              refine (check_any x a1 b1 c1 d1 _ (VL.out.below (by go_grown) (Nat.le_refl _)) (VH.out.below (by go_grown) (Nat.le_refl _))).mono ?_
              rintro e w2 ⟨rfl, hb1⟩
              rw [HC.out]
              have hbN : Below (w.heap.size + 2) _ w2 := bcall (hb0.alloc (by omega) _) hb1 (by simp; omega)
              have hW : Below wr.heap.size wr w2 := bcall (by go_grown) hb1 (by simp)
              have B2 : Below w.heap.size w w2 := bcall (by go_grown) hb1 (by go_size)
              have q2 : wr.heap.size + 1 ≤ w2.heap.size := by have z := hb1.size; (try simp only [World.size_alloc] at z); omega
              replace VL := Lib.hid ((VL.out.below (Below.refl _ _ |>.alloc (Nat.le_refl _) _) (Nat.le_refl _)).below hb1 (Nat.le_refl _))
              replace VH := Lib.hid ((VH.out.below (Below.refl _ _ |>.alloc (Nat.le_refl _) _) (Nat.le_refl _)).below hb1 (Nat.le_refl _))
              replace X := ((X.alloc _)).below hb1 (by go_size)
              replace R := ((R.alloc _)).below hb1 (by go_size)
              have Y := ((Bk.new (r := wr.heap.size) (cs := [.int .i64 x.lo.maj, .int .i64 x.lo.min, .int .i64 x.lo.pat, .slice a1 x.lo.pre.length c1, .int .i64 x.hi.maj, .int .i64 x.hi.min, .int .i64 x.hi.pat, .slice b1 x.hi.pre.length d1, .bool x.un]) _ 103 (by simp))).below hb1 (by go_size)
              clear hb1
              have s2 : w.heap.size ≤ w2.heap.size := B2.size
              clear X_c X_f X_l R_c R_f R_l
              obtain ⟨X_c, X_f, X_l⟩ := id X
              obtain ⟨R_c, R_f, R_l⟩ := id R
              obtain ⟨Y_c, Y_f, Y_l⟩ := id Y
              clear e0 e1 e2 e3 e4 e5 e6 e7 e8
              obtain ⟨e0, e1, e2, e3, e4, e5, e6, e7, e8, PL, PH⟩ := HP.out.below hW hlt (Nat.le_refl _)
              clear PL hW HP
              replace PH := Lib.hid PH
              rw [hpu] at e8
              clear hpu
              go_wp2_with fail
              refine bodyPost_ret (v := .agg #[.int .i64 5, .int .i64 (k : Int)]) (by simp [results, Tryz.results25, go_sem, R_c, R_l]) rfl ⟨by rw [E.out], by go_grown⟩
            | false =>
              have CO := Lib.hid (fun (W : World) (g1 : VIn W p.hi b2 d2) (g2 : VIn W r[k].lo a1 c1) => Order_any p.hi r[k].lo b2 a1 d2 c1 W (VOk.of g1 OKP.out.hi) (VOk.of g2 OKX.out.lo))
              obtain ⟨K, hK⟩ : ∃ K, Pl.verCmp p.hi r[k].lo = K := ⟨_, rfl⟩
              rw [hK] at CO
              by_cases k0 : 0 ≤ K
              · have hb5 : Pl.badI p r[k] = true := by unfold Pl.badI; rw [hpu, hK, decide_eq_true k0]; rfl
                have E := Lib.hid (HGO.out.2 (by rw [HS.out, hb5]; decide))
                rw [HS.out, hb5, if_pos rfl] at E
                have t7 : decide ((0 : Int) ≤ K) = true := decide_eq_true k0
                clear HGO HS OKP OKX HN hb5 hK k0
                obtain ⟨e0, e1, e2, e3, e4, e5, e6, e7, e8, VL, VH⟩ := I
                replace VL := Lib.hid VL
                replace VH := Lib.hid VH
                obtain ⟨X_c, X_f, X_l⟩ := id X
                obtain ⟨R_c, R_f, R_l⟩ := id R
                generalize r[k] = x at *
                go_wp2_with fail
                have hb0 := hb
                refine (check_any x a1 b1 c1 d1 _ (VL.out.below (by go_grown) (Nat.le_refl _)) (VH.out.below (by go_grown) (Nat.le_refl _))).mono ?_
                rintro e w2 ⟨rfl, hb1⟩
                rw [HC.out]
                have hbN : Below (w.heap.size + 2) _ w2 := bcall (hb0.alloc (by omega) _) hb1 (by simp; omega)
                have hW : Below wr.heap.size wr w2 := bcall (by go_grown) hb1 (by simp)
                have B2 : Below w.heap.size w w2 := bcall (by go_grown) hb1 (by go_size)
                have q2 : wr.heap.size + 1 ≤ w2.heap.size := by have z := hb1.size; (try simp only [World.size_alloc] at z); omega
                replace VL := Lib.hid ((VL.out.below (Below.refl _ _ |>.alloc (Nat.le_refl _) _) (Nat.le_refl _)).below hb1 (Nat.le_refl _))
                replace VH := Lib.hid ((VH.out.below (Below.refl _ _ |>.alloc (Nat.le_refl _) _) (Nat.le_refl _)).below hb1 (Nat.le_refl _))
                replace X := ((X.alloc _)).below hb1 (by go_size)
                replace R := ((R.alloc _)).below hb1 (by go_size)
                have Y := ((Bk.new (r := wr.heap.size) (cs := [.int .i64 x.lo.maj, .int .i64 x.lo.min, .int .i64 x.lo.pat, .slice a1 x.lo.pre.length c1, .int .i64 x.hi.maj, .int .i64 x.hi.min, .int .i64 x.hi.pat, .slice b1 x.hi.pre.length d1, .bool x.un]) _ 103 (by simp))).below hb1 (by go_size)
                clear hb1
                have s2 : w.heap.size ≤ w2.heap.size := B2.size
                clear X_c X_f X_l R_c R_f R_l
                obtain ⟨X_c, X_f, X_l⟩ := id X
                obtain ⟨R_c, R_f, R_l⟩ := id R
                obtain ⟨Y_c, Y_f, Y_l⟩ := id Y
                clear e0 e1 e2 e3 e4 e5 e6 e7 e8
                obtain ⟨e0, e1, e2, e3, e4, e5, e6, e7, e8, PL, PH⟩ := HP.out.below hW hlt (Nat.le_refl _)
                clear PL hW HP
                replace PH := Lib.hid PH
                rw [hpu] at e8
                clear hpu
                go_wp2_with fail
                clear e0 e1 e2 e3 e4 e5 e6 e7 e8
                have hb0 := hbN
                refine (CO.out _ (PH.out.below (by go_grown) (Nat.le_refl _)) (VL.out.below (by go_grown) (Nat.le_refl _))).mono ?_
                rintro e w3 ⟨rfl, hb1⟩
                replace hbN : Below (w.heap.size + 2) _ w3 := bcall (hb0.alloc (by omega) _) hb1 (by simp; omega)
                have B3 : Below w.heap.size w w3 := bcall (by go_grown) hb1 (by go_size)
                have q3 : w2.heap.size + 1 ≤ w3.heap.size := by have z := hb1.size; (try simp only [World.size_alloc] at z); omega
                replace VL := Lib.hid ((VL.out.below (Below.refl _ _ |>.alloc (Nat.le_refl _) _) (Nat.le_refl _)).below hb1 (Nat.le_refl _))
                replace VH := Lib.hid ((VH.out.below (Below.refl _ _ |>.alloc (Nat.le_refl _) _) (Nat.le_refl _)).below hb1 (Nat.le_refl _))
                replace PH := Lib.hid ((PH.out.below (Below.refl _ _ |>.alloc (Nat.le_refl _) _) (Nat.le_refl _)).below hb1 (Nat.le_refl _))
                replace X := ((X.alloc _)).below hb1 (by go_size)
                replace R := ((R.alloc _)).below hb1 (by go_size)
                replace Y := ((Y.alloc _)).below hb1 (by go_size)
                have Z := ((Bk.new (r := w2.heap.size) (cs := [.int .i64 p.lo.maj, .int .i64 p.lo.min, .int .i64 p.lo.pat, .slice a2 p.lo.pre.length c2, .int .i64 p.hi.maj, .int .i64 p.hi.min, .int .i64 p.hi.pat, .slice b2 p.hi.pre.length d2, .bool false]) _ 103 (by simp))).below hb1 (by go_size)
                clear hb1
                have s3 : w.heap.size ≤ w3.heap.size := B3.size
                clear X_c X_f X_l R_c R_f R_l Y_c Y_f Y_l
                obtain ⟨X_c, X_f, X_l⟩ := id X
                obtain ⟨R_c, R_f, R_l⟩ := id R
                obtain ⟨Y_c, Y_f, Y_l⟩ := id Y
                obtain ⟨Z_c, Z_f, Z_l⟩ := id Z
                go_wp2_with fail
                refine bodyPost_ret (v := .agg #[.int .i64 5, .int .i64 (k : Int)]) (by simp [results, Tryz.results25, go_sem, R_c]) rfl ⟨by rw [E.out], by go_grown⟩
              · have hb5 : Pl.badI p r[k] = false := by unfold Pl.badI; rw [hpu, hK, decide_eq_false k0]; rfl
                have E := Lib.hid (And.intro (HGO.out.1 (by rw [HS.out, hb5]; rfl)) HN.out)
                have t7 : decide ((0 : Int) ≤ K) = false := decide_eq_false k0
                clear HGO HS OKP OKX HN hb5 hK k0
                obtain ⟨e0, e1, e2, e3, e4, e5, e6, e7, e8, VL, VH⟩ := I
                replace VL := Lib.hid VL
                replace VH := Lib.hid VH
                obtain ⟨X_c, X_f, X_l⟩ := id X
                obtain ⟨R_c, R_f, R_l⟩ := id R
                generalize r[k] = x at *
                go_wp2_with fail
                have hb0 := hb
                refine (check_any x a1 b1 c1 d1 _ (VL.out.below (by go_grown) (Nat.le_refl _)) (VH.out.below (by go_grown) (Nat.le_refl _))).mono ?_
                rintro e w2 ⟨rfl, hb1⟩
                rw [HC.out]
                have hbN : Below (w.heap.size + 2) _ w2 := bcall (hb0.alloc (by omega) _) hb1 (by simp; omega)
                have hW : Below wr.heap.size wr w2 := bcall (by go_grown) hb1 (by simp)
                have B2 : Below w.heap.size w w2 := bcall (by go_grown) hb1 (by go_size)
                have q2 : wr.heap.size + 1 ≤ w2.heap.size := by have z := hb1.size; (try simp only [World.size_alloc] at z); omega
                replace VL := Lib.hid ((VL.out.below (Below.refl _ _ |>.alloc (Nat.le_refl _) _) (Nat.le_refl _)).below hb1 (Nat.le_refl _))
                replace VH := Lib.hid ((VH.out.below (Below.refl _ _ |>.alloc (Nat.le_refl _) _) (Nat.le_refl _)).below hb1 (Nat.le_refl _))
                replace X := ((X.alloc _)).below hb1 (by go_size)
                replace R := ((R.alloc _)).below hb1 (by go_size)
                have Y := ((Bk.new (r := wr.heap.size) (cs := [.int .i64 x.lo.maj, .int .i64 x.lo.min, .int .i64 x.lo.pat, .slice a1 x.lo.pre.length c1, .int .i64 x.hi.maj, .int .i64 x.hi.min, .int .i64 x.hi.pat, .slice b1 x.hi.pre.length d1, .bool x.un]) _ 103 (by simp))).below hb1 (by go_size)
                clear hb1
                have s2 : w.heap.size ≤ w2.heap.size := B2.size
                clear X_c X_f X_l R_c R_f R_l
                obtain ⟨X_c, X_f, X_l⟩ := id X
                obtain ⟨R_c, R_f, R_l⟩ := id R
                obtain ⟨Y_c, Y_f, Y_l⟩ := id Y
                clear e0 e1 e2 e3 e4 e5 e6 e7 e8
                obtain ⟨e0, e1, e2, e3, e4, e5, e6, e7, e8, PL, PH⟩ := HP.out.below hW hlt (Nat.le_refl _)
                clear PL hW HP
                replace PH := Lib.hid PH
                rw [hpu] at e8
                clear hpu
                go_wp2_with fail
                clear e0 e1 e2 e3 e4 e5 e6 e7 e8
                have hb0 := hbN
                refine (CO.out _ (PH.out.below (by go_grown) (Nat.le_refl _)) (VL.out.below (by go_grown) (Nat.le_refl _))).mono ?_
                rintro e w3 ⟨rfl, hb1⟩
                replace hbN : Below (w.heap.size + 2) _ w3 := bcall (hb0.alloc (by omega) _) hb1 (by simp; omega)
                have B3 : Below w.heap.size w w3 := bcall (by go_grown) hb1 (by go_size)
                have q3 : w2.heap.size + 1 ≤ w3.heap.size := by have z := hb1.size; (try simp only [World.size_alloc] at z); omega
                replace VL := Lib.hid ((VL.out.below (Below.refl _ _ |>.alloc (Nat.le_refl _) _) (Nat.le_refl _)).below hb1 (Nat.le_refl _))
                replace VH := Lib.hid ((VH.out.below (Below.refl _ _ |>.alloc (Nat.le_refl _) _) (Nat.le_refl _)).below hb1 (Nat.le_refl _))
                replace PH := Lib.hid ((PH.out.below (Below.refl _ _ |>.alloc (Nat.le_refl _) _) (Nat.le_refl _)).below hb1 (Nat.le_refl _))
                replace X := ((X.alloc _)).below hb1 (by go_size)
                replace R := ((R.alloc _)).below hb1 (by go_size)
                replace Y := ((Y.alloc _)).below hb1 (by go_size)
                have Z := ((Bk.new (r := w2.heap.size) (cs := [.int .i64 p.lo.maj, .int .i64 p.lo.min, .int .i64 p.lo.pat, .slice a2 p.lo.pre.length c2, .int .i64 p.hi.maj, .int .i64 p.hi.min, .int .i64 p.hi.pat, .slice b2 p.hi.pre.length d2, .bool false]) _ 103 (by simp))).below hb1 (by go_size)
                clear hb1
                have s3 : w.heap.size ≤ w3.heap.size := B3.size
                clear X_c X_f X_l R_c R_f R_l Y_c Y_f Y_l
                obtain ⟨X_c, X_f, X_l⟩ := id X
                obtain ⟨R_c, R_f, R_l⟩ := id R
                obtain ⟨Y_c, Y_f, Y_l⟩ := id Y
                obtain ⟨Z_c, Z_f, Z_l⟩ := id Z
                go_wp2_with fail
                go_roundw
                case rel => exact ⟨k + 1, hlt2, by go_num, E, hbN⟩
                case measure => simp [intOf]; omega
        · have E := Lib.hid (HGO.out.2 (by rw [Pl.step_bad hC c0]; exact c0))
          rw [Pl.step_bad hC c0] at E
          have t2 := beqF c0
          have t3 := bneT c0
          have HC := Lib.hid hC
          clear HGO c0 hC HAT
          obtain ⟨e0, e1, e2, e3, e4, e5, e6, e7, e8, VL, VH⟩ := I
          replace VL := Lib.hid VL
          replace VH := Lib.hid VH
          obtain ⟨X_c, X_f, X_l⟩ := id X
          obtain ⟨R_c, R_f, R_l⟩ := id R
          generalize r[k] = x at *
          go_wp2_with fail
          have hb0 := hb
          refine (check_any x a1 b1 c1 d1 _ (VL.out.below (by go_grown) (Nat.le_refl _)) (VH.out.below (by go_grown) (Nat.le_refl _))).mono ?_
          rintro e w2 ⟨rfl, hb1⟩
          rw [HC.out]
          have hbN : Below (w.heap.size + 2) _ w2 := bcall (hb0.alloc (by omega) _) hb1 (by simp; omega)
          have hW : Below wr.heap.size wr w2 := bcall (by go_grown) hb1 (by simp)
          have B2 : Below w.heap.size w w2 := bcall (by go_grown) hb1 (by go_size)
          have q2 : wr.heap.size + 1 ≤ w2.heap.size := by have z := hb1.size; (try simp only [World.size_alloc] at z); omega
          replace VL := Lib.hid ((VL.out.below (Below.refl _ _ |>.alloc (Nat.le_refl _) _) (Nat.le_refl _)).below hb1 (Nat.le_refl _))
          replace VH := Lib.hid ((VH.out.below (Below.refl _ _ |>.alloc (Nat.le_refl _) _) (Nat.le_refl _)).below hb1 (Nat.le_refl _))
          replace X := ((X.alloc _)).below hb1 (by go_size)
          replace R := ((R.alloc _)).below hb1 (by go_size)
          have Y := ((Bk.new (r := wr.heap.size) (cs := [.int .i64 x.lo.maj, .int .i64 x.lo.min, .int .i64 x.lo.pat, .slice a1 x.lo.pre.length c1, .int .i64 x.hi.maj, .int .i64 x.hi.min, .int .i64 x.hi.pat, .slice b1 x.hi.pre.length d1, .bool x.un]) _ 103 (by simp))).below hb1 (by go_size)
          clear hb1
          have s2 : w.heap.size ≤ w2.heap.size := B2.size
          clear X_c X_f X_l R_c R_f R_l
          obtain ⟨X_c, X_f, X_l⟩ := id X
          obtain ⟨R_c, R_f, R_l⟩ := id R
          obtain ⟨Y_c, Y_f, Y_l⟩ := id Y
          clear e0 e1 e2 e3 e4 e5 e6 e7 e8
          go_wp2_with fail
          refine bodyPost_ret (v := .agg #[.int .i64 C, .int .i64 (k : Int)]) (by simp [results, Tryz.results25, go_sem, R_c]) rfl ⟨by rw [E.out], by go_grown⟩
      · have E := Lib.hid (Pl.stepsF_end (by omega) hu.out.1)
        obtain ⟨R_c, R_f, R_l⟩ := R
        have t2 : decide ((k : Int) < (r.length : Int)) = false := by simp; omega
        have t3 : decide (k < r.length) = false := by simp; omega
        go_wp2_with fail
        refine bodyPost_ret (v := .agg #[.int .i64 0, .int .i64 0]) (by simp [results, Tryz.results25, go_sem, R_c]) rfl ⟨by rw [E.out], by go_grown⟩
end Go.Proofs.YtgngehfgcogceaaGreatDoor

end
