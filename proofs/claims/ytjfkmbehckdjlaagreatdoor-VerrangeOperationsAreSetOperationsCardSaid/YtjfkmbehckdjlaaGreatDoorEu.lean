/- Contracts of the laws' small functions for ranges. -/
import Derived.Test.YtjfkmbehckdjlaaGreatDoorDk
import Derived.Test.YtjfkmbehckdjlaaGreatDoorEe
namespace Go.Proofs.YtjfkmbehckdjlaaGreatDoor
open Go.RowKit

/-- What two ranges say of the bounds of a third one. -/
def Pl.agreeB (a b t : List Pl.Ivl) : Bool := t.all fun x => (Pl.conB a x.lo == Pl.conB b x.lo) && (x.un || (Pl.conB a x.hi == Pl.conB b x.hi))
theorem Pl.agree_step {a b t : List Pl.Ivl} {k : Nat} (hk : k < t.length) : Pl.agreeB a b (t.drop k) = ((Pl.conB a t[k].lo == Pl.conB b t[k].lo) && (t[k].un || (Pl.conB a t[k].hi == Pl.conB b t[k].hi)) && Pl.agreeB a b (t.drop (k + 1))) := by
  unfold Pl.agreeB
  rw [List.drop_eq_getElem_cons hk, List.all_cons]

/-- Some Bool is handed back. -/
def SomeB (w : World) (e : Ending) (w' : World) : Prop := (∃ g : Bool, e = .returned (.bool g)) ∧ Below w.heap.size w w'
set_option maxHeartbeats 2000000 in
theorem wide_any (v : Pl.Ver) (a : Option Addr) (c : Nat) (w : World) : Calls Tryz.prog 50 #[verV v a c] w (SomeB w) := by
  go_enter Tryz.func50, Tryz.ntmps50
  go_wp2_with fail
  go_ret
  exact ⟨⟨_, by rfl⟩, by go_grown⟩
set_option maxHeartbeats 4000000 in
theorem great_any (r : List Pl.Ivl) (a : Option Addr) (c : Nat) (w : World) (h : RIn w r a c) : Calls Tryz.prog 18 #[.agg #[.slice a r.length c]] w (SomeB w) := by
  have H := Lib.hid h
  have hm := h.len
  clear h
  go_enter Tryz.func18, Tryz.ntmps18
  have B0 : Below w.heap.size w w := Below.refl _ _
  go_wp2_with fail
  have B1 : Below w.heap.size w (w.alloc (.cells #[.slice a r.length c] 24)) := by go_grown
  have q1 : w.heap.size + 1 ≤ (w.alloc (.cells #[.slice a r.length c] 24)).heap.size := by simp only [World.size_alloc]; omega
  have X := (Bk.new (r := w.heap.size) (cs := [.slice a r.length c]) w 24 (by simp))
  generalize (w.alloc (.cells #[.slice a r.length c] 24)) = w1 at *
  have s1 : w.heap.size ≤ w1.heap.size := B1.size
  obtain ⟨X_c, X_f, X_l⟩ := id X
  clear X_c X_f X_l
  go_loopw [3] (fun i wr => ∃ k : Nat, k ≤ r.length ∧ i = .int .i64 k ∧ Bk wr w.heap.size [.slice a r.length c] ∧ Below w.heap.size w wr) (fun i _ => r.length - (intOf i).toNat)
  case atStart => exact ⟨0, Nat.zero_le _, rfl, X, B1⟩
  case round =>
    obtain ⟨k, hk, rfl, X, B9⟩ := hrel
    clear B1 q1 s1
    have s9 := B9.size
    by_cases hlt2 : k < r.length
    · have t5 : decide ((k : Int) < (r.length : Int)) = true := decT (by omega)
      obtain ⟨bb, off, rfl, hltb, hat⟩ := H.out.at (by omega)
      obtain ⟨a1, b1, c1, d1, I0⟩ := hat k hlt2
      have HI := Lib.hid I0
      clear hat I0
      generalize r[k] = x at *
      obtain ⟨e0, e1, e2, e3, e4, e5, e6, e7, e8, VA, VB⟩ := HI.out.below B9 hltb (Nat.le_refl _)
      clear VA VB
      obtain ⟨X_c, X_f, X_l⟩ := id X
      by_cases h40 : (k : Int) < 40
      · have t6 : decide ((k : Int) < 40) = true := decT h40
        have t7 : decide (k < 40) = true := decT (by omega)
        go_wp2_with fail
        refine (wide_any x.lo a1 c1 _).mono ?_
        rintro e w2 ⟨⟨g1, rfl⟩, hb⟩
        have B2 : Below w.heap.size w w2 := bcall (by go_grown) hb (by go_size)
        have X2 := X.below hb (by go_size)
        clear hb X_c X_f X_l e0 e1 e2 e3 e4 e5 e6 e7 e8
        have s2 := B2.size
        obtain ⟨X_c, X_f, X_l⟩ := id X2
        obtain ⟨e0, e1, e2, e3, e4, e5, e6, e7, e8, VA, VB⟩ := HI.out.below B2 hltb (Nat.le_refl _)
        clear VA VB
        cases g1 with
        | true =>
          go_wp2_with fail
          go_ret
          exact ⟨⟨_, by rfl⟩, by go_grown⟩
        | false =>
          go_wp2_with fail
          refine (wide_any x.hi b1 d1 _).mono ?_
          rintro e w3 ⟨⟨g2, rfl⟩, hb⟩
          have B3 : Below w.heap.size w w3 := bcall (by go_grown) hb (by go_size)
          have X3 := X2.below hb (by go_size)
          clear hb X_c X_f X_l e0 e1 e2 e3 e4 e5 e6 e7 e8
          have s3 := B3.size
          obtain ⟨X_c, X_f, X_l⟩ := id X3
          cases g2 with
          | true =>
            go_wp2_with fail
            go_ret
            exact ⟨⟨_, by rfl⟩, by go_grown⟩
          | false =>
            go_wp2_with fail
            go_roundw
            case rel => exact ⟨k + 1, hlt2, by go_num, X3, B3⟩
            case measure => simp [intOf]; omega
      · have t6 : decide ((k : Int) < 40) = false := decF h40
        have t7 : decide (k < 40) = false := decF (by omega)
        go_wp2_with fail
        go_ret
        exact ⟨⟨_, by rfl⟩, by go_grown⟩
    · have t5 : decide ((k : Int) < (r.length : Int)) = false := decF (by omega)
      obtain ⟨X_c, X_f, X_l⟩ := id X
      go_wp2_with fail
      go_ret
      exact ⟨⟨_, by rfl⟩, by go_grown⟩
set_option maxHeartbeats 2000000 in
theorem lspan_any (u v : Pl.Ver) (a b : Option Addr) (c d : Nat) (w : World) (h1 : VIn w u a c) (h2 : VIn w v b d) :
    Calls Tryz.prog 40 #[verV u a c, verV v b d] w (RRng [⟨u, v, false⟩] w) := by
  have H := Lib.hid h1
  have K := Lib.hid h2
  clear h1 h2
  go_enter Tryz.func40, Tryz.ntmps40
  have B0 : Below w.heap.size w w := Below.refl _ _
  go_wp2_with fail
  have Z := Bk.new (r := w.heap.size + 1 + 1 + 1) (cs := [.int .i64 u.maj, .int .i64 u.min, .int .i64 u.pat, .slice a u.pre.length c, .int .i64 v.maj, .int .i64 v.min, .int .i64 v.pat, .slice b v.pre.length d, .bool false]) (((w.alloc (.cells #[.int .i64 u.maj, .int .i64 u.min, .int .i64 u.pat, .slice a u.pre.length c] 27)).alloc (.cells #[.int .i64 v.maj, .int .i64 v.min, .int .i64 v.pat, .slice b v.pre.length d] 27)).alloc (.cells #[.slice (some ⟨w.heap.size + 1 + 1 + 1, 0, none⟩) 1 1] 24)) 58 (by simp)
  have R := (Bk.new (r := w.heap.size + 1 + 1) (cs := [.slice (some ⟨w.heap.size + 1 + 1 + 1, 0, none⟩) 1 1]) ((w.alloc (.cells #[.int .i64 u.maj, .int .i64 u.min, .int .i64 u.pat, .slice a u.pre.length c] 27)).alloc (.cells #[.int .i64 v.maj, .int .i64 v.min, .int .i64 v.pat, .slice b v.pre.length d] 27)) 24 (by simp)).alloc (.cells #[.int .i64 u.maj, .int .i64 u.min, .int .i64 u.pat, .slice a u.pre.length c, .int .i64 v.maj, .int .i64 v.min, .int .i64 v.pat, .slice b v.pre.length d, .bool false] 58)
  obtain ⟨R_c, R_f, R_l⟩ := R
  refine bodyPost_ret (v := .agg #[.slice (some ⟨w.heap.size + 1 + 1 + 1, 0, none⟩) 1 1]) (by simp [results, Tryz.results40, go_sem, R_c]) rfl ⟨some ⟨w.heap.size + 1 + 1 + 1, 0, none⟩, 1, rfl, RIn.lit Z ⟨a, b, c, d, rfl, H.out.below (by go_grown) (Nat.le_refl _), K.out.below (by go_grown) (Nat.le_refl _)⟩, by go_grown⟩
set_option maxHeartbeats 4000000 in
theorem has_any (r : List Pl.Ivl) (v : Pl.Ver) (a p : Option Addr) (c q : Nat) (w : World) (h : RIn w r a c) (h3 : VIn w v p q) :
    Calls Tryz.prog 32 #[.agg #[.slice a r.length c], verV v p q] w fun e w' => e = .returned (.bool (Pl.conB r v)) ∧ Below w.heap.size w w' := by
  have H := Lib.hid h
  have V := Lib.hid h3
  have E := Lib.hid (show ∀ f1 f2, Pl.conF r v = (f1, f2) → f1 ≠ 0 → Pl.conB r v = false from fun f1 f2 e hf => by unfold Pl.conB; rw [e, if_pos hf])
  have CC := Lib.hid (fun (W : World) (g1 : RIn W r a c) (g2 : VIn W v p q) => Contains_any r v a p c q W g1 g2)
  obtain ⟨B, hB⟩ : ∃ B, Pl.conB r v = B := ⟨_, rfl⟩
  obtain ⟨F, hF⟩ : ∃ F, Pl.conF r v = F := ⟨_, rfl⟩
  obtain ⟨f1, f2⟩ := F
  rw [hB, hF] at CC
  rw [hB] at E ⊢
  have E2 := Lib.hid (E.out f1 f2 hF)
  simp only [fltV] at CC
  clear h h3 hB hF E
  go_enter Tryz.func32, Tryz.ntmps32
  have B0 : Below w.heap.size w w := Below.refl _ _
  go_wp2_with fail
  refine (CC.out _ (H.out.below (by go_grown) (Nat.le_refl _)) (V.out.below (by go_grown) (Nat.le_refl _))).mono ?_
  rintro e w1 ⟨rfl, hb⟩
  have B1 : Below w.heap.size w w1 := bcall (by go_grown) hb (by go_size)
  have q1 : w.heap.size + 2 ≤ w1.heap.size := by have z := hb.size; (try simp only [World.size_alloc] at z); omega
  replace H := Lib.hid (((H.out.below (Below.refl _ _ |>.alloc (Nat.le_refl _) _) (Nat.le_refl _)).below (Below.refl _ _ |>.alloc (Nat.le_refl _) _) (Nat.le_refl _)).below hb (Nat.le_refl _))
  replace V := Lib.hid (((V.out.below (Below.refl _ _ |>.alloc (Nat.le_refl _) _) (Nat.le_refl _)).below (Below.refl _ _ |>.alloc (Nat.le_refl _) _) (Nat.le_refl _)).below hb (Nat.le_refl _))
  have X := (((Bk.new (r := w.heap.size) (cs := [.slice a r.length c]) _ 24 (by simp)).alloc _)).below hb (by go_size)
  have Y := ((Bk.new (r := w.heap.size + 1) (cs := [.int .i64 v.maj, .int .i64 v.min, .int .i64 v.pat, .slice p v.pre.length q]) _ 27 (by simp))).below hb (by go_size)
  clear hb
  have s1 : w.heap.size ≤ w1.heap.size := B1.size
  obtain ⟨X_c, X_f, X_l⟩ := id X
  obtain ⟨Y_c, Y_f, Y_l⟩ := id Y
  clear CC
  by_cases h0 : f1 = 0
  · have u1 : (f1 == 0) = true := beqT h0
    clear E2 h0
    go_wp2_with fail
    go_ret
    exact ⟨by rfl, by go_grown⟩
  · have u1 : (f1 == 0) = false := beqF h0
    have E3 := Lib.hid (E2.out h0)
    clear E2 h0
    go_wp2_with fail
    go_ret
    exact ⟨by rw [E3.out]; rfl, by go_grown⟩
set_option maxRecDepth 100000 in
set_option maxHeartbeats 8000000 in
theorem agree_any (r s t : List Pl.Ivl) (a b f : Option Addr) (c d n : Nat) (w : World) (h1 : RIn w r a c) (h2 : RIn w s b d) (h3 : RIn w t f n) :
    Calls Tryz.prog 33 #[.agg #[.slice a r.length c], .agg #[.slice b s.length d], .agg #[.slice f t.length n]] w fun e w' => e = .returned (.bool (Pl.agreeB r s t)) ∧ Below w.heap.size w w' := by
  have H := Lib.hid h1
  have K := Lib.hid h2
  have M := Lib.hid h3
  have hm := h3.len
  obtain ⟨AB, hAB⟩ : ∃ AB, Pl.agreeB r s t = AB := ⟨_, rfl⟩
  rw [hAB]
  have HAB := Lib.hid hAB
  clear h1 h2 h3 hAB
  go_enter Tryz.func33, Tryz.ntmps33
  have B0 : Below w.heap.size w w := Below.refl _ _
  go_wp2_with fail
  have B1 : Below w.heap.size w (((w.alloc (.cells #[.slice a r.length c] 24)).alloc (.cells #[.slice b s.length d] 24)).alloc (.cells #[.slice f t.length n] 24)) := by go_grown
  have q1 : w.heap.size + 3 ≤ (((w.alloc (.cells #[.slice a r.length c] 24)).alloc (.cells #[.slice b s.length d] 24)).alloc (.cells #[.slice f t.length n] 24)).heap.size := by simp only [World.size_alloc]; omega
  have X := (((Bk.new (r := w.heap.size) (cs := [.slice a r.length c]) w 24 (by simp)).alloc (.cells #[.slice b s.length d] 24)).alloc (.cells #[.slice f t.length n] 24))
  have Y := ((Bk.new (r := w.heap.size + 1) (cs := [.slice b s.length d]) (w.alloc (.cells #[.slice a r.length c] 24)) 24 (by simp)).alloc (.cells #[.slice f t.length n] 24))
  have Z := (Bk.new (r := w.heap.size + 1 + 1) (cs := [.slice f t.length n]) ((w.alloc (.cells #[.slice a r.length c] 24)).alloc (.cells #[.slice b s.length d] 24)) 24 (by simp))
  generalize (((w.alloc (.cells #[.slice a r.length c] 24)).alloc (.cells #[.slice b s.length d] 24)).alloc (.cells #[.slice f t.length n] 24)) = w1 at *
  have s1 : w.heap.size ≤ w1.heap.size := B1.size
  obtain ⟨X_c, X_f, X_l⟩ := id X
  obtain ⟨Y_c, Y_f, Y_l⟩ := id Y
  obtain ⟨Z_c, Z_f, Z_l⟩ := id Z
  clear X_c X_f X_l Y_c Y_f Y_l Z_c Z_f Z_l
  go_loopw [7] (fun i wr => ∃ k : Nat, k ≤ t.length ∧ i = .int .i64 k ∧ (Bk wr w.heap.size [.slice a r.length c] ∧ Bk wr (w.heap.size + 1) [.slice b s.length d] ∧ Bk wr (w.heap.size + 1 + 1) [.slice f t.length n]) ∧ Below w.heap.size w wr ∧ Hid (Pl.agreeB r s (t.drop k) = AB)) (fun i _ => t.length - (intOf i).toNat)
  case atStart => exact ⟨0, Nat.zero_le _, rfl, ⟨X, Y, Z⟩, B1, HAB⟩
  case round =>
    obtain ⟨k, hk, rfl, ⟨X, Y, Z⟩, B9, HU⟩ := hrel
    clear B1 q1 s1
    have s9 := B9.size
    by_cases hlt2 : k < t.length
    · have t5 : decide ((k : Int) < (t.length : Int)) = true := decT (by omega)
      obtain ⟨bb, off, rfl, hltb, hat⟩ := M.out.at (by omega)
      obtain ⟨a1, b1, c1, d1, I0⟩ := hat k hlt2
      have HI := Lib.hid I0
      have ST := Lib.hid ((Pl.agree_step hlt2).symm.trans HU.out)
      clear hat I0 HU
      generalize t[k] = x at *
      obtain ⟨rest, hrest⟩ : ∃ q, Pl.agreeB r s (t.drop (k + 1)) = q := ⟨_, rfl⟩
      rw [hrest] at ST
      have HR := Lib.hid hrest
      clear hrest
      have C1 := Lib.hid (fun (W : World) (g1 : RIn W r a c) (g2 : VIn W x.lo a1 c1) => has_any r x.lo a a1 c c1 W g1 g2)
      have C2 := Lib.hid (fun (W : World) (g1 : RIn W s b d) (g2 : VIn W x.lo a1 c1) => has_any s x.lo b a1 d c1 W g1 g2)
      have C3 := Lib.hid (fun (W : World) (g1 : RIn W r a c) (g2 : VIn W x.hi b1 d1) => has_any r x.hi a b1 c d1 W g1 g2)
      have C4 := Lib.hid (fun (W : World) (g1 : RIn W s b d) (g2 : VIn W x.hi b1 d1) => has_any s x.hi b b1 d d1 W g1 g2)
      obtain ⟨b1_, hb1⟩ : ∃ q, Pl.conB r x.lo = q := ⟨_, rfl⟩
      obtain ⟨b2_, hb2⟩ : ∃ q, Pl.conB s x.lo = q := ⟨_, rfl⟩
      obtain ⟨b3_, hb3⟩ : ∃ q, Pl.conB r x.hi = q := ⟨_, rfl⟩
      obtain ⟨b4_, hb4⟩ : ∃ q, Pl.conB s x.hi = q := ⟨_, rfl⟩
      rw [hb1] at C1 ST
      rw [hb2] at C2 ST
      rw [hb3] at C3 ST
      rw [hb4] at C4 ST
      clear hb1 hb2 hb3 hb4
      obtain ⟨e0, e1, e2, e3, e4, e5, e6, e7, e8, VA, VB⟩ := HI.out.below B9 hltb (Nat.le_refl _)
      clear VA VB
      obtain ⟨X_c, X_f, X_l⟩ := id X
      obtain ⟨Y_c, Y_f, Y_l⟩ := id Y
      obtain ⟨Z_c, Z_f, Z_l⟩ := id Z
      cases hu : x.un with
      | true =>
        rw [hu] at e8 ST
        clear hu
        go_wp2_with fail
        have B10 : Below w.heap.size w (wr.alloc (.cells #[.int .i64 x.lo.maj, .int .i64 x.lo.min, .int .i64 x.lo.pat, .slice a1 x.lo.pre.length c1, .int .i64 x.hi.maj, .int .i64 x.hi.min, .int .i64 x.hi.pat, .slice b1 x.hi.pre.length d1, .bool true] 58)) := by go_grown
        have q10 : wr.heap.size + 1 ≤ (wr.alloc (.cells #[.int .i64 x.lo.maj, .int .i64 x.lo.min, .int .i64 x.lo.pat, .slice a1 x.lo.pre.length c1, .int .i64 x.hi.maj, .int .i64 x.hi.min, .int .i64 x.hi.pat, .slice b1 x.hi.pre.length d1, .bool true] 58)).heap.size := by simp only [World.size_alloc]; omega
        replace X := (X.alloc (.cells #[.int .i64 x.lo.maj, .int .i64 x.lo.min, .int .i64 x.lo.pat, .slice a1 x.lo.pre.length c1, .int .i64 x.hi.maj, .int .i64 x.hi.min, .int .i64 x.hi.pat, .slice b1 x.hi.pre.length d1, .bool true] 58))
        replace Y := (Y.alloc (.cells #[.int .i64 x.lo.maj, .int .i64 x.lo.min, .int .i64 x.lo.pat, .slice a1 x.lo.pre.length c1, .int .i64 x.hi.maj, .int .i64 x.hi.min, .int .i64 x.hi.pat, .slice b1 x.hi.pre.length d1, .bool true] 58))
        replace Z := (Z.alloc (.cells #[.int .i64 x.lo.maj, .int .i64 x.lo.min, .int .i64 x.lo.pat, .slice a1 x.lo.pre.length c1, .int .i64 x.hi.maj, .int .i64 x.hi.min, .int .i64 x.hi.pat, .slice b1 x.hi.pre.length d1, .bool true] 58))
        have I := (Bk.new (r := wr.heap.size) (cs := [.int .i64 x.lo.maj, .int .i64 x.lo.min, .int .i64 x.lo.pat, .slice a1 x.lo.pre.length c1, .int .i64 x.hi.maj, .int .i64 x.hi.min, .int .i64 x.hi.pat, .slice b1 x.hi.pre.length d1, .bool true]) wr 58 (by simp))
        clear X_c X_f X_l Y_c Y_f Y_l Z_c Z_f Z_l
        generalize (wr.alloc (.cells #[.int .i64 x.lo.maj, .int .i64 x.lo.min, .int .i64 x.lo.pat, .slice a1 x.lo.pre.length c1, .int .i64 x.hi.maj, .int .i64 x.hi.min, .int .i64 x.hi.pat, .slice b1 x.hi.pre.length d1, .bool true] 58)) = w10 at *
        have s10 : w.heap.size ≤ w10.heap.size := B10.size
        obtain ⟨X_c, X_f, X_l⟩ := id X
        obtain ⟨Y_c, Y_f, Y_l⟩ := id Y
        obtain ⟨Z_c, Z_f, Z_l⟩ := id Z
        obtain ⟨I_c, I_f, I_l⟩ := id I
        clear e0 e1 e2 e3 e4 e5 e6 e7 e8
        refine wp_region_ord [0, 1, 2, 4, 5, 6, 3, 7, 8, 9, 10, 11, 12, 13, 14, 15, 16, 18, 19, 20, 17, 21, 22, 23, 24] (by kernel_rfl) (by kernel_rfl) ?_
        have B11 : Below w.heap.size w w10.drew := by go_grown
        have q11 : w10.heap.size + 0 ≤ w10.drew.heap.size := by simp only [World.size_drew]; omega
        replace X := X.drew
        replace Y := Y.drew
        replace Z := Z.drew
        replace I := I.drew
        clear X_c X_f X_l Y_c Y_f Y_l Z_c Z_f Z_l I_c I_f I_l
        generalize w10.drew = w11 at *
        have s11 : w.heap.size ≤ w11.heap.size := B11.size
        obtain ⟨X_c, X_f, X_l⟩ := id X
        obtain ⟨Y_c, Y_f, Y_l⟩ := id Y
        obtain ⟨Z_c, Z_f, Z_l⟩ := id Z
        obtain ⟨I_c, I_f, I_l⟩ := id I
        repeat (first | (refine wpI_rd rfl rfl ?_; go_big_quiet_step (fail); refine wpQuiet_nil ?_) | (refine wpI_skip rfl rfl ?_; try simp only [Act.put, List.setIfInBounds_toArray, List.set_cons_zero, List.set_cons_succ]))
        try simp only [Act.put, List.setIfInBounds_toArray, List.set_cons_zero, List.set_cons_succ]
        refine wpI_call (f := 32) rfl rfl rfl (by simp [go_sem]; rfl) ?_
        refine (C1.out _ (H.out.below B11 (Nat.le_refl _)) (HI.out.below B11 hltb (Nat.le_refl _)).lo).mono ?_
        rintro e w12 ⟨rfl, hb⟩
        refine ⟨_, rfl, hb, ?_⟩
        skip
        have B12 : Below w.heap.size w w12 := bcall (by go_grown) hb (by go_size)
        have q12 : w11.heap.size + 0 ≤ w12.heap.size := by have z := hb.size; (try simp only [World.size_alloc, World.size_setCell, World.size_drew] at z); omega
        replace X := (X).below hb (by go_size)
        replace Y := (Y).below hb (by go_size)
        replace Z := (Z).below hb (by go_size)
        replace I := (I).below hb (by go_size)
        clear hb
        have s12 : w.heap.size ≤ w12.heap.size := B12.size
        clear X_c X_f X_l Y_c Y_f Y_l Z_c Z_f Z_l I_c I_f I_l
        obtain ⟨X_c, X_f, X_l⟩ := id X
        obtain ⟨Y_c, Y_f, Y_l⟩ := id Y
        obtain ⟨Z_c, Z_f, Z_l⟩ := id Z
        obtain ⟨I_c, I_f, I_l⟩ := id I
        try simp only [Act.put, List.setIfInBounds_toArray, List.set_cons_zero, List.set_cons_succ]
        repeat (first | (refine wpI_rd rfl rfl ?_; go_big_quiet_step (fail); refine wpQuiet_nil ?_) | (refine wpI_skip rfl rfl ?_; try simp only [Act.put, List.setIfInBounds_toArray, List.set_cons_zero, List.set_cons_succ]))
        try simp only [Act.put, List.setIfInBounds_toArray, List.set_cons_zero, List.set_cons_succ]
        refine wpI_call (f := 32) rfl rfl rfl (by simp [go_sem]; rfl) ?_
        refine (C2.out _ (K.out.below B12 (Nat.le_refl _)) (HI.out.below B12 hltb (Nat.le_refl _)).lo).mono ?_
        rintro e w13 ⟨rfl, hb⟩
        refine ⟨_, rfl, hb, ?_⟩
        skip
        have B13 : Below w.heap.size w w13 := bcall (by go_grown) hb (by go_size)
        have q13 : w12.heap.size + 0 ≤ w13.heap.size := by have z := hb.size; (try simp only [World.size_alloc, World.size_setCell, World.size_drew] at z); omega
        replace X := (X).below hb (by go_size)
        replace Y := (Y).below hb (by go_size)
        replace Z := (Z).below hb (by go_size)
        replace I := (I).below hb (by go_size)
        clear hb
        have s13 : w.heap.size ≤ w13.heap.size := B13.size
        clear X_c X_f X_l Y_c Y_f Y_l Z_c Z_f Z_l I_c I_f I_l
        obtain ⟨X_c, X_f, X_l⟩ := id X
        obtain ⟨Y_c, Y_f, Y_l⟩ := id Y
        obtain ⟨Z_c, Z_f, Z_l⟩ := id Z
        obtain ⟨I_c, I_f, I_l⟩ := id I
        try simp only [Act.put, List.setIfInBounds_toArray, List.set_cons_zero, List.set_cons_succ]
        clear C1 C2
        cases b1_ with
        | true =>
          cases b2_ with
          | true =>
            have E : Hid (rest = AB) := Lib.hid (by rw [← ST.out]; simp)
            clear ST
            repeat (first | (refine wpI_rd rfl rfl ?_; go_big_quiet_step (fail); refine wpQuiet_nil ?_) | (refine wpI_skip rfl rfl ?_; try simp only [Act.put, List.setIfInBounds_toArray, List.set_cons_zero, List.set_cons_succ]))
            try simp only [Act.put, List.setIfInBounds_toArray, List.set_cons_zero, List.set_cons_succ]
            refine wpI_nil ?_
            try simp only [Act.put, List.setIfInBounds_toArray, List.set_cons_zero, List.set_cons_succ]
            go_wp2_with fail
            go_roundw
            case rel => exact ⟨k + 1, hlt2, by go_num, ⟨X, Y, Z⟩, B13, Lib.hid (HR.out.trans E.out)⟩
            case measure => simp [intOf]; omega
          | false =>
            have E : Hid (false = AB) := Lib.hid (by rw [← ST.out]; rfl)
            clear ST
            repeat (first | (refine wpI_rd rfl rfl ?_; go_big_quiet_step (fail); refine wpQuiet_nil ?_) | (refine wpI_skip rfl rfl ?_; try simp only [Act.put, List.setIfInBounds_toArray, List.set_cons_zero, List.set_cons_succ]))
            try simp only [Act.put, List.setIfInBounds_toArray, List.set_cons_zero, List.set_cons_succ]
            refine wpI_nil ?_
            try simp only [Act.put, List.setIfInBounds_toArray, List.set_cons_zero, List.set_cons_succ]
            go_wp2_with fail
            go_ret
            exact ⟨by rw [← E.out]; rfl, by go_grown⟩
        | false =>
          cases b2_ with
          | true =>
            have E : Hid (false = AB) := Lib.hid (by rw [← ST.out]; rfl)
            clear ST
            repeat (first | (refine wpI_rd rfl rfl ?_; go_big_quiet_step (fail); refine wpQuiet_nil ?_) | (refine wpI_skip rfl rfl ?_; try simp only [Act.put, List.setIfInBounds_toArray, List.set_cons_zero, List.set_cons_succ]))
            try simp only [Act.put, List.setIfInBounds_toArray, List.set_cons_zero, List.set_cons_succ]
            refine wpI_nil ?_
            try simp only [Act.put, List.setIfInBounds_toArray, List.set_cons_zero, List.set_cons_succ]
            go_wp2_with fail
            go_ret
            exact ⟨by rw [← E.out]; rfl, by go_grown⟩
          | false =>
            have E : Hid (rest = AB) := Lib.hid (by rw [← ST.out]; simp)
            clear ST
            repeat (first | (refine wpI_rd rfl rfl ?_; go_big_quiet_step (fail); refine wpQuiet_nil ?_) | (refine wpI_skip rfl rfl ?_; try simp only [Act.put, List.setIfInBounds_toArray, List.set_cons_zero, List.set_cons_succ]))
            try simp only [Act.put, List.setIfInBounds_toArray, List.set_cons_zero, List.set_cons_succ]
            refine wpI_nil ?_
            try simp only [Act.put, List.setIfInBounds_toArray, List.set_cons_zero, List.set_cons_succ]
            go_wp2_with fail
            go_roundw
            case rel => exact ⟨k + 1, hlt2, by go_num, ⟨X, Y, Z⟩, B13, Lib.hid (HR.out.trans E.out)⟩
            case measure => simp [intOf]; omega
      | false =>
        rw [hu] at e8 ST
        clear hu
        go_wp2_with fail
        have B10 : Below w.heap.size w (wr.alloc (.cells #[.int .i64 x.lo.maj, .int .i64 x.lo.min, .int .i64 x.lo.pat, .slice a1 x.lo.pre.length c1, .int .i64 x.hi.maj, .int .i64 x.hi.min, .int .i64 x.hi.pat, .slice b1 x.hi.pre.length d1, .bool false] 58)) := by go_grown
        have q10 : wr.heap.size + 1 ≤ (wr.alloc (.cells #[.int .i64 x.lo.maj, .int .i64 x.lo.min, .int .i64 x.lo.pat, .slice a1 x.lo.pre.length c1, .int .i64 x.hi.maj, .int .i64 x.hi.min, .int .i64 x.hi.pat, .slice b1 x.hi.pre.length d1, .bool false] 58)).heap.size := by simp only [World.size_alloc]; omega
        replace X := (X.alloc (.cells #[.int .i64 x.lo.maj, .int .i64 x.lo.min, .int .i64 x.lo.pat, .slice a1 x.lo.pre.length c1, .int .i64 x.hi.maj, .int .i64 x.hi.min, .int .i64 x.hi.pat, .slice b1 x.hi.pre.length d1, .bool false] 58))
        replace Y := (Y.alloc (.cells #[.int .i64 x.lo.maj, .int .i64 x.lo.min, .int .i64 x.lo.pat, .slice a1 x.lo.pre.length c1, .int .i64 x.hi.maj, .int .i64 x.hi.min, .int .i64 x.hi.pat, .slice b1 x.hi.pre.length d1, .bool false] 58))
        replace Z := (Z.alloc (.cells #[.int .i64 x.lo.maj, .int .i64 x.lo.min, .int .i64 x.lo.pat, .slice a1 x.lo.pre.length c1, .int .i64 x.hi.maj, .int .i64 x.hi.min, .int .i64 x.hi.pat, .slice b1 x.hi.pre.length d1, .bool false] 58))
        have I := (Bk.new (r := wr.heap.size) (cs := [.int .i64 x.lo.maj, .int .i64 x.lo.min, .int .i64 x.lo.pat, .slice a1 x.lo.pre.length c1, .int .i64 x.hi.maj, .int .i64 x.hi.min, .int .i64 x.hi.pat, .slice b1 x.hi.pre.length d1, .bool false]) wr 58 (by simp))
        clear X_c X_f X_l Y_c Y_f Y_l Z_c Z_f Z_l
        generalize (wr.alloc (.cells #[.int .i64 x.lo.maj, .int .i64 x.lo.min, .int .i64 x.lo.pat, .slice a1 x.lo.pre.length c1, .int .i64 x.hi.maj, .int .i64 x.hi.min, .int .i64 x.hi.pat, .slice b1 x.hi.pre.length d1, .bool false] 58)) = w10 at *
        have s10 : w.heap.size ≤ w10.heap.size := B10.size
        obtain ⟨X_c, X_f, X_l⟩ := id X
        obtain ⟨Y_c, Y_f, Y_l⟩ := id Y
        obtain ⟨Z_c, Z_f, Z_l⟩ := id Z
        obtain ⟨I_c, I_f, I_l⟩ := id I
        clear e0 e1 e2 e3 e4 e5 e6 e7 e8
        refine wp_region_ord [0, 1, 2, 4, 5, 6, 3, 7, 8, 9, 10, 11, 12, 13, 14, 15, 16, 18, 19, 20, 17, 21, 22, 23, 24] (by kernel_rfl) (by kernel_rfl) ?_
        have B11 : Below w.heap.size w w10.drew := by go_grown
        have q11 : w10.heap.size + 0 ≤ w10.drew.heap.size := by simp only [World.size_drew]; omega
        replace X := X.drew
        replace Y := Y.drew
        replace Z := Z.drew
        replace I := I.drew
        clear X_c X_f X_l Y_c Y_f Y_l Z_c Z_f Z_l I_c I_f I_l
        generalize w10.drew = w11 at *
        have s11 : w.heap.size ≤ w11.heap.size := B11.size
        obtain ⟨X_c, X_f, X_l⟩ := id X
        obtain ⟨Y_c, Y_f, Y_l⟩ := id Y
        obtain ⟨Z_c, Z_f, Z_l⟩ := id Z
        obtain ⟨I_c, I_f, I_l⟩ := id I
        repeat (first | (refine wpI_rd rfl rfl ?_; go_big_quiet_step (fail); refine wpQuiet_nil ?_) | (refine wpI_skip rfl rfl ?_; try simp only [Act.put, List.setIfInBounds_toArray, List.set_cons_zero, List.set_cons_succ]))
        try simp only [Act.put, List.setIfInBounds_toArray, List.set_cons_zero, List.set_cons_succ]
        refine wpI_call (f := 32) rfl rfl rfl (by simp [go_sem]; rfl) ?_
        refine (C1.out _ (H.out.below B11 (Nat.le_refl _)) (HI.out.below B11 hltb (Nat.le_refl _)).lo).mono ?_
        rintro e w12 ⟨rfl, hb⟩
        refine ⟨_, rfl, hb, ?_⟩
        skip
        have B12 : Below w.heap.size w w12 := bcall (by go_grown) hb (by go_size)
        have q12 : w11.heap.size + 0 ≤ w12.heap.size := by have z := hb.size; (try simp only [World.size_alloc, World.size_setCell, World.size_drew] at z); omega
        replace X := (X).below hb (by go_size)
        replace Y := (Y).below hb (by go_size)
        replace Z := (Z).below hb (by go_size)
        replace I := (I).below hb (by go_size)
        clear hb
        have s12 : w.heap.size ≤ w12.heap.size := B12.size
        clear X_c X_f X_l Y_c Y_f Y_l Z_c Z_f Z_l I_c I_f I_l
        obtain ⟨X_c, X_f, X_l⟩ := id X
        obtain ⟨Y_c, Y_f, Y_l⟩ := id Y
        obtain ⟨Z_c, Z_f, Z_l⟩ := id Z
        obtain ⟨I_c, I_f, I_l⟩ := id I
        try simp only [Act.put, List.setIfInBounds_toArray, List.set_cons_zero, List.set_cons_succ]
        repeat (first | (refine wpI_rd rfl rfl ?_; go_big_quiet_step (fail); refine wpQuiet_nil ?_) | (refine wpI_skip rfl rfl ?_; try simp only [Act.put, List.setIfInBounds_toArray, List.set_cons_zero, List.set_cons_succ]))
        try simp only [Act.put, List.setIfInBounds_toArray, List.set_cons_zero, List.set_cons_succ]
        refine wpI_call (f := 32) rfl rfl rfl (by simp [go_sem]; rfl) ?_
        refine (C2.out _ (K.out.below B12 (Nat.le_refl _)) (HI.out.below B12 hltb (Nat.le_refl _)).lo).mono ?_
        rintro e w13 ⟨rfl, hb⟩
        refine ⟨_, rfl, hb, ?_⟩
        skip
        have B13 : Below w.heap.size w w13 := bcall (by go_grown) hb (by go_size)
        have q13 : w12.heap.size + 0 ≤ w13.heap.size := by have z := hb.size; (try simp only [World.size_alloc, World.size_setCell, World.size_drew] at z); omega
        replace X := (X).below hb (by go_size)
        replace Y := (Y).below hb (by go_size)
        replace Z := (Z).below hb (by go_size)
        replace I := (I).below hb (by go_size)
        clear hb
        have s13 : w.heap.size ≤ w13.heap.size := B13.size
        clear X_c X_f X_l Y_c Y_f Y_l Z_c Z_f Z_l I_c I_f I_l
        obtain ⟨X_c, X_f, X_l⟩ := id X
        obtain ⟨Y_c, Y_f, Y_l⟩ := id Y
        obtain ⟨Z_c, Z_f, Z_l⟩ := id Z
        obtain ⟨I_c, I_f, I_l⟩ := id I
        try simp only [Act.put, List.setIfInBounds_toArray, List.set_cons_zero, List.set_cons_succ]
        clear C1 C2
        cases b1_ with
        | true =>
          cases b2_ with
          | true =>
            repeat (first | (refine wpI_rd rfl rfl ?_; go_big_quiet_step (fail); refine wpQuiet_nil ?_) | (refine wpI_skip rfl rfl ?_; try simp only [Act.put, List.setIfInBounds_toArray, List.set_cons_zero, List.set_cons_succ]))
            try simp only [Act.put, List.setIfInBounds_toArray, List.set_cons_zero, List.set_cons_succ]
            refine wpI_call (f := 32) rfl rfl rfl (by simp [go_sem]; rfl) ?_
            refine (C3.out _ (H.out.below B13 (Nat.le_refl _)) (HI.out.below B13 hltb (Nat.le_refl _)).hi).mono ?_
            rintro e w14 ⟨rfl, hb⟩
            refine ⟨_, rfl, hb, ?_⟩
            skip
            have B14 : Below w.heap.size w w14 := bcall (by go_grown) hb (by go_size)
            have q14 : w13.heap.size + 0 ≤ w14.heap.size := by have z := hb.size; (try simp only [World.size_alloc, World.size_setCell, World.size_drew] at z); omega
            replace X := (X).below hb (by go_size)
            replace Y := (Y).below hb (by go_size)
            replace Z := (Z).below hb (by go_size)
            replace I := (I).below hb (by go_size)
            clear hb
            have s14 : w.heap.size ≤ w14.heap.size := B14.size
            clear X_c X_f X_l Y_c Y_f Y_l Z_c Z_f Z_l I_c I_f I_l
            obtain ⟨X_c, X_f, X_l⟩ := id X
            obtain ⟨Y_c, Y_f, Y_l⟩ := id Y
            obtain ⟨Z_c, Z_f, Z_l⟩ := id Z
            obtain ⟨I_c, I_f, I_l⟩ := id I
            try simp only [Act.put, List.setIfInBounds_toArray, List.set_cons_zero, List.set_cons_succ]
            repeat (first | (refine wpI_rd rfl rfl ?_; go_big_quiet_step (fail); refine wpQuiet_nil ?_) | (refine wpI_skip rfl rfl ?_; try simp only [Act.put, List.setIfInBounds_toArray, List.set_cons_zero, List.set_cons_succ]))
            try simp only [Act.put, List.setIfInBounds_toArray, List.set_cons_zero, List.set_cons_succ]
            refine wpI_call (f := 32) rfl rfl rfl (by simp [go_sem]; rfl) ?_
            refine (C4.out _ (K.out.below B14 (Nat.le_refl _)) (HI.out.below B14 hltb (Nat.le_refl _)).hi).mono ?_
            rintro e w15 ⟨rfl, hb⟩
            refine ⟨_, rfl, hb, ?_⟩
            skip
            have B15 : Below w.heap.size w w15 := bcall (by go_grown) hb (by go_size)
            have q15 : w14.heap.size + 0 ≤ w15.heap.size := by have z := hb.size; (try simp only [World.size_alloc, World.size_setCell, World.size_drew] at z); omega
            replace X := (X).below hb (by go_size)
            replace Y := (Y).below hb (by go_size)
            replace Z := (Z).below hb (by go_size)
            replace I := (I).below hb (by go_size)
            clear hb
            have s15 : w.heap.size ≤ w15.heap.size := B15.size
            clear X_c X_f X_l Y_c Y_f Y_l Z_c Z_f Z_l I_c I_f I_l
            obtain ⟨X_c, X_f, X_l⟩ := id X
            obtain ⟨Y_c, Y_f, Y_l⟩ := id Y
            obtain ⟨Z_c, Z_f, Z_l⟩ := id Z
            obtain ⟨I_c, I_f, I_l⟩ := id I
            try simp only [Act.put, List.setIfInBounds_toArray, List.set_cons_zero, List.set_cons_succ]
            clear C3 C4
            cases b3_ with
            | true =>
              cases b4_ with
              | true =>
                have E : Hid (rest = AB) := Lib.hid (by rw [← ST.out]; simp)
                clear ST
                repeat (first | (refine wpI_rd rfl rfl ?_; go_big_quiet_step (fail); refine wpQuiet_nil ?_) | (refine wpI_skip rfl rfl ?_; try simp only [Act.put, List.setIfInBounds_toArray, List.set_cons_zero, List.set_cons_succ]))
                try simp only [Act.put, List.setIfInBounds_toArray, List.set_cons_zero, List.set_cons_succ]
                refine wpI_nil ?_
                try simp only [Act.put, List.setIfInBounds_toArray, List.set_cons_zero, List.set_cons_succ]
                go_wp2_with fail
                go_roundw
                case rel => exact ⟨k + 1, hlt2, by go_num, ⟨X, Y, Z⟩, B15, Lib.hid (HR.out.trans E.out)⟩
                case measure => simp [intOf]; omega
              | false =>
                have E : Hid (false = AB) := Lib.hid (by rw [← ST.out]; rfl)
                clear ST
                repeat (first | (refine wpI_rd rfl rfl ?_; go_big_quiet_step (fail); refine wpQuiet_nil ?_) | (refine wpI_skip rfl rfl ?_; try simp only [Act.put, List.setIfInBounds_toArray, List.set_cons_zero, List.set_cons_succ]))
                try simp only [Act.put, List.setIfInBounds_toArray, List.set_cons_zero, List.set_cons_succ]
                refine wpI_nil ?_
                try simp only [Act.put, List.setIfInBounds_toArray, List.set_cons_zero, List.set_cons_succ]
                go_wp2_with fail
                go_ret
                exact ⟨by rw [← E.out]; rfl, by go_grown⟩
            | false =>
              cases b4_ with
              | true =>
                have E : Hid (false = AB) := Lib.hid (by rw [← ST.out]; rfl)
                clear ST
                repeat (first | (refine wpI_rd rfl rfl ?_; go_big_quiet_step (fail); refine wpQuiet_nil ?_) | (refine wpI_skip rfl rfl ?_; try simp only [Act.put, List.setIfInBounds_toArray, List.set_cons_zero, List.set_cons_succ]))
                try simp only [Act.put, List.setIfInBounds_toArray, List.set_cons_zero, List.set_cons_succ]
                refine wpI_nil ?_
                try simp only [Act.put, List.setIfInBounds_toArray, List.set_cons_zero, List.set_cons_succ]
                go_wp2_with fail
                go_ret
                exact ⟨by rw [← E.out]; rfl, by go_grown⟩
              | false =>
                have E : Hid (rest = AB) := Lib.hid (by rw [← ST.out]; simp)
                clear ST
                repeat (first | (refine wpI_rd rfl rfl ?_; go_big_quiet_step (fail); refine wpQuiet_nil ?_) | (refine wpI_skip rfl rfl ?_; try simp only [Act.put, List.setIfInBounds_toArray, List.set_cons_zero, List.set_cons_succ]))
                try simp only [Act.put, List.setIfInBounds_toArray, List.set_cons_zero, List.set_cons_succ]
                refine wpI_nil ?_
                try simp only [Act.put, List.setIfInBounds_toArray, List.set_cons_zero, List.set_cons_succ]
                go_wp2_with fail
                go_roundw
                case rel => exact ⟨k + 1, hlt2, by go_num, ⟨X, Y, Z⟩, B15, Lib.hid (HR.out.trans E.out)⟩
                case measure => simp [intOf]; omega
          | false =>
            have E : Hid (false = AB) := Lib.hid (by rw [← ST.out]; rfl)
            clear ST
            repeat (first | (refine wpI_rd rfl rfl ?_; go_big_quiet_step (fail); refine wpQuiet_nil ?_) | (refine wpI_skip rfl rfl ?_; try simp only [Act.put, List.setIfInBounds_toArray, List.set_cons_zero, List.set_cons_succ]))
            try simp only [Act.put, List.setIfInBounds_toArray, List.set_cons_zero, List.set_cons_succ]
            refine wpI_nil ?_
            try simp only [Act.put, List.setIfInBounds_toArray, List.set_cons_zero, List.set_cons_succ]
            go_wp2_with fail
            go_ret
            exact ⟨by rw [← E.out]; rfl, by go_grown⟩
        | false =>
          cases b2_ with
          | true =>
            have E : Hid (false = AB) := Lib.hid (by rw [← ST.out]; rfl)
            clear ST
            repeat (first | (refine wpI_rd rfl rfl ?_; go_big_quiet_step (fail); refine wpQuiet_nil ?_) | (refine wpI_skip rfl rfl ?_; try simp only [Act.put, List.setIfInBounds_toArray, List.set_cons_zero, List.set_cons_succ]))
            try simp only [Act.put, List.setIfInBounds_toArray, List.set_cons_zero, List.set_cons_succ]
            refine wpI_nil ?_
            try simp only [Act.put, List.setIfInBounds_toArray, List.set_cons_zero, List.set_cons_succ]
            go_wp2_with fail
            go_ret
            exact ⟨by rw [← E.out]; rfl, by go_grown⟩
          | false =>
            repeat (first | (refine wpI_rd rfl rfl ?_; go_big_quiet_step (fail); refine wpQuiet_nil ?_) | (refine wpI_skip rfl rfl ?_; try simp only [Act.put, List.setIfInBounds_toArray, List.set_cons_zero, List.set_cons_succ]))
            try simp only [Act.put, List.setIfInBounds_toArray, List.set_cons_zero, List.set_cons_succ]
            refine wpI_call (f := 32) rfl rfl rfl (by simp [go_sem]; rfl) ?_
            refine (C3.out _ (H.out.below B13 (Nat.le_refl _)) (HI.out.below B13 hltb (Nat.le_refl _)).hi).mono ?_
            rintro e w14 ⟨rfl, hb⟩
            refine ⟨_, rfl, hb, ?_⟩
            skip
            have B14 : Below w.heap.size w w14 := bcall (by go_grown) hb (by go_size)
            have q14 : w13.heap.size + 0 ≤ w14.heap.size := by have z := hb.size; (try simp only [World.size_alloc, World.size_setCell, World.size_drew] at z); omega
            replace X := (X).below hb (by go_size)
            replace Y := (Y).below hb (by go_size)
            replace Z := (Z).below hb (by go_size)
            replace I := (I).below hb (by go_size)
            clear hb
            have s14 : w.heap.size ≤ w14.heap.size := B14.size
            clear X_c X_f X_l Y_c Y_f Y_l Z_c Z_f Z_l I_c I_f I_l
            obtain ⟨X_c, X_f, X_l⟩ := id X
            obtain ⟨Y_c, Y_f, Y_l⟩ := id Y
            obtain ⟨Z_c, Z_f, Z_l⟩ := id Z
            obtain ⟨I_c, I_f, I_l⟩ := id I
            try simp only [Act.put, List.setIfInBounds_toArray, List.set_cons_zero, List.set_cons_succ]
            repeat (first | (refine wpI_rd rfl rfl ?_; go_big_quiet_step (fail); refine wpQuiet_nil ?_) | (refine wpI_skip rfl rfl ?_; try simp only [Act.put, List.setIfInBounds_toArray, List.set_cons_zero, List.set_cons_succ]))
            try simp only [Act.put, List.setIfInBounds_toArray, List.set_cons_zero, List.set_cons_succ]
            refine wpI_call (f := 32) rfl rfl rfl (by simp [go_sem]; rfl) ?_
            refine (C4.out _ (K.out.below B14 (Nat.le_refl _)) (HI.out.below B14 hltb (Nat.le_refl _)).hi).mono ?_
            rintro e w15 ⟨rfl, hb⟩
            refine ⟨_, rfl, hb, ?_⟩
            skip
            have B15 : Below w.heap.size w w15 := bcall (by go_grown) hb (by go_size)
            have q15 : w14.heap.size + 0 ≤ w15.heap.size := by have z := hb.size; (try simp only [World.size_alloc, World.size_setCell, World.size_drew] at z); omega
            replace X := (X).below hb (by go_size)
            replace Y := (Y).below hb (by go_size)
            replace Z := (Z).below hb (by go_size)
            replace I := (I).below hb (by go_size)
            clear hb
            have s15 : w.heap.size ≤ w15.heap.size := B15.size
            clear X_c X_f X_l Y_c Y_f Y_l Z_c Z_f Z_l I_c I_f I_l
            obtain ⟨X_c, X_f, X_l⟩ := id X
            obtain ⟨Y_c, Y_f, Y_l⟩ := id Y
            obtain ⟨Z_c, Z_f, Z_l⟩ := id Z
            obtain ⟨I_c, I_f, I_l⟩ := id I
            try simp only [Act.put, List.setIfInBounds_toArray, List.set_cons_zero, List.set_cons_succ]
            clear C3 C4
            cases b3_ with
            | true =>
              cases b4_ with
              | true =>
                have E : Hid (rest = AB) := Lib.hid (by rw [← ST.out]; simp)
                clear ST
                repeat (first | (refine wpI_rd rfl rfl ?_; go_big_quiet_step (fail); refine wpQuiet_nil ?_) | (refine wpI_skip rfl rfl ?_; try simp only [Act.put, List.setIfInBounds_toArray, List.set_cons_zero, List.set_cons_succ]))
                try simp only [Act.put, List.setIfInBounds_toArray, List.set_cons_zero, List.set_cons_succ]
                refine wpI_nil ?_
                try simp only [Act.put, List.setIfInBounds_toArray, List.set_cons_zero, List.set_cons_succ]
                go_wp2_with fail
                go_roundw
                case rel => exact ⟨k + 1, hlt2, by go_num, ⟨X, Y, Z⟩, B15, Lib.hid (HR.out.trans E.out)⟩
                case measure => simp [intOf]; omega
              | false =>
                have E : Hid (false = AB) := Lib.hid (by rw [← ST.out]; rfl)
                clear ST
                repeat (first | (refine wpI_rd rfl rfl ?_; go_big_quiet_step (fail); refine wpQuiet_nil ?_) | (refine wpI_skip rfl rfl ?_; try simp only [Act.put, List.setIfInBounds_toArray, List.set_cons_zero, List.set_cons_succ]))
                try simp only [Act.put, List.setIfInBounds_toArray, List.set_cons_zero, List.set_cons_succ]
                refine wpI_nil ?_
                try simp only [Act.put, List.setIfInBounds_toArray, List.set_cons_zero, List.set_cons_succ]
                go_wp2_with fail
                go_ret
                exact ⟨by rw [← E.out]; rfl, by go_grown⟩
            | false =>
              cases b4_ with
              | true =>
                have E : Hid (false = AB) := Lib.hid (by rw [← ST.out]; rfl)
                clear ST
                repeat (first | (refine wpI_rd rfl rfl ?_; go_big_quiet_step (fail); refine wpQuiet_nil ?_) | (refine wpI_skip rfl rfl ?_; try simp only [Act.put, List.setIfInBounds_toArray, List.set_cons_zero, List.set_cons_succ]))
                try simp only [Act.put, List.setIfInBounds_toArray, List.set_cons_zero, List.set_cons_succ]
                refine wpI_nil ?_
                try simp only [Act.put, List.setIfInBounds_toArray, List.set_cons_zero, List.set_cons_succ]
                go_wp2_with fail
                go_ret
                exact ⟨by rw [← E.out]; rfl, by go_grown⟩
              | false =>
                have E : Hid (rest = AB) := Lib.hid (by rw [← ST.out]; simp)
                clear ST
                repeat (first | (refine wpI_rd rfl rfl ?_; go_big_quiet_step (fail); refine wpQuiet_nil ?_) | (refine wpI_skip rfl rfl ?_; try simp only [Act.put, List.setIfInBounds_toArray, List.set_cons_zero, List.set_cons_succ]))
                try simp only [Act.put, List.setIfInBounds_toArray, List.set_cons_zero, List.set_cons_succ]
                refine wpI_nil ?_
                try simp only [Act.put, List.setIfInBounds_toArray, List.set_cons_zero, List.set_cons_succ]
                go_wp2_with fail
                go_roundw
                case rel => exact ⟨k + 1, hlt2, by go_num, ⟨X, Y, Z⟩, B15, Lib.hid (HR.out.trans E.out)⟩
                case measure => simp [intOf]; omega
    · have t5 : decide ((k : Int) < (t.length : Int)) = false := decF (by omega)
      have E : Hid (true = AB) := Lib.hid (by rw [← HU.out, List.drop_eq_nil_of_le (by omega)]; rfl)
      obtain ⟨X_c, X_f, X_l⟩ := id X
      obtain ⟨Y_c, Y_f, Y_l⟩ := id Y
      obtain ⟨Z_c, Z_f, Z_l⟩ := id Z
      go_wp2_with fail
      go_ret
      exact ⟨by rw [← E.out]; rfl, by go_grown⟩
end Go.Proofs.YtjfkmbehckdjlaaGreatDoor
