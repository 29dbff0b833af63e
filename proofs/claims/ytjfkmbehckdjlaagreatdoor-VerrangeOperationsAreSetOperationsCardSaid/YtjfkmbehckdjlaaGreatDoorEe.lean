/- Contract of the reference: are two ranges the same? -/
import Derived.Test.YtjfkmbehckdjlaaGreatDoorEz
import Derived.Test.YtjfkmbehckdjlaaGreatDoorDe
namespace Go.Proofs.YtjfkmbehckdjlaaGreatDoor
open Go.RowKit

def SameRes (r t : List Pl.Ivl) (w : World) (e : Ending) (w' : World) : Prop := (∃ g : Bool, e = .returned (.bool g) ∧ (g = true ↔ r = t)) ∧ Below w.heap.size w w'
/-- Two lists agree up to a place. -/
def Pl.IvEqTo (r t : List Pl.Ivl) (k : Nat) : Prop := ∀ j, j < k → r[j]? = t[j]?
theorem Pl.IvEqTo.succ {r t : List Pl.Ivl} {k : Nat} (h : Pl.IvEqTo r t k) (h1 : k < r.length) (h2 : k < t.length) (e : r[k] = t[k]) : Pl.IvEqTo r t (k + 1) := fun j hj => by
  by_cases hjk : j = k
  · subst hjk; rw [List.getElem?_eq_getElem h1, List.getElem?_eq_getElem h2, e]
  · exact h j (by omega)
theorem Pl.IvEqTo.all {r t : List Pl.Ivl} {k : Nat} (h : Pl.IvEqTo r t k) (h1 : r.length ≤ k) (hl : r.length = t.length) : r = t := by
  apply List.ext_getElem? 
  intro j
  by_cases hj : j < r.length
  · exact h j (by omega)
  · rw [List.getElem?_eq_none (by omega), List.getElem?_eq_none (by omega)]
theorem Pl.Ivl.ext' {x y : Pl.Ivl} (h1 : x.lo = y.lo) (h2 : x.hi = y.hi) (h3 : x.un = y.un) : x = y := by
  cases x; cases y; simp_all
set_option maxRecDepth 100000 in
set_option maxHeartbeats 16000000 in
theorem SameRange_any (r t : List Pl.Ivl) (a b : Option Addr) (c d : Nat) (w : World) (h1 : RIn w r a c) (h2 : RIn w t b d) :
    Calls Tryz.prog 25 #[.agg #[.slice a r.length c], .agg #[.slice b t.length d]] w (SameRes r t w) := by
  have hm1 := h1.len
  have hm2 := h2.len
  by_cases hl : r.length = t.length
  · have t1 : ((r.length : Int) != (t.length : Int)) = false := by rw [hl]; simp
    have H := Lib.hid h1
    have K := Lib.hid h2
    have HL := Lib.hid hl
    clear h1 h2 hl
    go_enter Tryz.func25, Tryz.ntmps25
    go_wp2_with fail
    have X := Bk.new (r := w.heap.size) (cs := [.slice a r.length c]) w 24 rfl
    have Y := Bk.new (r := w.heap.size + 1) (cs := [.slice b t.length d]) (w.alloc (.cells #[.slice a r.length c] 24)) 24 (by simp)
    replace X := X.alloc (.cells #[.slice b t.length d] 24)
    have B0 : Below w.heap.size w ((w.alloc (.cells #[.slice a r.length c] 24)).alloc (.cells #[.slice b t.length d] 24)) := by go_grown
    go_loopw [5] (fun i wr => ∃ k : Nat, k ≤ r.length ∧ i = .int .i64 k ∧ Hid (Pl.IvEqTo r t k) ∧ Bk wr w.heap.size [.slice a r.length c] ∧ Bk wr (w.heap.size + 1) [.slice b t.length d] ∧ Below w.heap.size w wr) (fun i _ => r.length - (intOf i).toNat)
    case atStart => exact ⟨0, Nat.zero_le _, rfl, Lib.hid (fun _ h => absurd h (by omega)), X, Y, B0⟩
    case round =>
      clear X Y B0
      obtain ⟨k, hk, rfl, hu, X, Y, B1⟩ := hrel
      have s1 := B1.size
      by_cases hlt2 : k < r.length
      · have hlt3 : k < t.length := by have := HL.out; omega
        obtain ⟨p, off, rfl, hlt, hat⟩ := (H.out.below B1 (Nat.le_refl _)).at (by omega)
        obtain ⟨q, off2, rfl, hltq, hat2⟩ := (K.out.below B1 (Nat.le_refl _)).at (by omega)
        obtain ⟨a1, b1, c1, d1, I⟩ := hat k hlt2
        obtain ⟨a2, b2, c2, d2, J⟩ := hat2 k hlt3
        have HS := Lib.hid (hu.out.succ hlt2 hlt3)
        have HN : Hid (r[k] ≠ t[k] → r ≠ t) := Lib.hid (fun h e => h (by subst e; rfl))
        have t9 : decide ((k : Int) < (r.length : Int)) = true := decT (by omega)
        clear hat hat2 hu
        obtain ⟨x, hx⟩ : ∃ x, r[k] = x := ⟨_, rfl⟩
        obtain ⟨y, hy⟩ : ∃ y, t[k] = y := ⟨_, rfl⟩
        rw [hx] at I HS HN
        rw [hy] at J HS HN
        clear hx hy
        obtain ⟨e0, e1, e2, e3, e4, e5, e6, e7, e8, VA, VB⟩ := I
        obtain ⟨g0, g1, g2, g3, g4, g5, g6, g7, g8, VC, VD⟩ := J
        replace VA := Lib.hid VA
        replace VB := Lib.hid VB
        replace VC := Lib.hid VC
        replace VD := Lib.hid VD
        obtain ⟨ux, hux⟩ : ∃ u, x.un = u := ⟨_, rfl⟩
        obtain ⟨uy, huy⟩ : ∃ u, y.un = u := ⟨_, rfl⟩
        rw [hux] at e8
        rw [huy] at g8
        have CL := Lib.hid (fun (W : World) (g1 : VIn W x.lo a1 c1) (g2 : VIn W y.lo a2 c2) => SameVersion_any x.lo y.lo a1 a2 c1 c2 W g1 g2)
        have CH := Lib.hid (fun (W : World) (g1 : VIn W x.hi b1 d1) (g2 : VIn W y.hi b2 d2) => SameVersion_any x.hi y.hi b1 b2 d1 d2 W g1 g2)
        obtain ⟨m1, hm3⟩ : ∃ m, Pl.sameB x.lo y.lo = m := ⟨_, rfl⟩
        obtain ⟨m2, hm4⟩ : ∃ m, Pl.sameB x.hi y.hi = m := ⟨_, rfl⟩
        rw [hm3] at CL
        rw [hm4] at CH
        have NE : Hid (ux ≠ uy → r ≠ t) := Lib.hid (fun h => HN.out (fun e => h (by rw [← hux, ← huy, e])))
        have N1 : Hid (m1 = false → r ≠ t) := Lib.hid (fun h => HN.out (fun e => by rw [e, Pl.sameB_iff.2 rfl] at hm3; rw [← hm3] at h; cases h))
        have N2 : Hid (m2 = false → r ≠ t) := Lib.hid (fun h => HN.out (fun e => by rw [e, Pl.sameB_iff.2 rfl] at hm4; rw [← hm4] at h; cases h))
        have NK : Hid (ux = uy → m1 = true → m2 = true → Pl.IvEqTo r t (k + 1)) := Lib.hid (fun e1 e2 e3 => HS.out (Pl.Ivl.ext' (Pl.sameB_iff.1 (hm3.trans e2)) (Pl.sameB_iff.1 (hm4.trans e3)) (by rw [hux, huy, e1])))
        clear HS HN hux huy hm3 hm4
        cases ux with
        | true =>
          cases uy with
          | true =>
            cases m1 with
            | false =>
              obtain ⟨X_c, X_f, X_l⟩ := id X
              obtain ⟨Y_c, Y_f, Y_l⟩ := id Y
              go_wp2_with fail
              refine (CL.out _ (VA.out.below (by go_grown) (Nat.le_refl _)) (VC.out.below (by go_grown) (Nat.le_refl _))).mono ?_
              rintro e w2 ⟨rfl, hb⟩
              have B2 : Below w.heap.size w w2 := bcall (by go_grown) hb (by go_size)
              have q2 : wr.heap.size + 2 ≤ w2.heap.size := by have z := hb.size; (try simp only [World.size_alloc] at z); omega
              replace VA := Lib.hid (((VA.out.below (Below.refl _ _ |>.alloc (Nat.le_refl _) _) (Nat.le_refl _)).below (Below.refl _ _ |>.alloc (Nat.le_refl _) _) (Nat.le_refl _)).below hb (Nat.le_refl _))
              replace VB := Lib.hid (((VB.out.below (Below.refl _ _ |>.alloc (Nat.le_refl _) _) (Nat.le_refl _)).below (Below.refl _ _ |>.alloc (Nat.le_refl _) _) (Nat.le_refl _)).below hb (Nat.le_refl _))
              replace VC := Lib.hid (((VC.out.below (Below.refl _ _ |>.alloc (Nat.le_refl _) _) (Nat.le_refl _)).below (Below.refl _ _ |>.alloc (Nat.le_refl _) _) (Nat.le_refl _)).below hb (Nat.le_refl _))
              replace VD := Lib.hid (((VD.out.below (Below.refl _ _ |>.alloc (Nat.le_refl _) _) (Nat.le_refl _)).below (Below.refl _ _ |>.alloc (Nat.le_refl _) _) (Nat.le_refl _)).below hb (Nat.le_refl _))
              replace X := (((X.alloc _).alloc _)).below hb (by go_size)
              replace Y := (((Y.alloc _).alloc _)).below hb (by go_size)
              have P := (((Bk.new (r := wr.heap.size) (cs := [.int .i64 x.lo.maj, .int .i64 x.lo.min, .int .i64 x.lo.pat, .slice a1 x.lo.pre.length c1, .int .i64 x.hi.maj, .int .i64 x.hi.min, .int .i64 x.hi.pat, .slice b1 x.hi.pre.length d1, .bool true]) _ 58 (by simp)).alloc _)).below hb (by go_size)
              have Q := ((Bk.new (r := wr.heap.size + 1) (cs := [.int .i64 y.lo.maj, .int .i64 y.lo.min, .int .i64 y.lo.pat, .slice a2 y.lo.pre.length c2, .int .i64 y.hi.maj, .int .i64 y.hi.min, .int .i64 y.hi.pat, .slice b2 y.hi.pre.length d2, .bool true]) _ 58 (by simp))).below hb (by go_size)
              clear hb
              have s2 : w.heap.size ≤ w2.heap.size := B2.size
              clear X_c X_f X_l Y_c Y_f Y_l
              obtain ⟨X_c, X_f, X_l⟩ := id X
              obtain ⟨Y_c, Y_f, Y_l⟩ := id Y
              obtain ⟨P_c, P_f, P_l⟩ := id P
              obtain ⟨Q_c, Q_f, Q_l⟩ := id Q
              clear e0 e1 e2 e3 e4 e5 e6 e7 e8 g0 g1 g2 g3 g4 g5 g6 g7 g8
              go_wp2_with fail
              go_ret
              exact ⟨⟨false, rfl, fun h => Bool.noConfusion h, fun h => absurd h (N1.out (by trivial))⟩, by go_grown⟩
            | true =>
              cases m2 with
              | false =>
                obtain ⟨X_c, X_f, X_l⟩ := id X
                obtain ⟨Y_c, Y_f, Y_l⟩ := id Y
                go_wp2_with fail
                refine (CL.out _ (VA.out.below (by go_grown) (Nat.le_refl _)) (VC.out.below (by go_grown) (Nat.le_refl _))).mono ?_
                rintro e w2 ⟨rfl, hb⟩
                have B2 : Below w.heap.size w w2 := bcall (by go_grown) hb (by go_size)
                have q2 : wr.heap.size + 2 ≤ w2.heap.size := by have z := hb.size; (try simp only [World.size_alloc] at z); omega
                replace VA := Lib.hid (((VA.out.below (Below.refl _ _ |>.alloc (Nat.le_refl _) _) (Nat.le_refl _)).below (Below.refl _ _ |>.alloc (Nat.le_refl _) _) (Nat.le_refl _)).below hb (Nat.le_refl _))
                replace VB := Lib.hid (((VB.out.below (Below.refl _ _ |>.alloc (Nat.le_refl _) _) (Nat.le_refl _)).below (Below.refl _ _ |>.alloc (Nat.le_refl _) _) (Nat.le_refl _)).below hb (Nat.le_refl _))
                replace VC := Lib.hid (((VC.out.below (Below.refl _ _ |>.alloc (Nat.le_refl _) _) (Nat.le_refl _)).below (Below.refl _ _ |>.alloc (Nat.le_refl _) _) (Nat.le_refl _)).below hb (Nat.le_refl _))
                replace VD := Lib.hid (((VD.out.below (Below.refl _ _ |>.alloc (Nat.le_refl _) _) (Nat.le_refl _)).below (Below.refl _ _ |>.alloc (Nat.le_refl _) _) (Nat.le_refl _)).below hb (Nat.le_refl _))
                replace X := (((X.alloc _).alloc _)).below hb (by go_size)
                replace Y := (((Y.alloc _).alloc _)).below hb (by go_size)
                have P := (((Bk.new (r := wr.heap.size) (cs := [.int .i64 x.lo.maj, .int .i64 x.lo.min, .int .i64 x.lo.pat, .slice a1 x.lo.pre.length c1, .int .i64 x.hi.maj, .int .i64 x.hi.min, .int .i64 x.hi.pat, .slice b1 x.hi.pre.length d1, .bool true]) _ 58 (by simp)).alloc _)).below hb (by go_size)
                have Q := ((Bk.new (r := wr.heap.size + 1) (cs := [.int .i64 y.lo.maj, .int .i64 y.lo.min, .int .i64 y.lo.pat, .slice a2 y.lo.pre.length c2, .int .i64 y.hi.maj, .int .i64 y.hi.min, .int .i64 y.hi.pat, .slice b2 y.hi.pre.length d2, .bool true]) _ 58 (by simp))).below hb (by go_size)
                clear hb
                have s2 : w.heap.size ≤ w2.heap.size := B2.size
                clear X_c X_f X_l Y_c Y_f Y_l
                obtain ⟨X_c, X_f, X_l⟩ := id X
                obtain ⟨Y_c, Y_f, Y_l⟩ := id Y
                obtain ⟨P_c, P_f, P_l⟩ := id P
                obtain ⟨Q_c, Q_f, Q_l⟩ := id Q
                clear e0 e1 e2 e3 e4 e5 e6 e7 e8 g0 g1 g2 g3 g4 g5 g6 g7 g8
                go_wp2_with fail
                refine (CH.out _ VB.out VD.out).mono ?_
                rintro e w3 ⟨rfl, hb⟩
                have B3 : Below w.heap.size w w3 := bcall (by go_grown) hb (by go_size)
                have q3 : w2.heap.size + 0 ≤ w3.heap.size := by have z := hb.size; (try simp only [World.size_alloc, World.size_setCell, World.size_drew] at z); omega
                replace VA := Lib.hid (VA.out.below hb (Nat.le_refl _))
                replace VB := Lib.hid (VB.out.below hb (Nat.le_refl _))
                replace VC := Lib.hid (VC.out.below hb (Nat.le_refl _))
                replace VD := Lib.hid (VD.out.below hb (Nat.le_refl _))
                replace X := (X).below hb (by go_size)
                replace Y := (Y).below hb (by go_size)
                replace P := (P).below hb (by go_size)
                replace Q := (Q).below hb (by go_size)
                clear hb
                have s3 : w.heap.size ≤ w3.heap.size := B3.size
                clear X_c X_f X_l Y_c Y_f Y_l P_c P_f P_l Q_c Q_f Q_l
                obtain ⟨X_c, X_f, X_l⟩ := id X
                obtain ⟨Y_c, Y_f, Y_l⟩ := id Y
                obtain ⟨P_c, P_f, P_l⟩ := id P
                obtain ⟨Q_c, Q_f, Q_l⟩ := id Q
                go_wp2_with fail
                go_ret
                exact ⟨⟨false, rfl, fun h => Bool.noConfusion h, fun h => absurd h (N2.out (by trivial))⟩, by go_grown⟩
              | true =>
                obtain ⟨X_c, X_f, X_l⟩ := id X
                obtain ⟨Y_c, Y_f, Y_l⟩ := id Y
                go_wp2_with fail
                refine (CL.out _ (VA.out.below (by go_grown) (Nat.le_refl _)) (VC.out.below (by go_grown) (Nat.le_refl _))).mono ?_
                rintro e w2 ⟨rfl, hb⟩
                have B2 : Below w.heap.size w w2 := bcall (by go_grown) hb (by go_size)
                have q2 : wr.heap.size + 2 ≤ w2.heap.size := by have z := hb.size; (try simp only [World.size_alloc] at z); omega
                replace VA := Lib.hid (((VA.out.below (Below.refl _ _ |>.alloc (Nat.le_refl _) _) (Nat.le_refl _)).below (Below.refl _ _ |>.alloc (Nat.le_refl _) _) (Nat.le_refl _)).below hb (Nat.le_refl _))
                replace VB := Lib.hid (((VB.out.below (Below.refl _ _ |>.alloc (Nat.le_refl _) _) (Nat.le_refl _)).below (Below.refl _ _ |>.alloc (Nat.le_refl _) _) (Nat.le_refl _)).below hb (Nat.le_refl _))
                replace VC := Lib.hid (((VC.out.below (Below.refl _ _ |>.alloc (Nat.le_refl _) _) (Nat.le_refl _)).below (Below.refl _ _ |>.alloc (Nat.le_refl _) _) (Nat.le_refl _)).below hb (Nat.le_refl _))
                replace VD := Lib.hid (((VD.out.below (Below.refl _ _ |>.alloc (Nat.le_refl _) _) (Nat.le_refl _)).below (Below.refl _ _ |>.alloc (Nat.le_refl _) _) (Nat.le_refl _)).below hb (Nat.le_refl _))
                replace X := (((X.alloc _).alloc _)).below hb (by go_size)
                replace Y := (((Y.alloc _).alloc _)).below hb (by go_size)
                have P := (((Bk.new (r := wr.heap.size) (cs := [.int .i64 x.lo.maj, .int .i64 x.lo.min, .int .i64 x.lo.pat, .slice a1 x.lo.pre.length c1, .int .i64 x.hi.maj, .int .i64 x.hi.min, .int .i64 x.hi.pat, .slice b1 x.hi.pre.length d1, .bool true]) _ 58 (by simp)).alloc _)).below hb (by go_size)
                have Q := ((Bk.new (r := wr.heap.size + 1) (cs := [.int .i64 y.lo.maj, .int .i64 y.lo.min, .int .i64 y.lo.pat, .slice a2 y.lo.pre.length c2, .int .i64 y.hi.maj, .int .i64 y.hi.min, .int .i64 y.hi.pat, .slice b2 y.hi.pre.length d2, .bool true]) _ 58 (by simp))).below hb (by go_size)
                clear hb
                have s2 : w.heap.size ≤ w2.heap.size := B2.size
                clear X_c X_f X_l Y_c Y_f Y_l
                obtain ⟨X_c, X_f, X_l⟩ := id X
                obtain ⟨Y_c, Y_f, Y_l⟩ := id Y
                obtain ⟨P_c, P_f, P_l⟩ := id P
                obtain ⟨Q_c, Q_f, Q_l⟩ := id Q
                clear e0 e1 e2 e3 e4 e5 e6 e7 e8 g0 g1 g2 g3 g4 g5 g6 g7 g8
                go_wp2_with fail
                refine (CH.out _ VB.out VD.out).mono ?_
                rintro e w3 ⟨rfl, hb⟩
                have B3 : Below w.heap.size w w3 := bcall (by go_grown) hb (by go_size)
                have q3 : w2.heap.size + 0 ≤ w3.heap.size := by have z := hb.size; (try simp only [World.size_alloc, World.size_setCell, World.size_drew] at z); omega
                replace VA := Lib.hid (VA.out.below hb (Nat.le_refl _))
                replace VB := Lib.hid (VB.out.below hb (Nat.le_refl _))
                replace VC := Lib.hid (VC.out.below hb (Nat.le_refl _))
                replace VD := Lib.hid (VD.out.below hb (Nat.le_refl _))
                replace X := (X).below hb (by go_size)
                replace Y := (Y).below hb (by go_size)
                replace P := (P).below hb (by go_size)
                replace Q := (Q).below hb (by go_size)
                clear hb
                have s3 : w.heap.size ≤ w3.heap.size := B3.size
                clear X_c X_f X_l Y_c Y_f Y_l P_c P_f P_l Q_c Q_f Q_l
                obtain ⟨X_c, X_f, X_l⟩ := id X
                obtain ⟨Y_c, Y_f, Y_l⟩ := id Y
                obtain ⟨P_c, P_f, P_l⟩ := id P
                obtain ⟨Q_c, Q_f, Q_l⟩ := id Q
                go_wp2_with fail
                go_roundw
                case rel => exact ⟨k + 1, hlt2, by go_num, Lib.hid (NK.out (by trivial) (by trivial) (by trivial)), X, Y, B3⟩
                case measure => simp [intOf]; omega
          | false =>
            obtain ⟨X_c, X_f, X_l⟩ := id X
            obtain ⟨Y_c, Y_f, Y_l⟩ := id Y
            go_wp2_with fail
            go_ret
            exact ⟨⟨false, rfl, fun h => Bool.noConfusion h, fun h => absurd h (NE.out (by decide))⟩, by go_grown⟩
        | false =>
          cases uy with
          | true =>
            obtain ⟨X_c, X_f, X_l⟩ := id X
            obtain ⟨Y_c, Y_f, Y_l⟩ := id Y
            go_wp2_with fail
            go_ret
            exact ⟨⟨false, rfl, fun h => Bool.noConfusion h, fun h => absurd h (NE.out (by decide))⟩, by go_grown⟩
          | false =>
            cases m1 with
            | false =>
              obtain ⟨X_c, X_f, X_l⟩ := id X
              obtain ⟨Y_c, Y_f, Y_l⟩ := id Y
              go_wp2_with fail
              refine (CL.out _ (VA.out.below (by go_grown) (Nat.le_refl _)) (VC.out.below (by go_grown) (Nat.le_refl _))).mono ?_
              rintro e w2 ⟨rfl, hb⟩
              have B2 : Below w.heap.size w w2 := bcall (by go_grown) hb (by go_size)
              have q2 : wr.heap.size + 2 ≤ w2.heap.size := by have z := hb.size; (try simp only [World.size_alloc] at z); omega
              replace VA := Lib.hid (((VA.out.below (Below.refl _ _ |>.alloc (Nat.le_refl _) _) (Nat.le_refl _)).below (Below.refl _ _ |>.alloc (Nat.le_refl _) _) (Nat.le_refl _)).below hb (Nat.le_refl _))
              replace VB := Lib.hid (((VB.out.below (Below.refl _ _ |>.alloc (Nat.le_refl _) _) (Nat.le_refl _)).below (Below.refl _ _ |>.alloc (Nat.le_refl _) _) (Nat.le_refl _)).below hb (Nat.le_refl _))
              replace VC := Lib.hid (((VC.out.below (Below.refl _ _ |>.alloc (Nat.le_refl _) _) (Nat.le_refl _)).below (Below.refl _ _ |>.alloc (Nat.le_refl _) _) (Nat.le_refl _)).below hb (Nat.le_refl _))
              replace VD := Lib.hid (((VD.out.below (Below.refl _ _ |>.alloc (Nat.le_refl _) _) (Nat.le_refl _)).below (Below.refl _ _ |>.alloc (Nat.le_refl _) _) (Nat.le_refl _)).below hb (Nat.le_refl _))
              replace X := (((X.alloc _).alloc _)).below hb (by go_size)
              replace Y := (((Y.alloc _).alloc _)).below hb (by go_size)
              have P := (((Bk.new (r := wr.heap.size) (cs := [.int .i64 x.lo.maj, .int .i64 x.lo.min, .int .i64 x.lo.pat, .slice a1 x.lo.pre.length c1, .int .i64 x.hi.maj, .int .i64 x.hi.min, .int .i64 x.hi.pat, .slice b1 x.hi.pre.length d1, .bool false]) _ 58 (by simp)).alloc _)).below hb (by go_size)
              have Q := ((Bk.new (r := wr.heap.size + 1) (cs := [.int .i64 y.lo.maj, .int .i64 y.lo.min, .int .i64 y.lo.pat, .slice a2 y.lo.pre.length c2, .int .i64 y.hi.maj, .int .i64 y.hi.min, .int .i64 y.hi.pat, .slice b2 y.hi.pre.length d2, .bool false]) _ 58 (by simp))).below hb (by go_size)
              clear hb
              have s2 : w.heap.size ≤ w2.heap.size := B2.size
              clear X_c X_f X_l Y_c Y_f Y_l
              obtain ⟨X_c, X_f, X_l⟩ := id X
              obtain ⟨Y_c, Y_f, Y_l⟩ := id Y
              obtain ⟨P_c, P_f, P_l⟩ := id P
              obtain ⟨Q_c, Q_f, Q_l⟩ := id Q
              clear e0 e1 e2 e3 e4 e5 e6 e7 e8 g0 g1 g2 g3 g4 g5 g6 g7 g8
              go_wp2_with fail
              go_ret
              exact ⟨⟨false, rfl, fun h => Bool.noConfusion h, fun h => absurd h (N1.out (by trivial))⟩, by go_grown⟩
            | true =>
              cases m2 with
              | false =>
                obtain ⟨X_c, X_f, X_l⟩ := id X
                obtain ⟨Y_c, Y_f, Y_l⟩ := id Y
                go_wp2_with fail
                refine (CL.out _ (VA.out.below (by go_grown) (Nat.le_refl _)) (VC.out.below (by go_grown) (Nat.le_refl _))).mono ?_
                rintro e w2 ⟨rfl, hb⟩
                have B2 : Below w.heap.size w w2 := bcall (by go_grown) hb (by go_size)
                have q2 : wr.heap.size + 2 ≤ w2.heap.size := by have z := hb.size; (try simp only [World.size_alloc] at z); omega
                replace VA := Lib.hid (((VA.out.below (Below.refl _ _ |>.alloc (Nat.le_refl _) _) (Nat.le_refl _)).below (Below.refl _ _ |>.alloc (Nat.le_refl _) _) (Nat.le_refl _)).below hb (Nat.le_refl _))
                replace VB := Lib.hid (((VB.out.below (Below.refl _ _ |>.alloc (Nat.le_refl _) _) (Nat.le_refl _)).below (Below.refl _ _ |>.alloc (Nat.le_refl _) _) (Nat.le_refl _)).below hb (Nat.le_refl _))
                replace VC := Lib.hid (((VC.out.below (Below.refl _ _ |>.alloc (Nat.le_refl _) _) (Nat.le_refl _)).below (Below.refl _ _ |>.alloc (Nat.le_refl _) _) (Nat.le_refl _)).below hb (Nat.le_refl _))
                replace VD := Lib.hid (((VD.out.below (Below.refl _ _ |>.alloc (Nat.le_refl _) _) (Nat.le_refl _)).below (Below.refl _ _ |>.alloc (Nat.le_refl _) _) (Nat.le_refl _)).below hb (Nat.le_refl _))
                replace X := (((X.alloc _).alloc _)).below hb (by go_size)
                replace Y := (((Y.alloc _).alloc _)).below hb (by go_size)
                have P := (((Bk.new (r := wr.heap.size) (cs := [.int .i64 x.lo.maj, .int .i64 x.lo.min, .int .i64 x.lo.pat, .slice a1 x.lo.pre.length c1, .int .i64 x.hi.maj, .int .i64 x.hi.min, .int .i64 x.hi.pat, .slice b1 x.hi.pre.length d1, .bool false]) _ 58 (by simp)).alloc _)).below hb (by go_size)
                have Q := ((Bk.new (r := wr.heap.size + 1) (cs := [.int .i64 y.lo.maj, .int .i64 y.lo.min, .int .i64 y.lo.pat, .slice a2 y.lo.pre.length c2, .int .i64 y.hi.maj, .int .i64 y.hi.min, .int .i64 y.hi.pat, .slice b2 y.hi.pre.length d2, .bool false]) _ 58 (by simp))).below hb (by go_size)
                clear hb
                have s2 : w.heap.size ≤ w2.heap.size := B2.size
                clear X_c X_f X_l Y_c Y_f Y_l
                obtain ⟨X_c, X_f, X_l⟩ := id X
                obtain ⟨Y_c, Y_f, Y_l⟩ := id Y
                obtain ⟨P_c, P_f, P_l⟩ := id P
                obtain ⟨Q_c, Q_f, Q_l⟩ := id Q
                clear e0 e1 e2 e3 e4 e5 e6 e7 e8 g0 g1 g2 g3 g4 g5 g6 g7 g8
                go_wp2_with fail
                refine (CH.out _ VB.out VD.out).mono ?_
                rintro e w3 ⟨rfl, hb⟩
                have B3 : Below w.heap.size w w3 := bcall (by go_grown) hb (by go_size)
                have q3 : w2.heap.size + 0 ≤ w3.heap.size := by have z := hb.size; (try simp only [World.size_alloc, World.size_setCell, World.size_drew] at z); omega
                replace VA := Lib.hid (VA.out.below hb (Nat.le_refl _))
                replace VB := Lib.hid (VB.out.below hb (Nat.le_refl _))
                replace VC := Lib.hid (VC.out.below hb (Nat.le_refl _))
                replace VD := Lib.hid (VD.out.below hb (Nat.le_refl _))
                replace X := (X).below hb (by go_size)
                replace Y := (Y).below hb (by go_size)
                replace P := (P).below hb (by go_size)
                replace Q := (Q).below hb (by go_size)
                clear hb
                have s3 : w.heap.size ≤ w3.heap.size := B3.size
                clear X_c X_f X_l Y_c Y_f Y_l P_c P_f P_l Q_c Q_f Q_l
                obtain ⟨X_c, X_f, X_l⟩ := id X
                obtain ⟨Y_c, Y_f, Y_l⟩ := id Y
                obtain ⟨P_c, P_f, P_l⟩ := id P
                obtain ⟨Q_c, Q_f, Q_l⟩ := id Q
                go_wp2_with fail
                go_ret
                exact ⟨⟨false, rfl, fun h => Bool.noConfusion h, fun h => absurd h (N2.out (by trivial))⟩, by go_grown⟩
              | true =>
                obtain ⟨X_c, X_f, X_l⟩ := id X
                obtain ⟨Y_c, Y_f, Y_l⟩ := id Y
                go_wp2_with fail
                refine (CL.out _ (VA.out.below (by go_grown) (Nat.le_refl _)) (VC.out.below (by go_grown) (Nat.le_refl _))).mono ?_
                rintro e w2 ⟨rfl, hb⟩
                have B2 : Below w.heap.size w w2 := bcall (by go_grown) hb (by go_size)
                have q2 : wr.heap.size + 2 ≤ w2.heap.size := by have z := hb.size; (try simp only [World.size_alloc] at z); omega
                replace VA := Lib.hid (((VA.out.below (Below.refl _ _ |>.alloc (Nat.le_refl _) _) (Nat.le_refl _)).below (Below.refl _ _ |>.alloc (Nat.le_refl _) _) (Nat.le_refl _)).below hb (Nat.le_refl _))
                replace VB := Lib.hid (((VB.out.below (Below.refl _ _ |>.alloc (Nat.le_refl _) _) (Nat.le_refl _)).below (Below.refl _ _ |>.alloc (Nat.le_refl _) _) (Nat.le_refl _)).below hb (Nat.le_refl _))
                replace VC := Lib.hid (((VC.out.below (Below.refl _ _ |>.alloc (Nat.le_refl _) _) (Nat.le_refl _)).below (Below.refl _ _ |>.alloc (Nat.le_refl _) _) (Nat.le_refl _)).below hb (Nat.le_refl _))
                replace VD := Lib.hid (((VD.out.below (Below.refl _ _ |>.alloc (Nat.le_refl _) _) (Nat.le_refl _)).below (Below.refl _ _ |>.alloc (Nat.le_refl _) _) (Nat.le_refl _)).below hb (Nat.le_refl _))
                replace X := (((X.alloc _).alloc _)).below hb (by go_size)
                replace Y := (((Y.alloc _).alloc _)).below hb (by go_size)
                have P := (((Bk.new (r := wr.heap.size) (cs := [.int .i64 x.lo.maj, .int .i64 x.lo.min, .int .i64 x.lo.pat, .slice a1 x.lo.pre.length c1, .int .i64 x.hi.maj, .int .i64 x.hi.min, .int .i64 x.hi.pat, .slice b1 x.hi.pre.length d1, .bool false]) _ 58 (by simp)).alloc _)).below hb (by go_size)
                have Q := ((Bk.new (r := wr.heap.size + 1) (cs := [.int .i64 y.lo.maj, .int .i64 y.lo.min, .int .i64 y.lo.pat, .slice a2 y.lo.pre.length c2, .int .i64 y.hi.maj, .int .i64 y.hi.min, .int .i64 y.hi.pat, .slice b2 y.hi.pre.length d2, .bool false]) _ 58 (by simp))).below hb (by go_size)
                clear hb
                have s2 : w.heap.size ≤ w2.heap.size := B2.size
                clear X_c X_f X_l Y_c Y_f Y_l
                obtain ⟨X_c, X_f, X_l⟩ := id X
                obtain ⟨Y_c, Y_f, Y_l⟩ := id Y
                obtain ⟨P_c, P_f, P_l⟩ := id P
                obtain ⟨Q_c, Q_f, Q_l⟩ := id Q
                clear e0 e1 e2 e3 e4 e5 e6 e7 e8 g0 g1 g2 g3 g4 g5 g6 g7 g8
                go_wp2_with fail
                refine (CH.out _ VB.out VD.out).mono ?_
                rintro e w3 ⟨rfl, hb⟩
                have B3 : Below w.heap.size w w3 := bcall (by go_grown) hb (by go_size)
                have q3 : w2.heap.size + 0 ≤ w3.heap.size := by have z := hb.size; (try simp only [World.size_alloc, World.size_setCell, World.size_drew] at z); omega
                replace VA := Lib.hid (VA.out.below hb (Nat.le_refl _))
                replace VB := Lib.hid (VB.out.below hb (Nat.le_refl _))
                replace VC := Lib.hid (VC.out.below hb (Nat.le_refl _))
                replace VD := Lib.hid (VD.out.below hb (Nat.le_refl _))
                replace X := (X).below hb (by go_size)
                replace Y := (Y).below hb (by go_size)
                replace P := (P).below hb (by go_size)
                replace Q := (Q).below hb (by go_size)
                clear hb
                have s3 : w.heap.size ≤ w3.heap.size := B3.size
                clear X_c X_f X_l Y_c Y_f Y_l P_c P_f P_l Q_c Q_f Q_l
                obtain ⟨X_c, X_f, X_l⟩ := id X
                obtain ⟨Y_c, Y_f, Y_l⟩ := id Y
                obtain ⟨P_c, P_f, P_l⟩ := id P
                obtain ⟨Q_c, Q_f, Q_l⟩ := id Q
                go_wp2_with fail
                go_roundw
                case rel => exact ⟨k + 1, hlt2, by go_num, Lib.hid (NK.out (by trivial) (by trivial) (by trivial)), X, Y, B3⟩
                case measure => simp [intOf]; omega
      · have E := Lib.hid (hu.out.all (by omega) HL.out)
        obtain ⟨X_c, X_f, X_l⟩ := id X
        have t2 : decide ((k : Int) < (r.length : Int)) = false := decF (by omega)
        go_wp2_with fail
        go_ret
        exact ⟨⟨true, rfl, fun _ => E.out, fun _ => rfl⟩, by go_grown⟩
  · have t1 : ((r.length : Int) != (t.length : Int)) = true := bneT (by omega)
    clear h1 h2
    have HL := Lib.hid hl
    clear hl
    go_enter Tryz.func25, Tryz.ntmps25
    go_wp2_with fail
    go_ret
    exact ⟨⟨false, rfl, fun h => Bool.noConfusion h, fun h => absurd (congrArg List.length h) HL.out⟩, by go_grown⟩
end Go.Proofs.YtjfkmbehckdjlaaGreatDoor
