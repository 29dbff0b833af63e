/- Texts joined. -/
import Derived.Test.YtolfgcoalihmgaaGreatDoorMEz
import Derived.Test.YtolfgcoalihmgaaGreatDoorMKv
import Derived.Test.YtolfgcoalihmgaaGreatDoorEy
import Derived.Test.YtolfgcoalihmgaaGreatDoorMKd
namespace Go.Proofs.YtolfgcoalihmgaaGreatDoor
section
open Go.RowKit
def SameRes (r t : List Pl.Ivl) (w : World) (e : Ending) (w' : World) : Prop := (∃ g : Bool, e = .returned (.bool g) ∧ (g = true ↔ r = t)) ∧ Below w.heap.size w w'
def Pl.IvEqTo (r t : List Pl.Ivl) (k : Nat) : Prop := ∀ j, j < k → r[j]? = t[j]?
theorem Pl.IvEqTo.succ {r t : List Pl.Ivl} {k : Nat} (h : Pl.IvEqTo r t k) (h1 : k < r.length) (h2 : k < t.length) (e : r[k] = t[k]) : Pl.IvEqTo r t (k + 1) := fun j hj => by
 by_cases hjk : j = k
 · subst hjk; rw [List.getElem?_eq_getElem h1, List.getElem?_eq_getElem h2, e]
 · exact h j (by omega)
theorem Pl.IvEqTo.all {r t : List Pl.Ivl} {k : Nat} (h : Pl.IvEqTo r t k) (h1 : r.length ≤ k) (hl : r.length = t.length) : r = t := by
 apply List.ext_getElem?
 intro j
 by_cases hj : j < r.length
 · exact h j (by omega)
 · rw [List.getElem?_eq_none (by omega), List.getElem?_eq_none (by omega)]
theorem Pl.Ivl.ext' {x y : Pl.Ivl} (h1 : x.lo = y.lo) (h2 : x.hi = y.hi) (h3 : x.un = y.un) : x = y := by
 cases x; cases y; simp_all
set_option maxRecDepth 100000 in
set_option maxHeartbeats 16000000 in
theorem SameRange_any (r t : List Pl.Ivl) (a b : Option Addr) (c d : Nat) (w : World) (h1 : RIn w r a c) (h2 : RIn w t b d) :
 Calls Tryz.prog 27 #[.agg #[.slice a r.length c], .agg #[.slice b t.length d]] w (SameRes r t w) := by
 have hm1 := h1.len
 have hm2 := h2.len
 by_cases hl : r.length = t.length
 · have t1 : ((r.length : Int) != (t.length : Int)) = false := by rw [hl]; simp
   have H := Hd h1
   have K := Hd h2
   have HL := Hd hl
   clear h1 h2 hl
   go_enter Tryz.func27, Tryz.ntmps27
   go_wp2_with fail
   have X := Bk.new (r := w.heap.size) (cs := [.slice a r.length c]) w 33 rfl
   have Y := Bk.new (r := w.heap.size + 1) (cs := [.slice b t.length d]) (w.alloc (.cells #[.slice a r.length c] 33)) 33 (by simp)
   replace X := X.alloc (.cells #[.slice b t.length d] 33)
   have B0 : Below w.heap.size w ((w.alloc (.cells #[.slice a r.length c] 33)).alloc (.cells #[.slice b t.length d] 33)) := by go_grown
   go_loopw [5] (fun i wr => ∃ k : Nat, k ≤ r.length ∧ i = .int .i64 k ∧ Hid (Pl.IvEqTo r t k) ∧ Bk wr w.heap.size [.slice a r.length c] ∧ Bk wr (w.heap.size + 1) [.slice b t.length d] ∧ Below w.heap.size w wr) (fun i _ => r.length - (intOf i).toNat)
   case atStart => exact ⟨0, Nat.zero_le _, rfl, Hd (fun _ h => absurd h (by omega)), X, Y, B0⟩
   case round =>
    clear X Y B0
    obtain ⟨k, hk, rfl, hu, X, Y, B1⟩ := hrel
    have s1 := B1.size
    by_cases hlt2 : k < r.length
    · have hlt3 : k < t.length := by have := HL.out; omega
      obtain ⟨p, off, rfl, hlt, hat⟩ := (H.out.bl B1).at (by omega)
      obtain ⟨q, off2, rfl, hltq, hat2⟩ := (K.out.bl B1).at (by omega)
      obtain ⟨a1, b1, c1, d1, I⟩ := hat k hlt2
      obtain ⟨a2, b2, c2, d2, J⟩ := hat2 k hlt3
      have HS := Hd (hu.out.succ hlt2 hlt3)
      have HN : Hid (r[k] ≠ t[k] → r ≠ t) := Hd (fun h e => h (by subst e; rfl))
      have t9 : decide ((k : Int) < (r.length : Int)) = true := decT (by omega)
      clear hat hat2 hu
      obtain ⟨x, hx⟩ : ∃ x, r[k] = x := ⟨_, rfl⟩
      obtain ⟨y, hy⟩ : ∃ y, t[k] = y := ⟨_, rfl⟩
      rw [hx] at I HS HN
      rw [hy] at J HS HN
      clear hx hy
      obtain ⟨e0, e1, e2, e3, e4, e5, e6, e7, e8, VA, VB⟩ := I
      obtain ⟨g0, g1, g2, g3, g4, g5, g6, g7, g8, VC, VD⟩ := J
      replace VA := Hd VA
      replace VB := Hd VB
      replace VC := Hd VC
      replace VD := Hd VD
      obtain ⟨ux, hux⟩ : ∃ u, x.un = u := ⟨_, rfl⟩
      obtain ⟨uy, huy⟩ : ∃ u, y.un = u := ⟨_, rfl⟩
      rw [hux] at e8
      rw [huy] at g8
      have CL := Hd (fun (W : World) (g1 : VIn W x.lo a1 c1) (g2 : VIn W y.lo a2 c2) => SameVersion_any x.lo y.lo a1 a2 c1 c2 W g1 g2)
      have CH := Hd (fun (W : World) (g1 : VIn W x.hi b1 d1) (g2 : VIn W y.hi b2 d2) => SameVersion_any x.hi y.hi b1 b2 d1 d2 W g1 g2)
      obtain ⟨m1, hm3⟩ : ∃ m, Pl.sameB x.lo y.lo = m := ⟨_, rfl⟩
      obtain ⟨m2, hm4⟩ : ∃ m, Pl.sameB x.hi y.hi = m := ⟨_, rfl⟩
      rw [hm3] at CL
      rw [hm4] at CH
      have NE : Hid (ux ≠ uy → r ≠ t) := Hd (fun h => HN.out (fun e => h (by rw [← hux, ← huy, e])))
      have N1 : Hid (m1 = false → r ≠ t) := Hd (fun h => HN.out (fun e => by rw [e, Pl.sameB_iff.2 rfl] at hm3; rw [← hm3] at h; cases h))
      have N2 : Hid (m2 = false → r ≠ t) := Hd (fun h => HN.out (fun e => by rw [e, Pl.sameB_iff.2 rfl] at hm4; rw [← hm4] at h; cases h))
      have NK : Hid (ux = uy → m1 = true → m2 = true → Pl.IvEqTo r t (k + 1)) := Hd (fun e1 e2 e3 => HS.out (Pl.Ivl.ext' (Pl.sameB_iff.1 (hm3.trans e2)) (Pl.sameB_iff.1 (hm4.trans e3)) (by rw [hux, huy, e1])))
      clear HS HN hux huy hm3 hm4
      cases ux with
      | true =>
        cases uy with
        | true =>
          cases m1 with
          | false =>
            have ⟨Xc, Xf, Xl⟩ := X
            have ⟨Yc, Yf, Yl⟩ := Y
            go_wp2_with fail
            refine (CL.out _ (VA.out.bl (by go_grown)) (VC.out.bl (by go_grown))).mono ?_
            rintro e w2 ⟨rfl, hb⟩
            have B2 := bcm w hb
            have q2 : wr.heap.size + 2 ≤ w2.heap.size := qle hb
            replace VA := Hd (((VA.out.al _).al _).bl hb)
            replace VB := Hd (((VB.out.al _).al _).bl hb)
            replace VC := Hd (((VC.out.al _).al _).bl hb)
            replace VD := Hd (((VD.out.al _).al _).bl hb)
            replace X := (((X.alloc _).alloc _)).bw hb
            replace Y := (((Y.alloc _).alloc _)).bw hb
            have P := (((bkn wr.heap.size [.int .i64 x.lo.maj, .int .i64 x.lo.min, .int .i64 x.lo.pat, .slice a1 x.lo.pre.length c1, .int .i64 x.hi.maj, .int .i64 x.hi.min, .int .i64 x.hi.pat, .slice b1 x.hi.pre.length d1, .bool true] 101).alloc _)).bw hb
            have Q := ((bkn (wr.heap.size + 1) [.int .i64 y.lo.maj, .int .i64 y.lo.min, .int .i64 y.lo.pat, .slice a2 y.lo.pre.length c2, .int .i64 y.hi.maj, .int .i64 y.hi.min, .int .i64 y.hi.pat, .slice b2 y.hi.pre.length d2, .bool true] 101)).bw hb
            clear hb
            have s2 := B2.size
            clear Xc Xf Xl Yc Yf Yl
            have ⟨Xc, Xf, Xl⟩ := X
            have ⟨Yc, Yf, Yl⟩ := Y
            have ⟨Pc, Pf, P_l⟩ := P
            have ⟨Qc, Qf, Ql⟩ := Q
            clear e0 e1 e2 e3 e4 e5 e6 e7 e8 g0 g1 g2 g3 g4 g5 g6 g7 g8
            go_wp2_with fail
            go_ret
            exact ⟨⟨false, rfl, fun h => Bool.noConfusion h, fun h => absurd h (N1.out (by trivial))⟩, by go_grown⟩
          | true =>
            cases m2 with
            | false =>
              have ⟨Xc, Xf, Xl⟩ := X
              have ⟨Yc, Yf, Yl⟩ := Y
              go_wp2_with fail
              refine (CL.out _ (VA.out.bl (by go_grown)) (VC.out.bl (by go_grown))).mono ?_
              rintro e w2 ⟨rfl, hb⟩
              have B2 := bcm w hb
              have q2 : wr.heap.size + 2 ≤ w2.heap.size := qle hb
              replace VA := Hd (((VA.out.al _).al _).bl hb)
              replace VB := Hd (((VB.out.al _).al _).bl hb)
              replace VC := Hd (((VC.out.al _).al _).bl hb)
              replace VD := Hd (((VD.out.al _).al _).bl hb)
              replace X := (((X.alloc _).alloc _)).bw hb
              replace Y := (((Y.alloc _).alloc _)).bw hb
              have P := (((bkn wr.heap.size [.int .i64 x.lo.maj, .int .i64 x.lo.min, .int .i64 x.lo.pat, .slice a1 x.lo.pre.length c1, .int .i64 x.hi.maj, .int .i64 x.hi.min, .int .i64 x.hi.pat, .slice b1 x.hi.pre.length d1, .bool true] 101).alloc _)).bw hb
              have Q := ((bkn (wr.heap.size + 1) [.int .i64 y.lo.maj, .int .i64 y.lo.min, .int .i64 y.lo.pat, .slice a2 y.lo.pre.length c2, .int .i64 y.hi.maj, .int .i64 y.hi.min, .int .i64 y.hi.pat, .slice b2 y.hi.pre.length d2, .bool true] 101)).bw hb
              clear hb
              have s2 := B2.size
              clear Xc Xf Xl Yc Yf Yl
              have ⟨Xc, Xf, Xl⟩ := X
              have ⟨Yc, Yf, Yl⟩ := Y
              have ⟨Pc, Pf, P_l⟩ := P
              have ⟨Qc, Qf, Ql⟩ := Q
              clear e0 e1 e2 e3 e4 e5 e6 e7 e8 g0 g1 g2 g3 g4 g5 g6 g7 g8
              go_wp2_with fail
              refine (CH.out _ VB.out VD.out).mono ?_
              rintro e w3 ⟨rfl, hb⟩
              have B3 := bcm w hb
              have q3 : w2.heap.size ≤ w3.heap.size := qle hb
              replace VA := Hd (VA.out.bl hb)
              replace VB := Hd (VB.out.bl hb)
              replace VC := Hd (VC.out.bl hb)
              replace VD := Hd (VD.out.bl hb)
              replace X := X.bw hb
              replace Y := Y.bw hb
              replace P := P.bw hb
              replace Q := Q.bw hb
              clear hb
              have s3 := B3.size
              clear Xc Xf Xl Yc Yf Yl Pc Pf P_l Qc Qf Ql
              have ⟨Xc, Xf, Xl⟩ := X
              have ⟨Yc, Yf, Yl⟩ := Y
              have ⟨Pc, Pf, P_l⟩ := P
              have ⟨Qc, Qf, Ql⟩ := Q
              go_wp2_with fail
              go_ret
              exact ⟨⟨false, rfl, fun h => Bool.noConfusion h, fun h => absurd h (N2.out (by trivial))⟩, by go_grown⟩
            | true =>
              have ⟨Xc, Xf, Xl⟩ := X
              have ⟨Yc, Yf, Yl⟩ := Y
              go_wp2_with fail
              refine (CL.out _ (VA.out.bl (by go_grown)) (VC.out.bl (by go_grown))).mono ?_
              rintro e w2 ⟨rfl, hb⟩
              have B2 := bcm w hb
              have q2 : wr.heap.size + 2 ≤ w2.heap.size := qle hb
              replace VA := Hd (((VA.out.al _).al _).bl hb)
              replace VB := Hd (((VB.out.al _).al _).bl hb)
              replace VC := Hd (((VC.out.al _).al _).bl hb)
              replace VD := Hd (((VD.out.al _).al _).bl hb)
              replace X := (((X.alloc _).alloc _)).bw hb
              replace Y := (((Y.alloc _).alloc _)).bw hb
              have P := (((bkn wr.heap.size [.int .i64 x.lo.maj, .int .i64 x.lo.min, .int .i64 x.lo.pat, .slice a1 x.lo.pre.length c1, .int .i64 x.hi.maj, .int .i64 x.hi.min, .int .i64 x.hi.pat, .slice b1 x.hi.pre.length d1, .bool true] 101).alloc _)).bw hb
              have Q := ((bkn (wr.heap.size + 1) [.int .i64 y.lo.maj, .int .i64 y.lo.min, .int .i64 y.lo.pat, .slice a2 y.lo.pre.length c2, .int .i64 y.hi.maj, .int .i64 y.hi.min, .int .i64 y.hi.pat, .slice b2 y.hi.pre.length d2, .bool true] 101)).bw hb
              clear hb
              have s2 := B2.size
              clear Xc Xf Xl Yc Yf Yl
              have ⟨Xc, Xf, Xl⟩ := X
              have ⟨Yc, Yf, Yl⟩ := Y
              have ⟨Pc, Pf, P_l⟩ := P
              have ⟨Qc, Qf, Ql⟩ := Q
              clear e0 e1 e2 e3 e4 e5 e6 e7 e8 g0 g1 g2 g3 g4 g5 g6 g7 g8
              go_wp2_with fail
              refine (CH.out _ VB.out VD.out).mono ?_
              rintro e w3 ⟨rfl, hb⟩
              have B3 := bcm w hb
              have q3 : w2.heap.size ≤ w3.heap.size := qle hb
              replace VA := Hd (VA.out.bl hb)
              replace VB := Hd (VB.out.bl hb)
              replace VC := Hd (VC.out.bl hb)
              replace VD := Hd (VD.out.bl hb)
              replace X := X.bw hb
              replace Y := Y.bw hb
              replace P := P.bw hb
              replace Q := Q.bw hb
              clear hb
              have s3 := B3.size
              clear Xc Xf Xl Yc Yf Yl Pc Pf P_l Qc Qf Ql
              have ⟨Xc, Xf, Xl⟩ := X
              have ⟨Yc, Yf, Yl⟩ := Y
              have ⟨Pc, Pf, P_l⟩ := P
              have ⟨Qc, Qf, Ql⟩ := Q
              go_wp2_with fail
              go_roundw
              case rel => exact ⟨k + 1, hlt2, by go_num, Hd (NK.out (by trivial) (by trivial) (by trivial)), X, Y, B3⟩
              case measure => simp [intOf]; omega
        | false =>
          have ⟨Xc, Xf, Xl⟩ := X
          have ⟨Yc, Yf, Yl⟩ := Y
          go_wp2_with fail
          go_ret
          exact ⟨⟨false, rfl, fun h => Bool.noConfusion h, fun h => absurd h (NE.out (by decide))⟩, by go_grown⟩
      | false =>
        cases uy with
        | true =>
          have ⟨Xc, Xf, Xl⟩ := X
          have ⟨Yc, Yf, Yl⟩ := Y
          go_wp2_with fail
          go_ret
          exact ⟨⟨false, rfl, fun h => Bool.noConfusion h, fun h => absurd h (NE.out (by decide))⟩, by go_grown⟩
        | false =>
          cases m1 with
          | false =>
            have ⟨Xc, Xf, Xl⟩ := X
            have ⟨Yc, Yf, Yl⟩ := Y
            go_wp2_with fail
            refine (CL.out _ (VA.out.bl (by go_grown)) (VC.out.bl (by go_grown))).mono ?_
            rintro e w2 ⟨rfl, hb⟩
            have B2 := bcm w hb
            have q2 : wr.heap.size + 2 ≤ w2.heap.size := qle hb
            replace VA := Hd (((VA.out.al _).al _).bl hb)
            replace VB := Hd (((VB.out.al _).al _).bl hb)
            replace VC := Hd (((VC.out.al _).al _).bl hb)
            replace VD := Hd (((VD.out.al _).al _).bl hb)
            replace X := (((X.alloc _).alloc _)).bw hb
            replace Y := (((Y.alloc _).alloc _)).bw hb
            have P := (((bkn wr.heap.size [.int .i64 x.lo.maj, .int .i64 x.lo.min, .int .i64 x.lo.pat, .slice a1 x.lo.pre.length c1, .int .i64 x.hi.maj, .int .i64 x.hi.min, .int .i64 x.hi.pat, .slice b1 x.hi.pre.length d1, .bool false] 101).alloc _)).bw hb
            have Q := ((bkn (wr.heap.size + 1) [.int .i64 y.lo.maj, .int .i64 y.lo.min, .int .i64 y.lo.pat, .slice a2 y.lo.pre.length c2, .int .i64 y.hi.maj, .int .i64 y.hi.min, .int .i64 y.hi.pat, .slice b2 y.hi.pre.length d2, .bool false] 101)).bw hb
            clear hb
            have s2 := B2.size
            clear Xc Xf Xl Yc Yf Yl
            have ⟨Xc, Xf, Xl⟩ := X
            have ⟨Yc, Yf, Yl⟩ := Y
            have ⟨Pc, Pf, P_l⟩ := P
            have ⟨Qc, Qf, Ql⟩ := Q
            clear e0 e1 e2 e3 e4 e5 e6 e7 e8 g0 g1 g2 g3 g4 g5 g6 g7 g8
            go_wp2_with fail
            go_ret
            exact ⟨⟨false, rfl, fun h => Bool.noConfusion h, fun h => absurd h (N1.out (by trivial))⟩, by go_grown⟩
          | true =>
            cases m2 with
            | false =>
              have ⟨Xc, Xf, Xl⟩ := X
              have ⟨Yc, Yf, Yl⟩ := Y
              go_wp2_with fail
              refine (CL.out _ (VA.out.bl (by go_grown)) (VC.out.bl (by go_grown))).mono ?_
              rintro e w2 ⟨rfl, hb⟩
              have B2 := bcm w hb
              have q2 : wr.heap.size + 2 ≤ w2.heap.size := qle hb
              replace VA := Hd (((VA.out.al _).al _).bl hb)
              replace VB := Hd (((VB.out.al _).al _).bl hb)
              replace VC := Hd (((VC.out.al _).al _).bl hb)
              replace VD := Hd (((VD.out.al _).al _).bl hb)
              replace X := (((X.alloc _).alloc _)).bw hb
              replace Y := (((Y.alloc _).alloc _)).bw hb
              have P := (((bkn wr.heap.size [.int .i64 x.lo.maj, .int .i64 x.lo.min, .int .i64 x.lo.pat, .slice a1 x.lo.pre.length c1, .int .i64 x.hi.maj, .int .i64 x.hi.min, .int .i64 x.hi.pat, .slice b1 x.hi.pre.length d1, .bool false] 101).alloc _)).bw hb
              have Q := ((bkn (wr.heap.size + 1) [.int .i64 y.lo.maj, .int .i64 y.lo.min, .int .i64 y.lo.pat, .slice a2 y.lo.pre.length c2, .int .i64 y.hi.maj, .int .i64 y.hi.min, .int .i64 y.hi.pat, .slice b2 y.hi.pre.length d2, .bool false] 101)).bw hb
              clear hb
              have s2 := B2.size
              clear Xc Xf Xl Yc Yf Yl
              have ⟨Xc, Xf, Xl⟩ := X
              have ⟨Yc, Yf, Yl⟩ := Y
              have ⟨Pc, Pf, P_l⟩ := P
              have ⟨Qc, Qf, Ql⟩ := Q
              clear e0 e1 e2 e3 e4 e5 e6 e7 e8 g0 g1 g2 g3 g4 g5 g6 g7 g8
              go_wp2_with fail
              refine (CH.out _ VB.out VD.out).mono ?_
              rintro e w3 ⟨rfl, hb⟩
              have B3 := bcm w hb
              have q3 : w2.heap.size ≤ w3.heap.size := qle hb
              replace VA := Hd (VA.out.bl hb)
              replace VB := Hd (VB.out.bl hb)
              replace VC := Hd (VC.out.bl hb)
              replace VD := Hd (VD.out.bl hb)
              replace X := X.bw hb
              replace Y := Y.bw hb
              replace P := P.bw hb
              replace Q := Q.bw hb
              clear hb
              have s3 := B3.size
              clear Xc Xf Xl Yc Yf Yl Pc Pf P_l Qc Qf Ql
              have ⟨Xc, Xf, Xl⟩ := X
              have ⟨Yc, Yf, Yl⟩ := Y
              have ⟨Pc, Pf, P_l⟩ := P
              have ⟨Qc, Qf, Ql⟩ := Q
              go_wp2_with fail
              go_ret
              exact ⟨⟨false, rfl, fun h => Bool.noConfusion h, fun h => absurd h (N2.out (by trivial))⟩, by go_grown⟩
            | true =>
              have ⟨Xc, Xf, Xl⟩ := X
              have ⟨Yc, Yf, Yl⟩ := Y
              go_wp2_with fail
              refine (CL.out _ (VA.out.bl (by go_grown)) (VC.out.bl (by go_grown))).mono ?_
              rintro e w2 ⟨rfl, hb⟩
              have B2 := bcm w hb
              have q2 : wr.heap.size + 2 ≤ w2.heap.size := qle hb
              replace VA := Hd (((VA.out.al _).al _).bl hb)
              replace VB := Hd (((VB.out.al _).al _).bl hb)
              replace VC := Hd (((VC.out.al _).al _).bl hb)
              replace VD := Hd (((VD.out.al _).al _).bl hb)
              replace X := (((X.alloc _).alloc _)).bw hb
              replace Y := (((Y.alloc _).alloc _)).bw hb
              have P := (((bkn wr.heap.size [.int .i64 x.lo.maj, .int .i64 x.lo.min, .int .i64 x.lo.pat, .slice a1 x.lo.pre.length c1, .int .i64 x.hi.maj, .int .i64 x.hi.min, .int .i64 x.hi.pat, .slice b1 x.hi.pre.length d1, .bool false] 101).alloc _)).bw hb
              have Q := ((bkn (wr.heap.size + 1) [.int .i64 y.lo.maj, .int .i64 y.lo.min, .int .i64 y.lo.pat, .slice a2 y.lo.pre.length c2, .int .i64 y.hi.maj, .int .i64 y.hi.min, .int .i64 y.hi.pat, .slice b2 y.hi.pre.length d2, .bool false] 101)).bw hb
              clear hb
              have s2 := B2.size
              clear Xc Xf Xl Yc Yf Yl
              have ⟨Xc, Xf, Xl⟩ := X
              have ⟨Yc, Yf, Yl⟩ := Y
              have ⟨Pc, Pf, P_l⟩ := P
              have ⟨Qc, Qf, Ql⟩ := Q
              clear e0 e1 e2 e3 e4 e5 e6 e7 e8 g0 g1 g2 g3 g4 g5 g6 g7 g8
              go_wp2_with fail
              refine (CH.out _ VB.out VD.out).mono ?_
              rintro e w3 ⟨rfl, hb⟩
              have B3 := bcm w hb
              have q3 : w2.heap.size ≤ w3.heap.size := qle hb
              replace VA := Hd (VA.out.bl hb)
              replace VB := Hd (VB.out.bl hb)
              replace VC := Hd (VC.out.bl hb)
              replace VD := Hd (VD.out.bl hb)
              replace X := X.bw hb
              replace Y := Y.bw hb
              replace P := P.bw hb
              replace Q := Q.bw hb
              clear hb
              have s3 := B3.size
              clear Xc Xf Xl Yc Yf Yl Pc Pf P_l Qc Qf Ql
              have ⟨Xc, Xf, Xl⟩ := X
              have ⟨Yc, Yf, Yl⟩ := Y
              have ⟨Pc, Pf, P_l⟩ := P
              have ⟨Qc, Qf, Ql⟩ := Q
              go_wp2_with fail
              go_roundw
              case rel => exact ⟨k + 1, hlt2, by go_num, Hd (NK.out (by trivial) (by trivial) (by trivial)), X, Y, B3⟩
              case measure => simp [intOf]; omega
    · have E := Hd (hu.out.all (by omega) HL.out)
      have ⟨Xc, Xf, Xl⟩ := X
      have t2 : decide ((k : Int) < (r.length : Int)) = false := decF (by omega)
      go_wp2_with fail
      go_ret
      exact ⟨⟨true, rfl, fun _ => E.out, fun _ => rfl⟩, by go_grown⟩
 · have t1 : ((r.length : Int) != (t.length : Int)) = true := bneT (by omega)
   clear h1 h2
   have HL := Hd hl
   clear hl
   go_enter Tryz.func27, Tryz.ntmps27
   go_wp2_with fail
   go_ret
   exact ⟨⟨false, rfl, fun h => Bool.noConfusion h, fun h => absurd (congrArg List.length h) HL.out⟩, by go_grown⟩
end
section
open Go.RowKit
set_option maxRecDepth 100000 in
set_option maxHeartbeats 4000000 in
theorem small_any (r : List Pl.Ivl) (a : Option Addr) (c : Nat) (w : World) (h : RIn w r a c) :
 Calls Tryz.prog 25 #[.agg #[.slice a r.length c], fltV (0, 0)] w (RRngF (Pl.limR r) (Pl.limF r) w) := by
 have H := Hd h
 have hm := h.len
 clear h
 by_cases hbig : 12 < r.length
 · rw [show Pl.limR r = [] from if_pos hbig, show Pl.limF r = (10, -3) from if_pos hbig]
   have w1 : decide ((r.length : Int) > 12) = true := decT (by omega)
   have w2 : decide ((12 : Int) < (r.length : Int)) = true := decT (by omega)
   have w3 : decide (12 < r.length) = true := decT hbig
   go_enter Tryz.func25, Tryz.ntmps25
   have B0 := brl w
   go_wp2_with (go_at_call 33; refine (lfault_at _ _ _).mono ?_; rintro e w' ⟨rfl, rfl⟩)
   refine bodyPost_ret (v := .tuple #[.agg #[.slice none 0 0], .agg #[.int .i64 10, .int .i64 (-3)]]) (by simp [results, Tryz.results25, go_sem]) rfl ⟨none, 0, rfl, RIn.nil _, by go_grown⟩
 · rw [show Pl.limR r = r from if_neg hbig, show Pl.limF r = (0, 0) from if_neg hbig]
   have w1 : decide ((r.length : Int) > 12) = false := decF (by omega)
   have w2 : decide ((12 : Int) < (r.length : Int)) = false := decF (by omega)
   have w3 : decide (12 < r.length) = false := decF hbig
   go_enter Tryz.func25, Tryz.ntmps25
   have B0 := brl w
   go_wp2_with fail
   have B1 : Below w.heap.size w ((((w.alloc (.cells #[.slice a r.length c] 33)).alloc (.cells #[.int .i64 0, .int .i64 0] 27)).alloc (.cells #[.slice none 0 0] 33)).alloc (.cells #[.int .i64 0, .int .i64 0] 27)) := by go_grown
   have q1 : w.heap.size + 4 ≤ ((((w.alloc (.cells #[.slice a r.length c] 33)).alloc (.cells #[.int .i64 0, .int .i64 0] 27)).alloc (.cells #[.slice none 0 0] 33)).alloc (.cells #[.int .i64 0, .int .i64 0] 27)).heap.size := by simp only [World.size_alloc]; omega
   replace H := Hd ((((H.out.al (.cells #[.slice a r.length c] 33)).al (.cells #[.int .i64 0, .int .i64 0] 27)).al (.cells #[.slice none 0 0] 33)).al (.cells #[.int .i64 0, .int .i64 0] 27))
   have X := ((((Bk.new (r := w.heap.size) (cs := [.slice a r.length c]) w 33 (by simp)).alloc (.cells #[.int .i64 0, .int .i64 0] 27)).alloc (.cells #[.slice none 0 0] 33)).alloc (.cells #[.int .i64 0, .int .i64 0] 27))
   have F := (((Bk.new (r := w.heap.size + 1) (cs := [.int .i64 0, .int .i64 0]) (w.alloc (.cells #[.slice a r.length c] 33)) 27 (by simp)).alloc (.cells #[.slice none 0 0] 33)).alloc (.cells #[.int .i64 0, .int .i64 0] 27))
   have R := ((Bk.new (r := w.heap.size + 1 + 1) (cs := [.slice none 0 0]) ((w.alloc (.cells #[.slice a r.length c] 33)).alloc (.cells #[.int .i64 0, .int .i64 0] 27)) 33 (by simp)).alloc (.cells #[.int .i64 0, .int .i64 0] 27))
   have Q := (Bk.new (r := w.heap.size + 1 + 1 + 1) (cs := [.int .i64 0, .int .i64 0]) (((w.alloc (.cells #[.slice a r.length c] 33)).alloc (.cells #[.int .i64 0, .int .i64 0] 27)).alloc (.cells #[.slice none 0 0] 33)) 27 (by simp))
   generalize ((((w.alloc (.cells #[.slice a r.length c] 33)).alloc (.cells #[.int .i64 0, .int .i64 0] 27)).alloc (.cells #[.slice none 0 0] 33)).alloc (.cells #[.int .i64 0, .int .i64 0] 27)) = w1 at *
   have s1 := B1.size
   have ⟨Xc, Xf, Xl⟩ := X
   have ⟨Fc, Ff, Fl⟩ := F
   have ⟨Rc, Rf, Rl⟩ := R
   have ⟨Qc, Qf, Ql⟩ := Q
   refine wp_region_ordD [(2, w.heap.size + 1 + 1), (3, w.heap.size + 1 + 1 + 1)] [0, 1, 2, 3] (by kernel_rfl) (by kernel_rfl) ?_
   have B2 : Below w.heap.size w w1.drew := by go_grown
   have q2 : w1.heap.size ≤ w1.drew.heap.size := by simp only [World.size_drew]; omega
   replace H := Hd (H.out.bl (Below.refl _ _).drew)
   replace X := X.drew
   replace F := F.drew
   replace R := R.drew
   replace Q := Q.drew
   clear Xc Xf Xl Fc Ff Fl Rc Rf Rl Qc Qf Ql
   generalize w1.drew = w2 at *
   have s2 := B2.size
   have ⟨Xc, Xf, Xl⟩ := X
   have ⟨Fc, Ff, Fl⟩ := F
   have ⟨Rc, Rf, Rl⟩ := R
   have ⟨Qc, Qf, Ql⟩ := Q
   refine wpD_rd [] (by kernel_rfl) rfl rfl ?_; go_big_quiet_step (fail); refine wpQuiet_nil ?_
   try simp only [pts]
   refine wpD_rd [w.heap.size + 1 + 1] (by kernel_rfl) rfl rfl ?_; go_big_quiet_step (fail); refine wpQuiet_nil ?_
   try simp only [pts]
   refine wpD_st rfl rfl rfl (w' := w2.setCell ⟨w.heap.size + 1 + 1, 0, none⟩ (.slice a r.length c)) (by simp [go_sem, Rc, Rf]) ((ExtD.refl _ _).s1) ?_
   try simp only [Act.put]
   have Q2 := Q.fr (w.heap.size + 1 + 1) 0 (by omega) (.slice a r.length c)
   have R2 := R.st 0 (.slice a r.length c)
   have H2 := H.out.setBk R (by simp) (j := 0) rfl (by nofun) (.slice a r.length c)
   have ⟨Q2c, Q2f, Q2l⟩ := Q2
   refine wpD_st rfl rfl rfl (w' := ((w2.setCell ⟨w.heap.size + 1 + 1, 0, none⟩ (.slice a r.length c)).setCell ⟨w.heap.size + 1 + 1 + 1, 0, none⟩ (.int .i64 0)).setCell ⟨w.heap.size + 1 + 1 + 1, 1, none⟩ (.int .i64 0)) (by simp [go_sem, Q2c, Q2f]) (((ExtD.refl _ _).s1).s1) ?_
   refine wpD_nil ?_
   try simp only [Act.put]
   have Q3 := Q2.st 0 (.int .i64 0)
   have QN := Q3.st 1 (.int .i64 0)
   have RN := (R2.fr (w.heap.size + 1 + 1 + 1) 0 (by omega) (.int .i64 0)).fr (w.heap.size + 1 + 1 + 1) 1 (by omega) (.int .i64 0)
   have H3 := (H2.setBk Q2 (by simp) (j := 0) rfl (by nofun) (.int .i64 0)).setBk Q3 (by simp) (j := 1) rfl (by nofun) (.int .i64 0)
   go_wp2_with fail
   obtain ⟨QNc, QNf, QNl⟩ := QN
   obtain ⟨RNc, RNf, RNl⟩ := RN
   refine bodyPost_ret (v := .tuple #[.agg #[.slice a r.length c], .agg #[.int .i64 0, .int .i64 0]]) (by simp [results, Tryz.results25, go_sem, RNc, QNc]) rfl ⟨a, c, rfl, H3, by go_grown⟩
end
section
open Go.RowKit
namespace Pl
theorem digS_small {n : Nat} (h : n < 10) : Lib.decDigits n = [UInt8.ofNat (48 + n)] := by rw [Lib.decDigits, dif_pos h]
theorem digS_big {n : Nat} (h : ¬ n < 10) : Lib.decDigits n = Lib.decDigits (n / 10) ++ [UInt8.ofNat (48 + n % 10)] := by rw [Lib.decDigits, dif_neg h]
theorem pick_digit : ∀ d : Fin 10, (⟨#[48, 49, 50, 51, 52, 53, 54, 55, 56, 57]⟩ : ByteArray).extract d.val (d.val + 1) = ⟨#[UInt8.ofNat (48 + d.val)]⟩ := by decide +kernel
def dg (d : Nat) : ByteArray := ⟨#[UInt8.ofNat (48 + d)]⟩
theorem pick_digit' {d : Nat} (h : d < 10) : (⟨#[48, 49, 50, 51, 52, 53, 54, 55, 56, 57]⟩ : ByteArray).extract d (d + 1) = dg d := pick_digit ⟨d, h⟩
theorem dec_len : ∀ (k n : Nat), n < 10 ^ (k + 1) → (Lib.decDigits n).length ≤ k + 1
 | 0, n, h => by rw [digS_small (by simpa using h)]; simp
 | k + 1, n, h => by
   by_cases h10 : n < 10
   · rw [digS_small h10]; simp
   · rw [digS_big h10, List.length_append]
     have := dec_len k (n / 10) (by rw [Nat.pow_succ] at h; omega)
     simp; omega
theorem dec_len10 {n : Nat} (h : n ≤ 1000000000) : (Lib.decDigits n).length ≤ 10 := dec_len 9 n (by omega)
def decS (n : Nat) : ByteArray := ⟨(Lib.decDigits n).toArray⟩
theorem decS_size {n : Nat} (h : n ≤ 1000000000) : (decS n).size ≤ 10 := by
 have := dec_len10 h
 unfold decS
 show (Lib.decDigits n).toArray.size ≤ 10
 simpa using this
theorem dg_size (d : Nat) : (dg d).size = 1 := rfl
theorem ba_app (a b : List UInt8) : (⟨a.toArray⟩ : ByteArray) ++ ⟨b.toArray⟩ = ⟨(a ++ b).toArray⟩ := by
 apply ByteArray.ext
 simp
end Pl
theorem Digits_any : ∀ (n : Nat) (w : World), n ≤ 1000000000 → Calls Tryz.prog 121 #[.int .i64 (n : Int)] w fun e w' => e = .returned (.string (Pl.decS n)) ∧ ∃ q, w' = w.drewN q := by
 intro n
 induction n using Nat.strongRecOn with
 | _ n ih =>
   intro w hn
   by_cases h : n < 10
   · have E := Hd (Pl.digS_small h)
     have P := Pl.pick_digit' h
     go_enter Tryz.func121, Tryz.ntmps121
     go_wp2_with fail
     go_ret
     exact ⟨by show Ending.returned (Value.string (Pl.dg n)) = _; rw [Pl.decS, E.out]; rfl, 0, rfl⟩
   · have E := Hd (Pl.digS_big h)
     obtain ⟨D, hD⟩ : ∃ D, n % 10 = D := ⟨_, rfl⟩
     obtain ⟨Q, hQ⟩ : ∃ Q, n / 10 = Q := ⟨_, rfl⟩
     rw [hD, hQ] at E
     have P := Pl.pick_digit' (show D < 10 by omega)
     have I := Hd (ih Q (by omega))
     have d1 : (n : Int).tdiv 10 = (Q : Int) := by rw [Int.tdiv_eq_ediv_of_nonneg (by omega)]; omega
     have d2 : (n : Int).tmod 10 = (D : Int) := by rw [Int.tmod_eq_emod_of_nonneg (by omega)]; omega
     have hQ2 : Q ≤ 1000000000 := by omega
     have hD2 : D < 10 := by omega
     clear ih hD hQ
     have s1 : ((Pl.decS Q).size : Int) ≤ 8388608 := by have := Pl.decS_size hQ2; omega
     have s2 : ((Pl.dg D).size : Int) ≤ 8388608 := by rw [Pl.dg_size]; omega
     have EQ := Hd (show Pl.decS Q ++ Pl.dg D = Pl.decS n by unfold Pl.decS Pl.dg; rw [E.out, ← Pl.ba_app])
     generalize Pl.decS Q = SQ at *
     generalize Pl.dg D = SD at *
     have d3 : IntKind.i64.wrap (D : Int) = (D : Int) := IntWalk.i64_in _ (by omega)
     have d4 : IntKind.i64.wrap (Q : Int) = (Q : Int) := IntWalk.i64_in _ (by omega)
     have d5 : IntKind.i64.wrap ((D : Int) + 1) = (D : Int) + 1 := IntWalk.i64_in _ (by omega)
     have d6 : (D : Int) + 1 ≤ 10 := by omega
     have d7 : (0 : Int) ≤ (D : Int) + 1 := by omega
     have d8 : ((D : Int) + 1).toNat = D + 1 := by omega
     go_enter Tryz.func121, Tryz.ntmps121
     go_wp2_with fail
     go_quiet ((go_at_call 121; exact quiet_q (I.out _ hQ2)))
     go_wp2_with fail
     go_ret
     exact ⟨by show Ending.returned (Value.string (SQ ++ SD)) = _; rw [EQ.out], _, rfl⟩
end
end Go.Proofs.YtolfgcoalihmgaaGreatDoor
