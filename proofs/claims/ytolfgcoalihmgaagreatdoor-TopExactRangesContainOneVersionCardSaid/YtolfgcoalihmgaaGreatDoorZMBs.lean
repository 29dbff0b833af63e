/- Texts joined. -/
import Derived.Test.YtolfgcoalihmgaaGreatDoorZEz
import Derived.Test.YtolfgcoalihmgaaGreatDoorZMDf
import Derived.Test.YtolfgcoalihmgaaGreatDoorZMKd
import Derived.Test.YtolfgcoalihmgaaGreatDoorZMQd
import Derived.Test.YtolfgcoalihmgaaGreatDoorZMPo
import Derived.Test.YtolfgcoalihmgaaGreatDoorZMKb
namespace Go.Proofs.YtolfgcoalihmgaaGreatDoor
section
open Go.RowKit
def SameRes (r t : List Pl.Ivl) (w : World) (e : Ending) (w' : World) : Prop := (∃ g : Bool, e = .returned (.bool g) ∧ (g = true ↔ r = t)) ∧ Below w.heap.size w w'
def Pl.IvEqTo (r t : List Pl.Ivl) (k : Nat) : Prop := ∀ j, j < k → r[j]? = t[j]?
theorem Pl.IvEqTo.succ {r t : List Pl.Ivl} {k : Nat} (h : Pl.IvEqTo r t k) (h1 : k < r.length) (h2 : k < t.length) (e : r[k] = t[k]) : Pl.IvEqTo r t (k + 1) := fun j hj => by
 by_cases hjk : j = k
 · subst hjk; rw [List.getElem?_eq_getElem h1, List.getElem?_eq_getElem h2, e]
 · exact h j (by omega)
theorem Pl.IvEqTo.all {r t : List Pl.Ivl} {k : Nat} (h : Pl.IvEqTo r t k) (h1 : r.length ≤ k) (hl : r.length = t.length) : r = t := by
 apply List.ext_getElem?
 intro j
 by_cases hj : j < r.length
 · exact h j (by omega)
 · rw [List.getElem?_eq_none (by omega), List.getElem?_eq_none (by omega)]
theorem Pl.Ivl.ext' {x y : Pl.Ivl} (h1 : x.lo = y.lo) (h2 : x.hi = y.hi) (h3 : x.un = y.un) : x = y := by
 cases x; cases y; simp_all
set_option maxRecDepth 100000 in
set_option maxHeartbeats 16000000 in
theorem SameRange_any (r t : List Pl.Ivl) (a b : Option Addr) (c d : Nat) (w : World) (h1 : RIn w r a c) (h2 : RIn w t b d) :
 Calls Tryz.prog 27 #[.agg #[.slice a r.length c], .agg #[.slice b t.length d]] w (SameRes r t w) := by
 have hm1 := h1.len
 have hm2 := h2.len
 by_cases hl : r.length = t.length
 · have t1 : ((r.length : Int) != (t.length : Int)) = false := by rw [hl]; simp
   have H := Hd h1
   have K := Hd h2
   have HL := Hd hl
   clear h1 h2 hl
   go_enter Tryz.func27, Tryz.ntmps27
   go_wp2_with fail
   have X := Bk.new (r := w.heap.size) (cs := [.slice a r.length c]) w 33 rfl
   have Y := Bk.new (r := w.heap.size + 1) (cs := [.slice b t.length d]) (w.alloc (.cells #[.slice a r.length c] 33)) 33 (by simp)
   replace X := X.alloc (.cells #[.slice b t.length d] 33)
   have B0 : Below w.heap.size w ((w.alloc (.cells #[.slice a r.length c] 33)).alloc (.cells #[.slice b t.length d] 33)) := by go_grown
   go_loopw [5] (fun i wr => ∃ k : Nat, k ≤ r.length ∧ i = .int .i64 k ∧ Hid (Pl.IvEqTo r t k) ∧ Bk wr w.heap.size [.slice a r.length c] ∧ Bk wr (w.heap.size + 1) [.slice b t.length d] ∧ Below w.heap.size w wr) (fun i _ => r.length - (intOf i).toNat)
   case atStart => exact ⟨0, Nat.zero_le _, rfl, Hd (fun _ h => absurd h (by omega)), X, Y, B0⟩
   case round =>
    clear X Y B0
    obtain ⟨k, hk, rfl, hu, X, Y, B1⟩ := hrel
    have s1 := B1.size
    by_cases hlt2 : k < r.length
    · have hlt3 : k < t.length := by have := HL.out; omega
      obtain ⟨p, off, rfl, hlt, hat⟩ := (H.out.bl B1).at (by omega)
      obtain ⟨q, off2, rfl, hltq, hat2⟩ := (K.out.bl B1).at (by omega)
      obtain ⟨a1, b1, c1, d1, I⟩ := hat k hlt2
      obtain ⟨a2, b2, c2, d2, J⟩ := hat2 k hlt3
      have HS := Hd (hu.out.succ hlt2 hlt3)
      have HN : Hid (r[k] ≠ t[k] → r ≠ t) := Hd (fun h e => h (by subst e; rfl))
      have t9 : decide ((k : Int) < (r.length : Int)) = true := decT (by omega)
      clear hat hat2 hu
      obtain ⟨x, hx⟩ : ∃ x, r[k] = x := ⟨_, rfl⟩
      obtain ⟨y, hy⟩ : ∃ y, t[k] = y := ⟨_, rfl⟩
      rw [hx] at I HS HN
      rw [hy] at J HS HN
      clear hx hy
      obtain ⟨e0, e1, e2, e3, e4, e5, e6, e7, e8, VA, VB⟩ := I
      obtain ⟨g0, g1, g2, g3, g4, g5, g6, g7, g8, VC, VD⟩ := J
      replace VA := Hd VA
      replace VB := Hd VB
      replace VC := Hd VC
      replace VD := Hd VD
      obtain ⟨ux, hux⟩ : ∃ u, x.un = u := ⟨_, rfl⟩
      obtain ⟨uy, huy⟩ : ∃ u, y.un = u := ⟨_, rfl⟩
      rw [hux] at e8
      rw [huy] at g8
      have CL := Hd (fun (W : World) (g1 : VIn W x.lo a1 c1) (g2 : VIn W y.lo a2 c2) => SameVersion_any x.lo y.lo a1 a2 c1 c2 W g1 g2)
      have CH := Hd (fun (W : World) (g1 : VIn W x.hi b1 d1) (g2 : VIn W y.hi b2 d2) => SameVersion_any x.hi y.hi b1 b2 d1 d2 W g1 g2)
      obtain ⟨m1, hm3⟩ : ∃ m, Pl.sameB x.lo y.lo = m := ⟨_, rfl⟩
      obtain ⟨m2, hm4⟩ : ∃ m, Pl.sameB x.hi y.hi = m := ⟨_, rfl⟩
      rw [hm3] at CL
      rw [hm4] at CH
      have NE : Hid (ux ≠ uy → r ≠ t) := Hd (fun h => HN.out (fun e => h (by rw [← hux, ← huy, e])))
      have N1 : Hid (m1 = false → r ≠ t) := Hd (fun h => HN.out (fun e => by rw [e, Pl.sameB_iff.2 rfl] at hm3; rw [← hm3] at h; cases h))
      have N2 : Hid (m2 = false → r ≠ t) := Hd (fun h => HN.out (fun e => by rw [e, Pl.sameB_iff.2 rfl] at hm4; rw [← hm4] at h; cases h))
      have NK : Hid (ux = uy → m1 = true → m2 = true → Pl.IvEqTo r t (k + 1)) := Hd (fun e1 e2 e3 => HS.out (Pl.Ivl.ext' (Pl.sameB_iff.1 (hm3.trans e2)) (Pl.sameB_iff.1 (hm4.trans e3)) (by rw [hux, huy, e1])))
      clear HS HN hux huy hm3 hm4
      cases ux with
      | true =>
        cases uy with
        | true =>
          cases m1 with
          | false =>
            have ⟨Xc, Xf, Xl⟩ := X
            have ⟨Yc, Yf, Yl⟩ := Y
            go_wp2_with fail
            refine (CL.out _ (VA.out.bl (by go_grown)) (VC.out.bl (by go_grown))).mono ?_
            rintro e w2 ⟨rfl, hb⟩
            have B2 := bcm w hb
            have q2 : wr.heap.size + 2 ≤ w2.heap.size := qle hb
            replace VA := Hd (((VA.out.al _).al _).bl hb)
            replace VB := Hd (((VB.out.al _).al _).bl hb)
            replace VC := Hd (((VC.out.al _).al _).bl hb)
            replace VD := Hd (((VD.out.al _).al _).bl hb)
            replace X := (((X.alloc _).alloc _)).bw hb
            replace Y := (((Y.alloc _).alloc _)).bw hb
            have P := (((bkn wr.heap.size [.int .i64 x.lo.maj, .int .i64 x.lo.min, .int .i64 x.lo.pat, .slice a1 x.lo.pre.length c1, .int .i64 x.hi.maj, .int .i64 x.hi.min, .int .i64 x.hi.pat, .slice b1 x.hi.pre.length d1, .bool true] 101).alloc _)).bw hb
            have Q := ((bkn (wr.heap.size + 1) [.int .i64 y.lo.maj, .int .i64 y.lo.min, .int .i64 y.lo.pat, .slice a2 y.lo.pre.length c2, .int .i64 y.hi.maj, .int .i64 y.hi.min, .int .i64 y.hi.pat, .slice b2 y.hi.pre.length d2, .bool true] 101)).bw hb
            clear hb
            have s2 := B2.size
            clear Xc Xf Xl Yc Yf Yl
            have ⟨Xc, Xf, Xl⟩ := X
            have ⟨Yc, Yf, Yl⟩ := Y
            have ⟨Pc, Pf, P_l⟩ := P
            have ⟨Qc, Qf, Ql⟩ := Q
            clear e0 e1 e2 e3 e4 e5 e6 e7 e8 g0 g1 g2 g3 g4 g5 g6 g7 g8
            go_wp2_with fail
            go_ret
            exact ⟨⟨false, rfl, fun h => Bool.noConfusion h, fun h => absurd h (N1.out (by trivial))⟩, by go_grown⟩
          | true =>
            cases m2 with
            | false =>
              have ⟨Xc, Xf, Xl⟩ := X
              have ⟨Yc, Yf, Yl⟩ := Y
              go_wp2_with fail
              refine (CL.out _ (VA.out.bl (by go_grown)) (VC.out.bl (by go_grown))).mono ?_
              rintro e w2 ⟨rfl, hb⟩
              have B2 := bcm w hb
              have q2 : wr.heap.size + 2 ≤ w2.heap.size := qle hb
              replace VA := Hd (((VA.out.al _).al _).bl hb)
              replace VB := Hd (((VB.out.al _).al _).bl hb)
              replace VC := Hd (((VC.out.al _).al _).bl hb)
              replace VD := Hd (((VD.out.al _).al _).bl hb)
              replace X := (((X.alloc _).alloc _)).bw hb
              replace Y := (((Y.alloc _).alloc _)).bw hb
              have P := (((bkn wr.heap.size [.int .i64 x.lo.maj, .int .i64 x.lo.min, .int .i64 x.lo.pat, .slice a1 x.lo.pre.length c1, .int .i64 x.hi.maj, .int .i64 x.hi.min, .int .i64 x.hi.pat, .slice b1 x.hi.pre.length d1, .bool true] 101).alloc _)).bw hb
              have Q := ((bkn (wr.heap.size + 1) [.int .i64 y.lo.maj, .int .i64 y.lo.min, .int .i64 y.lo.pat, .slice a2 y.lo.pre.length c2, .int .i64 y.hi.maj, .int .i64 y.hi.min, .int .i64 y.hi.pat, .slice b2 y.hi.pre.length d2, .bool true] 101)).bw hb
              clear hb
              have s2 := B2.size
              clear Xc Xf Xl Yc Yf Yl
              have ⟨Xc, Xf, Xl⟩ := X
              have ⟨Yc, Yf, Yl⟩ := Y
              have ⟨Pc, Pf, P_l⟩ := P
              have ⟨Qc, Qf, Ql⟩ := Q
              clear e0 e1 e2 e3 e4 e5 e6 e7 e8 g0 g1 g2 g3 g4 g5 g6 g7 g8
              go_wp2_with fail
              refine (CH.out _ VB.out VD.out).mono ?_
              rintro e w3 ⟨rfl, hb⟩
              have B3 := bcm w hb
              have q3 : w2.heap.size ≤ w3.heap.size := qle hb
              replace VA := Hd (VA.out.bl hb)
              replace VB := Hd (VB.out.bl hb)
              replace VC := Hd (VC.out.bl hb)
              replace VD := Hd (VD.out.bl hb)
              replace X := X.bw hb
              replace Y := Y.bw hb
              replace P := P.bw hb
              replace Q := Q.bw hb
              clear hb
              have s3 := B3.size
              clear Xc Xf Xl Yc Yf Yl Pc Pf P_l Qc Qf Ql
              have ⟨Xc, Xf, Xl⟩ := X
              have ⟨Yc, Yf, Yl⟩ := Y
              have ⟨Pc, Pf, P_l⟩ := P
              have ⟨Qc, Qf, Ql⟩ := Q
              go_wp2_with fail
              go_ret
              exact ⟨⟨false, rfl, fun h => Bool.noConfusion h, fun h => absurd h (N2.out (by trivial))⟩, by go_grown⟩
            | true =>
              have ⟨Xc, Xf, Xl⟩ := X
              have ⟨Yc, Yf, Yl⟩ := Y
              go_wp2_with fail
              refine (CL.out _ (VA.out.bl (by go_grown)) (VC.out.bl (by go_grown))).mono ?_
              rintro e w2 ⟨rfl, hb⟩
              have B2 := bcm w hb
              have q2 : wr.heap.size + 2 ≤ w2.heap.size := qle hb
              replace VA := Hd (((VA.out.al _).al _).bl hb)
              replace VB := Hd (((VB.out.al _).al _).bl hb)
              replace VC := Hd (((VC.out.al _).al _).bl hb)
              replace VD := Hd (((VD.out.al _).al _).bl hb)
              replace X := (((X.alloc _).alloc _)).bw hb
              replace Y := (((Y.alloc _).alloc _)).bw hb
              have P := (((bkn wr.heap.size [.int .i64 x.lo.maj, .int .i64 x.lo.min, .int .i64 x.lo.pat, .slice a1 x.lo.pre.length c1, .int .i64 x.hi.maj, .int .i64 x.hi.min, .int .i64 x.hi.pat, .slice b1 x.hi.pre.length d1, .bool true] 101).alloc _)).bw hb
              have Q := ((bkn (wr.heap.size + 1) [.int .i64 y.lo.maj, .int .i64 y.lo.min, .int .i64 y.lo.pat, .slice a2 y.lo.pre.length c2, .int .i64 y.hi.maj, .int .i64 y.hi.min, .int .i64 y.hi.pat, .slice b2 y.hi.pre.length d2, .bool true] 101)).bw hb
              clear hb
              have s2 := B2.size
              clear Xc Xf Xl Yc Yf Yl
              have ⟨Xc, Xf, Xl⟩ := X
              have ⟨Yc, Yf, Yl⟩ := Y
              have ⟨Pc, Pf, P_l⟩ := P
              have ⟨Qc, Qf, Ql⟩ := Q
              clear e0 e1 e2 e3 e4 e5 e6 e7 e8 g0 g1 g2 g3 g4 g5 g6 g7 g8
              go_wp2_with fail
              refine (CH.out _ VB.out VD.out).mono ?_
              rintro e w3 ⟨rfl, hb⟩
              have B3 := bcm w hb
              have q3 : w2.heap.size ≤ w3.heap.size := qle hb
              replace VA := Hd (VA.out.bl hb)
              replace VB := Hd (VB.out.bl hb)
              replace VC := Hd (VC.out.bl hb)
              replace VD := Hd (VD.out.bl hb)
              replace X := X.bw hb
              replace Y := Y.bw hb
              replace P := P.bw hb
              replace Q := Q.bw hb
              clear hb
              have s3 := B3.size
              clear Xc Xf Xl Yc Yf Yl Pc Pf P_l Qc Qf Ql
              have ⟨Xc, Xf, Xl⟩ := X
              have ⟨Yc, Yf, Yl⟩ := Y
              have ⟨Pc, Pf, P_l⟩ := P
              have ⟨Qc, Qf, Ql⟩ := Q
              go_wp2_with fail
              go_roundw
              case rel => exact ⟨k + 1, hlt2, by go_num, Hd (NK.out (by trivial) (by trivial) (by trivial)), X, Y, B3⟩
              case measure => simp [intOf]; omega
        | false =>
          have ⟨Xc, Xf, Xl⟩ := X
          have ⟨Yc, Yf, Yl⟩ := Y
          go_wp2_with fail
          go_ret
          exact ⟨⟨false, rfl, fun h => Bool.noConfusion h, fun h => absurd h (NE.out (by decide))⟩, by go_grown⟩
      | false =>
        cases uy with
        | true =>
          have ⟨Xc, Xf, Xl⟩ := X
          have ⟨Yc, Yf, Yl⟩ := Y
          go_wp2_with fail
          go_ret
          exact ⟨⟨false, rfl, fun h => Bool.noConfusion h, fun h => absurd h (NE.out (by decide))⟩, by go_grown⟩
        | false =>
          cases m1 with
          | false =>
            have ⟨Xc, Xf, Xl⟩ := X
            have ⟨Yc, Yf, Yl⟩ := Y
            go_wp2_with fail
            refine (CL.out _ (VA.out.bl (by go_grown)) (VC.out.bl (by go_grown))).mono ?_
            rintro e w2 ⟨rfl, hb⟩
            have B2 := bcm w hb
            have q2 : wr.heap.size + 2 ≤ w2.heap.size := qle hb
            replace VA := Hd (((VA.out.al _).al _).bl hb)
            replace VB := Hd (((VB.out.al _).al _).bl hb)
            replace VC := Hd (((VC.out.al _).al _).bl hb)
            replace VD := Hd (((VD.out.al _).al _).bl hb)
            replace X := (((X.alloc _).alloc _)).bw hb
            replace Y := (((Y.alloc _).alloc _)).bw hb
            have P := (((bkn wr.heap.size [.int .i64 x.lo.maj, .int .i64 x.lo.min, .int .i64 x.lo.pat, .slice a1 x.lo.pre.length c1, .int .i64 x.hi.maj, .int .i64 x.hi.min, .int .i64 x.hi.pat, .slice b1 x.hi.pre.length d1, .bool false] 101).alloc _)).bw hb
            have Q := ((bkn (wr.heap.size + 1) [.int .i64 y.lo.maj, .int .i64 y.lo.min, .int .i64 y.lo.pat, .slice a2 y.lo.pre.length c2, .int .i64 y.hi.maj, .int .i64 y.hi.min, .int .i64 y.hi.pat, .slice b2 y.hi.pre.length d2, .bool false] 101)).bw hb
            clear hb
            have s2 := B2.size
            clear Xc Xf Xl Yc Yf Yl
            have ⟨Xc, Xf, Xl⟩ := X
            have ⟨Yc, Yf, Yl⟩ := Y
            have ⟨Pc, Pf, P_l⟩ := P
            have ⟨Qc, Qf, Ql⟩ := Q
            clear e0 e1 e2 e3 e4 e5 e6 e7 e8 g0 g1 g2 g3 g4 g5 g6 g7 g8
            go_wp2_with fail
            go_ret
            exact ⟨⟨false, rfl, fun h => Bool.noConfusion h, fun h => absurd h (N1.out (by trivial))⟩, by go_grown⟩
          | true =>
            cases m2 with
            | false =>
              have ⟨Xc, Xf, Xl⟩ := X
              have ⟨Yc, Yf, Yl⟩ := Y
              go_wp2_with fail
              refine (CL.out _ (VA.out.bl (by go_grown)) (VC.out.bl (by go_grown))).mono ?_
              rintro e w2 ⟨rfl, hb⟩
              have B2 := bcm w hb
              have q2 : wr.heap.size + 2 ≤ w2.heap.size := qle hb
              replace VA := Hd (((VA.out.al _).al _).bl hb)
              replace VB := Hd (((VB.out.al _).al _).bl hb)
              replace VC := Hd (((VC.out.al _).al _).bl hb)
              replace VD := Hd (((VD.out.al _).al _).bl hb)
              replace X := (((X.alloc _).alloc _)).bw hb
              replace Y := (((Y.alloc _).alloc _)).bw hb
              have P := (((bkn wr.heap.size [.int .i64 x.lo.maj, .int .i64 x.lo.min, .int .i64 x.lo.pat, .slice a1 x.lo.pre.length c1, .int .i64 x.hi.maj, .int .i64 x.hi.min, .int .i64 x.hi.pat, .slice b1 x.hi.pre.length d1, .bool false] 101).alloc _)).bw hb
              have Q := ((bkn (wr.heap.size + 1) [.int .i64 y.lo.maj, .int .i64 y.lo.min, .int .i64 y.lo.pat, .slice a2 y.lo.pre.length c2, .int .i64 y.hi.maj, .int .i64 y.hi.min, .int .i64 y.hi.pat, .slice b2 y.hi.pre.length d2, .bool false] 101)).bw hb
              clear hb
              have s2 := B2.size
              clear Xc Xf Xl Yc Yf Yl
              have ⟨Xc, Xf, Xl⟩ := X
              have ⟨Yc, Yf, Yl⟩ := Y
              have ⟨Pc, Pf, P_l⟩ := P
              have ⟨Qc, Qf, Ql⟩ := Q
              clear e0 e1 e2 e3 e4 e5 e6 e7 e8 g0 g1 g2 g3 g4 g5 g6 g7 g8
              go_wp2_with fail
              refine (CH.out _ VB.out VD.out).mono ?_
              rintro e w3 ⟨rfl, hb⟩
              have B3 := bcm w hb
              have q3 : w2.heap.size ≤ w3.heap.size := qle hb
              replace VA := Hd (VA.out.bl hb)
              replace VB := Hd (VB.out.bl hb)
              replace VC := Hd (VC.out.bl hb)
              replace VD := Hd (VD.out.bl hb)
              replace X := X.bw hb
              replace Y := Y.bw hb
              replace P := P.bw hb
              replace Q := Q.bw hb
              clear hb
              have s3 := B3.size
              clear Xc Xf Xl Yc Yf Yl Pc Pf P_l Qc Qf Ql
              have ⟨Xc, Xf, Xl⟩ := X
              have ⟨Yc, Yf, Yl⟩ := Y
              have ⟨Pc, Pf, P_l⟩ := P
              have ⟨Qc, Qf, Ql⟩ := Q
              go_wp2_with fail
              go_ret
              exact ⟨⟨false, rfl, fun h => Bool.noConfusion h, fun h => absurd h (N2.out (by trivial))⟩, by go_grown⟩
            | true =>
              have ⟨Xc, Xf, Xl⟩ := X
              have ⟨Yc, Yf, Yl⟩ := Y
              go_wp2_with fail
              refine (CL.out _ (VA.out.bl (by go_grown)) (VC.out.bl (by go_grown))).mono ?_
              rintro e w2 ⟨rfl, hb⟩
              have B2 := bcm w hb
              have q2 : wr.heap.size + 2 ≤ w2.heap.size := qle hb
              replace VA := Hd (((VA.out.al _).al _).bl hb)
              replace VB := Hd (((VB.out.al _).al _).bl hb)
              replace VC := Hd (((VC.out.al _).al _).bl hb)
              replace VD := Hd (((VD.out.al _).al _).bl hb)
              replace X := (((X.alloc _).alloc _)).bw hb
              replace Y := (((Y.alloc _).alloc _)).bw hb
              have P := (((bkn wr.heap.size [.int .i64 x.lo.maj, .int .i64 x.lo.min, .int .i64 x.lo.pat, .slice a1 x.lo.pre.length c1, .int .i64 x.hi.maj, .int .i64 x.hi.min, .int .i64 x.hi.pat, .slice b1 x.hi.pre.length d1, .bool false] 101).alloc _)).bw hb
              have Q := ((bkn (wr.heap.size + 1) [.int .i64 y.lo.maj, .int .i64 y.lo.min, .int .i64 y.lo.pat, .slice a2 y.lo.pre.length c2, .int .i64 y.hi.maj, .int .i64 y.hi.min, .int .i64 y.hi.pat, .slice b2 y.hi.pre.length d2, .bool false] 101)).bw hb
              clear hb
              have s2 := B2.size
              clear Xc Xf Xl Yc Yf Yl
              have ⟨Xc, Xf, Xl⟩ := X
              have ⟨Yc, Yf, Yl⟩ := Y
              have ⟨Pc, Pf, P_l⟩ := P
              have ⟨Qc, Qf, Ql⟩ := Q
              clear e0 e1 e2 e3 e4 e5 e6 e7 e8 g0 g1 g2 g3 g4 g5 g6 g7 g8
              go_wp2_with fail
              refine (CH.out _ VB.out VD.out).mono ?_
              rintro e w3 ⟨rfl, hb⟩
              have B3 := bcm w hb
              have q3 : w2.heap.size ≤ w3.heap.size := qle hb
              replace VA := Hd (VA.out.bl hb)
              replace VB := Hd (VB.out.bl hb)
              replace VC := Hd (VC.out.bl hb)
              replace VD := Hd (VD.out.bl hb)
              replace X := X.bw hb
              replace Y := Y.bw hb
              replace P := P.bw hb
              replace Q := Q.bw hb
              clear hb
              have s3 := B3.size
              clear Xc Xf Xl Yc Yf Yl Pc Pf P_l Qc Qf Ql
              have ⟨Xc, Xf, Xl⟩ := X
              have ⟨Yc, Yf, Yl⟩ := Y
              have ⟨Pc, Pf, P_l⟩ := P
              have ⟨Qc, Qf, Ql⟩ := Q
              go_wp2_with fail
              go_roundw
              case rel => exact ⟨k + 1, hlt2, by go_num, Hd (NK.out (by trivial) (by trivial) (by trivial)), X, Y, B3⟩
              case measure => simp [intOf]; omega
    · have E := Hd (hu.out.all (by omega) HL.out)
      have ⟨Xc, Xf, Xl⟩ := X
      have t2 : decide ((k : Int) < (r.length : Int)) = false := decF (by omega)
      go_wp2_with fail
      go_ret
      exact ⟨⟨true, rfl, fun _ => E.out, fun _ => rfl⟩, by go_grown⟩
 · have t1 : ((r.length : Int) != (t.length : Int)) = true := bneT (by omega)
   clear h1 h2
   have HL := Hd hl
   clear hl
   go_enter Tryz.func27, Tryz.ntmps27
   go_wp2_with fail
   go_ret
   exact ⟨⟨false, rfl, fun h => Bool.noConfusion h, fun h => absurd (congrArg List.length h) HL.out⟩, by go_grown⟩
end
section
open Go.RowKit
namespace Pl
def decS (n : Nat) : ByteArray := ⟨(Lib.decDigits n).toArray⟩
theorem ba_app (a b : List UInt8) : (⟨a.toArray⟩ : ByteArray) ++ ⟨b.toArray⟩ = ⟨(a ++ b).toArray⟩ := by
 apply ByteArray.ext
 simp
end Pl
end
section
open Go.RowKit
namespace Pl
theorem mkS_app (a b : List UInt8) : mkS a ++ mkS b = mkS (a ++ b) := ba_app a b
theorem mkS_size (l : List UInt8) : (mkS l).size = l.length := by show l.toArray.size = _; simp
theorem dot_mkS : (⟨#[46]⟩ : ByteArray) = mkS [46] := rfl
theorem numT_mkS (v : Ver) : ((((mkS (digS v.maj) ++ (⟨#[46]⟩ : ByteArray)) ++ mkS (digS v.min)) ++ (⟨#[46]⟩ : ByteArray)) ++ mkS (digS v.pat)) = mkS (numT v) := by
 rw [dot_mkS, mkS_app, mkS_app, mkS_app, mkS_app]; unfold numT; simp
theorem join_rest (x : List UInt8) (l : List (List UInt8)) : Lib.join (x :: l) [46] = x ++ restT l := by
 unfold Lib.join restT
 induction l generalizing x with
 | nil => simp [List.intercalate]
 | cons y l ih =>
   have := ih y
   simp only [List.intercalate, List.intersperse_cons_cons, List.flatten_cons, List.flatMap_cons] at this ⊢
   rw [this]; simp
theorem pre_join {l : List (List UInt8)} (h : l ≠ []) : 45 :: Lib.join l [46] = preT l := by
 cases l with
 | nil => exact absurd rfl h
 | cons x l => rw [join_rest]; rfl
theorem digS_size {n : Int} (h : inB n 0 1000000000 = true) : (mkS (digS n)).size ≤ 10 := by
 have := inB_true.1 h
 rw [mkS_size]; exact dS_len10 (by omega)
theorem ids_len {v : Ver} (h : v.Ok) : (preT (v.pre.map bsl)).length ≤ 36 := by
 have l4 := preT_len (v.pre.map bsl) (fun x hx => by
  obtain ⟨s, hs, rfl⟩ := List.mem_map.1 hx
  exact (identB_iff.1 (h.i s hs)).2.1)
 have := h.n
 simp only [List.length_map] at l4
 omega
end Pl
theorem Join_any (xs : List ByteArray) (oa : Option Addr) (c : Nat) (w : World) (hs : Sl w oa xs.length c 1 (strVals xs)) (hne : xs ≠ []) (hn : xs.length ≤ 1048576) (hl : (Lib.join (xs.map Pl.bsl) [46]).length ≤ 1048576) :
 Calls Tryz.prog 55 #[.slice oa xs.length c, .string (⟨#[46]⟩ : ByteArray)] w fun e w' => e = .returned (.string (Pl.mkS (Lib.join (xs.map Pl.bsl) [46]))) ∧ Below w.heap.size w w' := by
 rcases hs.mem with h0 | ⟨b, off, rfl, hlt, hc⟩
 · exact absurd (by simpa [strVals] using h0) hne
 · exact Tryz.strings_Join b off c xs (⟨#[46]⟩ : ByteArray) w (fun j x hx => hc j _ (by unfold strVals; rw [List.getElem?_map, hx]; rfl)) hlt (by omega) hs.hcap (by show (Lib.join (xs.map Pl.bsl) [46]).length ≤ _; omega)
def Pl.fmtV (v : Pl.Ver) : ByteArray := if (Pl.vrF v).1 ≠ 0 then Pl.mkS [] else Pl.mkS (Pl.verT v)
set_option maxHeartbeats 1000000 in
theorem Format_bad (v : Pl.Ver) (a : Option Addr) (c : Nat) (w : World) (h : VIn w v a c) (hbad : (Pl.vrF v).1 ≠ 0) :
 Calls Tryz.prog 13 #[verV v a c] w fun e w' => e = .returned (.tuple #[.string (Pl.fmtV v), fltV (Pl.vrF v)]) ∧ Below w.heap.size w w' := by
 have H := Hd h
 have E : Pl.fmtV v = ⟨#[]⟩ := by unfold Pl.fmtV; rw [if_pos hbad]; rfl
 rw [E]
 obtain ⟨F, hF⟩ : ∃ F, Pl.vrF v = F := ⟨_, rfl⟩
 have HF := Hd hF
 rw [hF] at hbad ⊢
 obtain ⟨f1, f2⟩ := F
 have u1 := bneT hbad
 have u2 := beqF hbad
 clear hbad hF E h
 go_enter Tryz.func13, Tryz.ntmps13
 go_wp2_with fail
 refine (Validate_any v a c _ (H.out.bl (by go_grown))).mono ?_
 rw [HF.out]
 rintro e w1 ⟨rfl, hb1⟩
 have B1 := bcm w hb1
 have rx : Box2 w1 (w.heap.size + 1) (.int .i64 0) (.int .i64 0) := (Box2.newAt (by simp)).below hb1 (by simp)
 have z2 := rx.lt
 obtain ⟨C0, C1, D0, D1, -⟩ := rx
 clear hb1
 go_wp2_with fail
 go_region
 go_wp2_with fail
 obtain ⟨R0, R1, -, -, -⟩ := (Box2.mk C0 C1 D0 D1 z2).set (.int .i64 f1) (.int .i64 f2)
 exact bodyPost_ret (v := .tuple #[.string ⟨#[]⟩, .agg #[.int .i64 f1, .int .i64 f2]]) (by simp [results, Tryz.results13, go_sem, R0, R1, z2]) rfl ⟨rfl, by go_grown⟩
set_option maxHeartbeats 2000000 in
theorem Format_good (v : Pl.Ver) (a : Option Addr) (c : Nat) (w : World) (h : VIn w v a c) (ok : v.Ok) (E : Env w) :
 Calls Tryz.prog 13 #[verV v a c] w fun e w' => e = .returned (.tuple #[.string (Pl.fmtV v), fltV (Pl.vrF v)]) ∧ Below w.heap.size w w' := by
 have H := Hd h
 have HE := Hd E
 have OK := Hd ok
 have HF := Hd (Pl.vrF_ok ok)
 have m1 := Pl.inT ok.m1
 have m2 := Pl.inT ok.m2
 have m3 := Pl.inT ok.m3
 have s1 := Pl.digS_size ok.m1
 have s2 := Pl.digS_size ok.m2
 have s3 := Pl.digS_size ok.m3
 have hn := ok.n
 have ET := Hd (show Pl.fmtV v = Pl.mkS (Pl.numT v) ++ Pl.mkS (Pl.preT (v.pre.map Pl.bsl)) by unfold Pl.fmtV; rw [HF.out, if_neg (by decide), Pl.mkS_app]; rfl)
 have EN := Hd (Pl.numT_mkS v)
 have k1 : ∀ s : ByteArray, (s ++ (⟨#[46]⟩ : ByteArray)).size = s.size + 1 := fun s => ByteArray.size_append
 have k2 : ∀ s t : ByteArray, (s ++ t).size = s.size + t.size := fun s t => ByteArray.size_append
 rw [HF.out]
 clear h ok E
 obtain ⟨S1, h1⟩ : ∃ S, Pl.mkS (Pl.digS v.maj) = S := ⟨_, rfl⟩
 obtain ⟨S2, h2⟩ : ∃ S, Pl.mkS (Pl.digS v.min) = S := ⟨_, rfl⟩
 obtain ⟨S3, h3⟩ : ∃ S, Pl.mkS (Pl.digS v.pat) = S := ⟨_, rfl⟩
 rw [h1] at s1
 rw [h2] at s2
 rw [h3] at s3
 rw [h1, h2, h3] at EN
 have q1 : (S1.size : Int) ≤ 8388608 := by omega
 have q2 : (S2.size : Int) ≤ 8388608 := by omega
 have q3 : (S3.size : Int) ≤ 8388608 := by omega
 have q4 : ((S1 ++ (⟨#[46]⟩ : ByteArray)).size : Int) ≤ 8388608 := by rw [k1]; omega
 have q5 : (((S1 ++ (⟨#[46]⟩ : ByteArray)) ++ S2).size : Int) ≤ 8388608 := by rw [k2, k1]; omega
 have q6 : ((((S1 ++ (⟨#[46]⟩ : ByteArray)) ++ S2) ++ (⟨#[46]⟩ : ByteArray)).size : Int) ≤ 8388608 := by rw [k1, k2, k1]; omega
 have q8 : (((((S1 ++ (⟨#[46]⟩ : ByteArray)) ++ S2) ++ (⟨#[46]⟩ : ByteArray)) ++ S3).size : Int) ≤ 100 := by rw [k2, k1, k2, k1]; omega
 have I1 := Hd (show ∀ W, Env W → Calls Tryz.prog 54 #[.int .i64 v.maj] W fun e w' => e = .returned (.string S1) ∧ Below W.heap.size W w' from fun W e => h1 ▸ Itoa_any v.maj W (by omega) (by omega) e)
 have I2 := Hd (show ∀ W, Env W → Calls Tryz.prog 54 #[.int .i64 v.min] W fun e w' => e = .returned (.string S2) ∧ Below W.heap.size W w' from fun W e => h2 ▸ Itoa_any v.min W (by omega) (by omega) e)
 have I3 := Hd (show ∀ W, Env W → Calls Tryz.prog 54 #[.int .i64 v.pat] W fun e w' => e = .returned (.string S3) ∧ Below W.heap.size W w' from fun W e => h3 ▸ Itoa_any v.pat W (by omega) (by omega) e)
 clear h1 h2 h3 k1 k2
 go_enter Tryz.func13, Tryz.ntmps13
 go_wp2_with fail
 refine (Validate_any v a c _ (H.out.bl (by go_grown))).mono ?_
 rw [HF.out]
 rintro e w1 ⟨rfl, hb1⟩
 have B1 := bcm w hb1
 have VB : Blk w1 w.heap.size [.int .i64 v.maj, .int .i64 v.min, .int .i64 v.pat, .slice a v.pre.length c] := ((Blk.new _ _ 24 (by simp)).alloc _).below hb1 (by go_size)
 have FB : Box2 w1 (w.heap.size + 1) (.int .i64 0) (.int .i64 0) := (Box2.newAt (by simp)).below hb1 (by simp)
 clear hb1
 have e0 := VB.c 0 _ rfl
 have e1 := VB.c 1 _ rfl
 have e2 := VB.c 2 _ rfl
 have e3 := VB.c 3 _ rfl
 have e4 := VB.lt
 go_wp2_with fail
 refine wp_region_ord [0, 1, 4, 5, 9, 10, 2, 3, 6, 7, 8, 11, 12, 13] (by kernel_rfl) (by kernel_rfl) ?_
 repeat (refine wpI_rd rfl rfl ?_; go_big_quiet_step (fail); refine wpQuiet_nil ?_)
 refine wpI_call (f := 54) (args := #[.int .i64 v.maj]) rfl rfl rfl (by simp [go_sem]) ?_
 have BW := (B1.alloc B1.size (.cells #[.int .i64 0, .int .i64 0] 27)).drew
 refine (I1.out _ (HE.out.bl BW)).mono ?_
 rintro e w2 ⟨rfl, hb2⟩
 refine ⟨_, rfl, hb2, ?_⟩
 have B2 : Below w.heap.size w w2 := bcall BW hb2 BW.size
 have VB2 := ((VB.alloc (.cells #[.int .i64 0, .int .i64 0] 27)).drew).below hb2 ((VB.alloc _).drew).lt
 have FB2 := ((FB.alloc (.cells #[.int .i64 0, .int .i64 0] 27)).drew).below hb2 ((FB.alloc _).drew).lt
 clear hb2 BW e0 e1 e2 e3 e4 VB FB
 try simp only [pts]
 repeat (refine wpI_rd rfl rfl ?_; go_big_quiet_step (fail); refine wpQuiet_nil ?_)
 refine wpI_call (f := 54) (args := #[.int .i64 v.min]) rfl rfl rfl (by simp [go_sem]) ?_
 refine (I2.out _ (HE.out.bl B2)).mono ?_
 rintro e w3 ⟨rfl, hb3⟩
 refine ⟨_, rfl, hb3, ?_⟩
 have B3 : Below w.heap.size w w3 := bcall B2 hb3 B2.size
 have VB3 := VB2.below hb3 VB2.lt
 have FB3 := FB2.below hb3 FB2.lt
 clear hb3 VB2 FB2
 try simp only [pts]
 repeat (refine wpI_rd rfl rfl ?_; go_big_quiet_step (fail); refine wpQuiet_nil ?_)
 refine wpI_call (f := 54) (args := #[.int .i64 v.pat]) rfl rfl rfl (by simp [go_sem]) ?_
 refine (I3.out _ (HE.out.bl B3)).mono ?_
 rintro e w4 ⟨rfl, hb4⟩
 refine ⟨_, rfl, hb4, ?_⟩
 have B4 : Below w.heap.size w w4 := bcall B3 hb4 B3.size
 have VB4 := VB3.below hb4 VB3.lt
 have FB4 := FB3.below hb4 FB3.lt
 clear hb4 VB3 FB3
 try simp only [pts]
 repeat (refine wpI_rd rfl rfl ?_; go_big_quiet_step (fail); refine wpQuiet_nil ?_)
 refine wpI_nil ?_
 try simp only [pts]
 have e0 := VB4.c 0 _ rfl
 have e1 := VB4.c 1 _ rfl
 have e2 := VB4.c 2 _ rfl
 have e3 := VB4.c 3 _ rfl
 have e4 := VB4.lt
 generalize (((S1 ++ (⟨#[46]⟩ : ByteArray)) ++ S2) ++ (⟨#[46]⟩ : ByteArray)) ++ S3 = T at *
 have q9 : (T.size : Int) ≤ 8388608 := by omega
 clear I1 I2 I3 q1 q2 q3 q4 q5 q6 s1 s2 s3
 by_cases hp : v.pre = []
 · have p1 : v.pre.length = 0 := by rw [hp]; rfl
   have t1 : decide (0 < v.pre.length) = false := by simp [p1]
   have t2 : (v.pre.length : Int) ≤ 0 := by omega
   have ER := Hd (show T = Pl.fmtV v by rw [ET.out, EN.out, Pl.mkS_app, hp]; simp [Pl.preT])
   clear hp p1
   obtain ⟨C0, C1, D0, D1, z2⟩ := FB4
   go_wp2_with fail
   obtain ⟨R0, R1, -, -, -⟩ := (Box2.mk C0 C1 D0 D1 z2).set (.int .i64 0) (.int .i64 0)
   exact bodyPost_ret (v := .tuple #[.string T, .agg #[.int .i64 0, .int .i64 0]]) (by simp [results, Tryz.results13, go_sem, R0, R1]) rfl ⟨by rw [ER.out], by go_grown⟩
 · have p1 : 0 < v.pre.length := List.length_pos_iff.2 hp
   have hj : Pl.bsl (⟨#[45]⟩ : ByteArray) ++ Lib.join (v.pre.map Pl.bsl) [46] = Pl.preT (v.pre.map Pl.bsl) := Pl.pre_join (by simpa using hp)
   have jl : (Lib.join (v.pre.map Pl.bsl) [46]).length ≤ 36 := by
    have h1 := Pl.ids_len OK.out
    rw [← hj, List.length_append] at h1
    omega
   obtain ⟨J, hJ⟩ : ∃ J, Pl.mkS (Lib.join (v.pre.map Pl.bsl) [46]) = J := ⟨_, rfl⟩
   have js : J.size ≤ 36 := by rw [← hJ, Pl.mkS_size]; exact jl
   have r1 : (J.size : Int) ≤ 8388608 := by omega
   have r2 : (((⟨#[45]⟩ : ByteArray) ++ J).size : Int) ≤ 8388608 := by rw [ByteArray.size_append]; have : ((⟨#[45]⟩ : ByteArray)).size = 1 := rfl; omega
   have ER := Hd (show T ++ ((⟨#[45]⟩ : ByteArray) ++ J) = Pl.fmtV v by
    rw [ET.out, EN.out, ← hJ, show (⟨#[45]⟩ : ByteArray) = Pl.mkS (Pl.bsl (⟨#[45]⟩ : ByteArray)) from rfl, Pl.mkS_app (Pl.bsl (⟨#[45]⟩ : ByteArray)), hj])
   have IJ := Hd (show ∀ W, Below w.heap.size w W → Calls Tryz.prog 55 #[.slice a v.pre.length c, .string (⟨#[46]⟩ : ByteArray)] W fun e w' => e = .returned (.string J) ∧ Below W.heap.size W w' from fun W hb => hJ ▸ Join_any v.pre a c W (H.out.sl.bl hb) hp (by omega) (by omega))
   clear hp hj hJ jl
   go_wp2_with fail
   refine (IJ.out _ B4).mono ?_
   rintro e w5 ⟨rfl, hb5⟩
   have B5 : Below w.heap.size w w5 := bcall B4 hb5 B4.size
   have FB5 := FB4.below hb5 FB4.lt
   obtain ⟨C0, C1, D0, D1, z2⟩ := FB5
   clear hb5 FB4 e0 e1 e2 e3 e4 VB4
   go_wp2_with fail
   obtain ⟨R0, R1, -, -, -⟩ := (Box2.mk C0 C1 D0 D1 z2).set (.int .i64 0) (.int .i64 0)
   exact bodyPost_ret (v := .tuple #[.string (T ++ ((⟨#[45]⟩ : ByteArray) ++ J)), .agg #[.int .i64 0, .int .i64 0]]) (by simp [results, Tryz.results13, go_sem, R0, R1]) rfl ⟨by rw [ER.out], by go_grown⟩
theorem Format_any (v : Pl.Ver) (a : Option Addr) (c : Nat) (w : World) (h : VIn w v a c) (E : Env w) :
 Calls Tryz.prog 13 #[verV v a c] w fun e w' => e = .returned (.tuple #[.string (Pl.fmtV v), fltV (Pl.vrF v)]) ∧ Below w.heap.size w w' := by
 rcases Pl.vrF_cases v with ⟨-, ok⟩ | hb
 · exact Format_good v a c w h ok E
 · exact Format_bad v a c w h hb
end
section
open Go.RowKit
namespace Pl
theorem mkS_bsl (s : ByteArray) : mkS (bsl s) = s := by simp [mkS, bsl]
end Pl
namespace Pl
end Pl
end
section
open Go.RowKit
namespace Pl
end Pl
@[go_sem] theorem Tryz.fld0 (x y : Int) (w : World) : (Instr.field 27 (.agg #[.int .i64 x, .int .i64 y]) 0).run Tryz.prog w = .ok (.int .i64 x) w := by kernel_rfl
end
section
open Go.RowKit
theorem Cut_at (s : ByteArray) (w : World) (hs : s.size ≤ 1048576) (E : Env w) :
 Calls Tryz.prog 139 #[.string s, .string (⟨#[45]⟩ : ByteArray)] w fun e w' => e = .returned (.tuple #[.string (Pl.mkS (Lib.cut (Pl.bsl s) [45]).1), .string (Pl.mkS (Lib.cut (Pl.bsl s) [45]).2.1), .bool (Lib.cut (Pl.bsl s) [45]).2.2]) ∧ ∃ q, w' = w.drewN q := by
 obtain ⟨m, hm⟩ := E.len
 exact Tryz.strings_Cut s (⟨#[45]⟩ : ByteArray) m w (by omega) hm
theorem split_B (s : ByteArray) (c : UInt8) : Lib.splitB ⟨#[c]⟩ 0 (Lib.countB s ⟨#[c]⟩) s = (Lib.split (Pl.bsl s) [c]).map Pl.mkS := by
 apply Pl.map_bsl_inj
 rw [List.map_map]
 have h := Lib.splitB_data ⟨#[c]⟩ 0 (Lib.countB s ⟨#[c]⟩) s
 have e : (Lib.split (Pl.bsl s) [c]).map (Pl.bsl ∘ Pl.mkS) = Lib.split (Pl.bsl s) [c] := by
  conv => rhs; rw [← List.map_id (Lib.split (Pl.bsl s) [c])]
  exact List.map_congr_left fun l _ => Pl.bsl_mkS l
 rw [e]
 exact h
theorem Split_at (s : ByteArray) (c : UInt8) (w : World) (hs : s.size ≤ 1048576) (E : Env w) :
 Calls Tryz.prog 59 #[.string s, .string ⟨#[c]⟩] w fun e w' => e = .returned (.slice (some ⟨w.heap.size, 0, none⟩) (Lib.split (Pl.bsl s) [c]).length (Lib.split (Pl.bsl s) [c]).length) ∧
  w' = w.alloc (.cells (strVals ((Lib.split (Pl.bsl s) [c]).map Pl.mkS)).toArray 9) := by
 obtain ⟨m, hm⟩ := E.len
 have h := Tryz.strings_Split s ⟨#[c]⟩ m w (by omega) hm nle
 have hl : Lib.countB s ⟨#[c]⟩ + 1 = (Lib.split (Pl.bsl s) [c]).length := by
  have := Lib.splitB_all ⟨#[c]⟩ nle 0 _ s rfl
  rw [split_B, List.length_map] at this
  exact this.symm
 rw [hl, split_B] at h
 exact h
theorem Atoi_any (s : ByteArray) (w : World) (hs : s.size ≤ 1048576) (E : Env w) :
 Calls Tryz.prog 140 #[.string s] w fun e w' => ∃ er, e = .returned (.tuple #[.int .i64 (Pl.atoiV (Pl.bsl s)), er]) ∧ Below w.heap.size w w' := by
 obtain ⟨t1, p1, h1⟩ := E.syn
 obtain ⟨t2, p2, h2⟩ := E.rng
 unfold Pl.atoiV
 rcases h : Lib.atoiAll (Pl.bsl s) with v | _ | _
 · refine (Tryz.strconv_Atoi_ok s (by omega) v h w).mono ?_
   rintro e w' ⟨rfl, hw⟩
   refine ⟨_, rfl, ?_⟩
   rcases hw with rfl | ⟨t, rfl⟩
   · exact Below.refl _ _
   · exact Lib.bytesWorld_below _ _ _
 · refine (Tryz.strconv_Atoi_syntax s (by omega) h _ w h1 (.inr ⟨_, _, rfl⟩)).mono ?_
   rintro e w' ⟨N, rfl, -, -, hb⟩
   exact ⟨_, rfl, hb⟩
 · refine (Tryz.strconv_Atoi_range s (by omega) h _ w h2 (.inr ⟨_, _, rfl⟩)).mono ?_
   rintro e w' ⟨N, rfl, -, -, hb⟩
   exact ⟨_, rfl, hb⟩
end
section
open Go.RowKit
namespace Pl
def parV (s : ByteArray) : Ver := if 80 < s.size then Ver.zero else (progParse (bsl s)).getD Ver.zero
def parF (s : ByteArray) : Int × Int := if 80 < s.size then (2, -1) else match progParse (bsl s) with | some _ => (0, 0) | none => (1, -1)
theorem par_none {s : ByteArray} (h0 : s.size ≤ 80) (h : progParse (bsl s) = none) : parV s = Ver.zero ∧ parF s = (1, -1) := by
 unfold parV parF; rw [if_neg (by omega), if_neg (by omega), h]; exact ⟨rfl, rfl⟩
theorem par_some {s : ByteArray} {v : Ver} (h0 : s.size ≤ 80) (h : progParse (bsl s) = some v) : parV s = v ∧ parF s = (0, 0) := by
 unfold parV parF; rw [if_neg (by omega), if_neg (by omega), h]; exact ⟨rfl, rfl⟩
theorem prog_none1 {s : List UInt8} (h : (Lib.split (Lib.cut s [45]).1 [46]).length ≠ 3) : progParse s = none := by unfold progParse progTry; rw [if_pos h]
theorem prog_try {s : List UInt8} {a b c : List UInt8} (h : Lib.split (Lib.cut s [45]).1 [46] = [a, b, c]) :
 progParse s = if (vrF ⟨atoiV a, atoiV b, atoiV c, if (Lib.cut s [45]).2.2 = true then (Lib.split (Lib.cut s [45]).2.1 [46]).map mkS else []⟩).1 = 0 ∧ verT ⟨atoiV a, atoiV b, atoiV c, if (Lib.cut s [45]).2.2 = true then (Lib.split (Lib.cut s [45]).2.1 [46]).map mkS else []⟩ = s then some ⟨atoiV a, atoiV b, atoiV c, if (Lib.cut s [45]).2.2 = true then (Lib.split (Lib.cut s [45]).2.1 [46]).map mkS else []⟩ else none := by
 unfold progParse progTry; rw [h]; rfl
theorem cut_len (s : List UInt8) (c : UInt8) : (Lib.cut s [c]).1.length ≤ s.length ∧ (Lib.cut s [c]).2.1.length ≤ s.length := by
 unfold Lib.cut
 split
 · simp only [List.length_take, List.length_drop]; omega
 · simp
theorem splitK_size (c : UInt8) : ∀ (k : Nat) (s : List UInt8), ∀ x ∈ Lib.splitK [c] 0 k s, x.length ≤ s.length
 | 0, s, x, hx => by rw [Lib.splitK, List.mem_singleton] at hx; rw [hx]; exact nle
 | k + 1, s, x, hx => by
   rw [Lib.splitK] at hx
   split at hx
   · rw [List.mem_singleton.1 hx]; exact nle
   · rcases List.mem_cons.1 hx with rfl | hx
     · rw [List.length_take]; omega
     · have := splitK_size c k _ x hx
       rw [List.length_drop] at this; omega
theorem split_size (s : List UInt8) (c : UInt8) : ∀ x ∈ Lib.split s [c], x.length ≤ s.length := splitK_size c _ s
theorem splitK_len (c : UInt8) : ∀ (k : Nat) (s : List UInt8), (Lib.splitK [c] 0 k s).length ≤ k + 1
 | 0, s => by rw [Lib.splitK]; simp
 | k + 1, s => by
   rw [Lib.splitK]
   split
   · simp
   · have := splitK_len c k (s.drop ((Lib.index s [c]).toNat + [c].length))
     rw [List.length_cons]; omega
theorem split_len (s : List UInt8) (c : UInt8) : (Lib.split s [c]).length ≤ s.length + 2 := by
 have := splitK_len c (Lib.count s [c]) s
 have h2 := Lib.count_le s [c]
 unfold Lib.split
 omega
end Pl
theorem list3 {α : Type} {l : List α} (h : l.length = 3) : ∃ a b c, l = [a, b, c] := by
 match l, h with
 | [a, b, c], _ => exact ⟨a, b, c, rfl⟩
theorem atoi_at {S : ByteArray} {x : List UInt8} {n : Int} (hS : Pl.mkS x = S) (hn : Pl.atoiV x = n) (hx : x.length ≤ 80) : ∀ W, Env W → Calls Tryz.prog 140 #[.string S] W fun e w' => ∃ er, e = .returned (.tuple #[.int .i64 n, er]) ∧ Below W.heap.size W w' := fun W e => by
 have := Atoi_any S W (by rw [← hS, Pl.mkS_size]; omega) e
 rw [← hS, Pl.bsl_mkS, hn] at this
 rw [← hS]
 exact this
def pcJ (n0 n1 n2 : Int) (P : Value) (j : Nat) : List Value := [.int .i64 (if 0 < j then n0 else 0), .int .i64 (if 1 < j then n1 else 0), .int .i64 (if 2 < j then n2 else 0), P]
def PLoop (w : World) (v1 nl np : Nat) (n0 n1 n2 : Int) (P : Value) (S0 S1 S2 : ByteArray) (Pa : Option Addr) (prel : List ByteArray) (Pc : Nat) (x : Value) (wr : World) : Prop := ∃ j : Nat, j ≤ 3 ∧ x = .int .i64 (j : Int) ∧ Below w.heap.size w wr ∧ np + 1 ≤ wr.heap.size ∧
 Hid (Blk wr w.heap.size [.int .i64 0, .int .i64 0, .int .i64 0, .slice none 0 0] ∧ Box2 wr (w.heap.size + 1) (.int .i64 0) (.int .i64 0) ∧ Box2 wr (w.heap.size + 1 + 1) (.int .i64 1) (.int .i64 (-1)) ∧ Blk wr v1 (pcJ n0 n1 n2 P j) ∧ Blk wr nl [.string S0, .string S1, .string S2] ∧ Blk wr np [.pointer (some ⟨v1, 0, none⟩), .pointer (some ⟨v1, 1, none⟩), .pointer (some ⟨v1, 2, none⟩)] ∧ Sl wr Pa prel.length Pc 1 (strVals prel))
theorem Sl_far {w : World} {oa : Option Addr} {n cap sz : Nat} {cs : List Value} (h : Sl w oa n cap sz cs) {a : Addr} (hne : ∀ b off, oa = some ⟨b, off, none⟩ → b ≠ a.block) (v : Value) : Sl (w.setCell a v) oa n cap sz cs := by
 refine ⟨h.hl, h.hcap, h.hmax, ?_⟩
 rcases h.mem with h0 | ⟨b, off, h1, h2, h3⟩
 · exact .inl h0
 · refine .inr ⟨b, off, h1, by simpa using h2, fun j u hu => ?_⟩
   rw [World.cell?_setCell_other _ _ _ _ (by intro h4; have := congrArg Addr.block h4; exact hne b off h1 (by first | exact this | exact this.symm))]
   exact h3 j u hu
theorem pre_cap {pre : List UInt8} (h : pre.length ≤ 80) : (Lib.split pre [46]).length ≤ maxLen := by
 have := Pl.split_len pre 46
 unfold maxLen; omega
set_option maxHeartbeats 1000000 in
theorem Parse_long (s : ByteArray) (w : World) (hs : s.size ≤ 9223372036854775807) (h : 80 < s.size) :
 Calls Tryz.prog 108 #[.string s] w (RVerF (Pl.parV s) (Pl.parF s) w) := by
 have E1 : Pl.parV s = Pl.Ver.zero := by unfold Pl.parV; rw [if_pos h]
 have E2 : Pl.parF s = (2, -1) := by unfold Pl.parF; rw [if_pos h]
 rw [E1, E2]
 clear E1 E2
 go_enter Tryz.func108, Tryz.ntmps108
 go_wp2_with fail
 go_returns
 exact ⟨none, 0, rfl, VIn.zero _, by go_grown⟩
end
end Go.Proofs.YtolfgcoalihmgaaGreatDoor
