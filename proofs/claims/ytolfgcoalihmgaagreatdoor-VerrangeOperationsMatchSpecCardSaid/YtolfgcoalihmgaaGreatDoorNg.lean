/- The law VerrangeOperationsMatchSpec: its walk. -/
import Derived.Test.YtolfgcoalihmgaaGreatDoorMEa
import Derived.Test.YtolfgcoalihmgaaGreatDoorMEn
import Derived.Test.YtolfgcoalihmgaaGreatDoorMEm
import Derived.Test.YtolfgcoalihmgaaGreatDoorEl
import Derived.Test.YtolfgcoalihmgaaGreatDoorEd
namespace Go.Proofs.YtolfgcoalihmgaaGreatDoor
open Go.RowKit
theorem VIn.under {w w' : World} {v : Pl.Ver} {a : Option Addr} {c : Nat} (h : VIn w v a c) (hx : Ext w w') : VIn w' v a c := ⟨h.sl.under hx, h.ss⟩
theorem RIn.under {w w' : World} {r : List Pl.Ivl} {a : Option Addr} {c : Nat} (h : RIn w r a c) (hx : Ext w w') : RIn w' r a c := by
 obtain ⟨cs, h1, h2⟩ := h.mem
 exact ⟨cs, h1.under hx, h2.mono fun x cc ⟨p, q, k, l, e, g1, g2⟩ => ⟨p, q, k, l, e, g1.under hx, g2.under hx⟩⟩
structure BoxA (w : World) (r : Nat) (cs : List Value) : Prop where
 a : ∀ o, w.cell? ⟨r, o, none⟩ = cs[o]?
 f : ∀ o, o < cs.length → w.frozen? ⟨r, o, none⟩ = false
 lt : r < w.heap.size
 blk : ∃ C e fr, w.heap[r]? = some (Obj.cells C e fr)
theorem BoxA.c {w : World} {r : Nat} {cs : List Value} (h : BoxA w r cs) (j : Nat) {u : Value} (hu : cs[j]? = some u := by rfl) : w.cell? ⟨r, j, none⟩ = some u := (h.a j).trans hu
theorem BoxA.under {w w' : World} {r : Nat} {cs : List Value} (h : BoxA w r cs) (hx : Ext w w') : BoxA w' r cs := by
 obtain ⟨C, e, fr, hC⟩ := h.blk
 obtain ⟨fr', hC', -⟩ := hx.row _ _ _ _ hC
 refine ⟨fun o => ?_, fun o ho => ?_, Nat.lt_of_lt_of_le h.lt hx.size, C, e, fr', hC'⟩
 · rw [← h.a o]
   unfold World.cell?
   simp only [hC, hC']
 · exact (hx.frozen _ _ ((h.a o).trans (List.getElem?_eq_getElem ho))).trans (h.f o ho)
theorem BoxA.below {w w' : World} {r : Nat} {cs : List Value} (h : BoxA w r cs) {B : Nat} (hb : Below B w w') (hr : r < B) : BoxA w' r cs := by
 obtain ⟨C, e, fr, hC⟩ := h.blk
 exact ⟨fun o => (hb.cell (p := ⟨r, o, none⟩) hr).trans (h.a o), fun o ho => (hb.frozen (p := ⟨r, o, none⟩) hr).trans (h.f o ho), Nat.lt_of_lt_of_le h.lt hb.size, C, e, fr, (hb.block r hr).trans hC⟩
theorem BoxA.bw {w w' : World} {r B : Nat} {cs : List Value} (h : BoxA w r cs) (hb : Below B w w') (hr : r < B := by go_size) : BoxA w' r cs := h.below hb hr
theorem setCell_blk {w : World} {r : Nat} {p : Addr} {v : Value} (h : ∃ C e fr, w.heap[r]? = some (Obj.cells C e fr)) : ∃ C e fr, (w.setCell p v).heap[r]? = some (Obj.cells C e fr) := by
 obtain ⟨C, e, fr, hC⟩ := h
 by_cases hp : r = p.block
 · subst hp
   by_cases hs : p.spot.isSome = true
   · exact ⟨C, e, fr, by unfold World.setCell; simp [Array.getElem?_modify, hC, hs]⟩
   · exact ⟨C.setIfInBounds p.off v, e, fr, by unfold World.setCell; simp [Array.getElem?_modify, hC, hs]⟩
 · exact ⟨C, e, fr, (Below.heap_setCell _ _ _ _ hp).trans hC⟩
theorem BoxA.set {w : World} {r : Nat} {cs : List Value} (h : BoxA w r cs) {k : Nat} (hk : k < cs.length) (v : Value) : BoxA (w.setCell ⟨r, k, none⟩ v) r (cs.set k v) := by
 refine ⟨fun j => ?_, fun j hj => by rw [frozen_setCell]; exact h.f j (by simpa using hj), by simpa using h.lt, setCell_blk h.blk⟩
 rw [List.getElem?_set]
 by_cases hjk : k = j
 · subst hjk
   rw [if_pos rfl, if_pos hk]
   exact World.cell?_setCell_same _ _ _ ((h.a k).trans (List.getElem?_eq_getElem hk))
 · rw [if_neg hjk, World.cell?_setCell_other _ _ _ _ (by intro h2; injection h2 with _ h3; exact hjk h3)]
   exact h.a j
theorem BoxA.far {w : World} {r : Nat} {cs : List Value} (h : BoxA w r cs) {p : Addr} (hne : p.block ≠ r) (v : Value) : BoxA (w.setCell p v) r cs := by
 refine ⟨fun j => ?_, fun j hj => by rw [frozen_setCell]; exact h.f j hj, by simpa using h.lt, setCell_blk h.blk⟩
 rw [World.cell?_setCell_other _ _ _ _ (by intro h2; apply hne; have := congrArg Addr.block h2; first | exact this | exact this.symm)]
 exact h.a j
theorem BoxA.fr {w : World} {r : Nat} {cs : List Value} (h : BoxA w r cs) (b o : Nat) (hne : b ≠ r) (v : Value) : BoxA (w.setCell ⟨b, o, none⟩ v) r cs := h.far hne v
theorem BoxA.st {w : World} {r : Nat} {cs : List Value} (h : BoxA w r cs) (k : Nat) (v : Value) (hk : k < cs.length := by simp) : BoxA (w.setCell ⟨r, k, none⟩ v) r (cs.set k v) := h.set hk v
theorem BoxA.new {w : World} {cs : List Value} {t : TypeId} : BoxA (w.alloc (.cells cs.toArray t)) w.heap.size cs :=
 ⟨fun o => by simp, fun o _ => World.frozen?_alloc_at _ _ _ _ rfl, by simp, _, _, _, by unfold World.alloc; simp; exact ⟨rfl, rfl, rfl⟩⟩
theorem BoxA.ne {w : World} {r s : Nat} {x y : Value} {xs ys : List Value} (h : BoxA w r (x :: xs)) (g : BoxA w s (y :: ys)) (hxy : x ≠ y) : r ≠ s := by
 rintro rfl
 have := (h.a 0).symm.trans (g.a 0)
 exact hxy (by simpa using this)
theorem RIn.setA {w : World} {r : List Pl.Ivl} {a : Option Addr} {c g : Nat} {cs : List Value} (h : RIn w r a c) (hk : BoxA w g cs) (hl : cs.length < 9) {j : Nat} {u : Value} (hu : cs[j]? = some u) (hs : ∀ s, u ≠ .string s) (v : Value) : RIn (w.setCell ⟨g, j, none⟩ v) r a c := by
 obtain ⟨es, h1, h2⟩ := h.mem
 refine ⟨es, ⟨h1.hl, h1.hcap, h1.hmax, ?_⟩, h2.mono fun x cc ⟨a, b, c, d, e, g1, g2⟩ => ⟨a, b, c, d, e, g1.setNS (hk.c j hu) hs v, g2.setNS (hk.c j hu) hs v⟩⟩
 rcases h1.mem with h0 | ⟨b, off, rfl, hlt, hc⟩
 · exact .inl h0
 · refine .inr ⟨b, off, rfl, by simpa using hlt, fun i y hy => ?_⟩
   rw [World.cell?_setCell_other]
   · exact hc i y hy
   · intro e
     have e1 : b = g := by injection e with e1 _; first | exact e1 | exact e1.symm
     subst e1
     have hi := (List.getElem?_eq_some_iff.1 hy).1
     have hn : es.length = r.length * 9 := h1.hl
     have hlast : es[i / 9 * 9 + 8]? = some (es[i / 9 * 9 + 8]'(by omega)) := List.getElem?_eq_getElem (by omega)
     have := hc _ _ hlast
     rw [hk.a] at this
     have := (List.getElem?_eq_some_iff.1 this).1
     omega
def Hold.rg (l : List Pl.Ivl) : Hold := ⟨fun u w => ∃ o c, u = .agg #[.slice o l.length c] ∧ RIn w l o c, fun _ _ _ ⟨o, c, h1, h2⟩ hx => ⟨o, c, h1, h2.under hx⟩⟩
def Hold.rgf (l : List Pl.Ivl) (x y : Int) : Hold := ⟨fun u w => ∃ o c, u = .tuple #[.agg #[.slice o l.length c], .agg #[.int .i64 x, .int .i64 y]] ∧ RIn w l o c, fun _ _ _ ⟨o, c, h1, h2⟩ hx => ⟨o, c, h1, h2.under hx⟩⟩
def Hold.bxA (B : Nat) (cs : List Value) : Hold := ⟨fun u w => ∃ r, u = .pointer (some ⟨r, 0, none⟩) ∧ B ≤ r ∧ BoxA w r cs, fun _ _ _ ⟨r, h1, h2, h3⟩ hx => ⟨r, h1, h2, h3.under hx⟩⟩
set_option maxRecDepth 100000 in
set_option maxHeartbeats 16000000 in
theorem vom_a (r t : List Pl.Ivl) (a b : Option Addr) (c d : Nat) (w : World) (h1 : RIn w r a c) (h2 : RIn w t b d) (EN : Env w) (f1 f2 : Int) (er : Pl.rngF r = (f1, f2)) (hf : f1 ≠ 0) : Calls Tryz.prog 4 #[.agg #[.slice a r.length c], .agg #[.slice b t.length d]] w fun e w' => e = .returned (.bool true) ∧ Below w.heap.size w w' := by
 have HE := Hd EN
 have H := Hd h1
 have K := Hd h2
 have ep : Pl.pairF r t = (f1, f2) := by rw [Pl.pairF_a (by rw [er]; exact hf), er]
 have CP := Hd (fun (W : World) (g1 : RIn W r a c) (g2 : RIn W t b d) => PairFault_any r t a b c d W g1 g2)
 have C1 := Hd (fun (W : World) (g1 : RIn W r a c) (g2 : RIn W t b d) => union_any r t a b c d W g1 g2)
 have C2 := Hd (fun (W : World) (g1 : RIn W r a c) (g2 : RIn W t b d) => inter_any r t a b c d W g1 g2)
 have C3 := Hd (fun (W : World) (g1 : RIn W r a c) => compl_any r a c W g1)
 have CF := Hd (fun (W : World) (g1 : RIn W r a c) => RangeFault_any r a c W g1)
 rw [ep] at CP C1 C2
 rw [er] at C3 CF
 rw [(Pl.op_bad (P := (f1, f2)) (r := _) hf).1, (Pl.op_bad (P := (f1, f2)) (r := _) hf).2] at C1
 rw [(Pl.op_bad (P := (f1, f2)) (r := _) hf).1, (Pl.op_bad (P := (f1, f2)) (r := _) hf).2] at C2
 rw [(Pl.op_bad (P := (f1, f2)) (r := _) hf).1, (Pl.op_bad (P := (f1, f2)) (r := _) hf).2] at C3
 have u1 : (f1 == 0) = false := beqF hf
 have u2 : (f1 != 0) = true := bneT hf
 clear hf
 delta RRngF at C1 C2 C3
 simp only [fltV, List.length_nil] at CP C1 C2 C3 CF
 clear h1 h2 EN er ep
 go_enter Tryz.func4, Tryz.ntmps4
 have B0 := brl w
 go_wp2_with fail
 replace H := Hd ((H.out.al (.cells #[.slice a r.length c] 33)).al (.cells #[.slice b t.length d] 33))
 replace K := Hd ((K.out.al (.cells #[.slice a r.length c] 33)).al (.cells #[.slice b t.length d] 33))
 have X := ((Bk.new (r := w.heap.size) (cs := [.slice a r.length c]) w 33 (by simp)).alloc (.cells #[.slice b t.length d] 33))
 have Y := (Bk.new (r := w.heap.size + 1) (cs := [.slice b t.length d]) (w.alloc (.cells #[.slice a r.length c] 33)) 33 (by simp))
 generalize hW : ((w.alloc (.cells #[.slice a r.length c] 33)).alloc (.cells #[.slice b t.length d] 33)) = w1 at *
 have B1 : Below w.heap.size w w1 := by rw [← hW]; go_grown
 have q1 : w.heap.size + 2 ≤ w1.heap.size := by rw [← hW]; go_size
 clear hW
 have s1 := B1.size
 have ⟨Xc, Xf, Xl⟩ := X
 have ⟨Yc, Yf, Yl⟩ := Y
 refine (ranges_any _ (HE.out.bl B1)).mono ?_
 rintro e w2 ⟨rfl, hb⟩
 have B2 := bcm w hb
 have q2 : w1.heap.size ≤ w2.heap.size := qle hb
 replace H := Hd (H.out.bl hb)
 replace K := Hd (K.out.bl hb)
 replace X := X.bw hb
 replace Y := Y.bw hb
 clear hb
 have s2 := B2.size
 clear Xc Xf Xl Yc Yf Yl
 have ⟨Xc, Xf, Xl⟩ := X
 have ⟨Yc, Yf, Yl⟩ := Y
 go_wp2_with fail
 refine (great_any r a c _ H.out).mono ?_
 rintro e w3 ⟨⟨gq1, rfl⟩, hb⟩
 have B3 := bcm w hb
 have q3 : w2.heap.size ≤ w3.heap.size := qle hb
 replace H := Hd (H.out.bl hb)
 replace K := Hd (K.out.bl hb)
 replace X := X.bw hb
 replace Y := Y.bw hb
 clear hb
 have s3 := B3.size
 clear Xc Xf Xl Yc Yf Yl
 have ⟨Xc, Xf, Xl⟩ := X
 have ⟨Yc, Yf, Yl⟩ := Y
 cases gq1 with
 | true =>
   go_wp2_with fail
   go_ret
   exact ⟨by first | rfl | simp, by go_grown⟩
 | false =>
   go_wp2_with fail
   refine (great_any t b d _ K.out).mono ?_
   rintro e w4 ⟨⟨gq2, rfl⟩, hb⟩
   have B4 := bcm w hb
   have q4 : w3.heap.size ≤ w4.heap.size := qle hb
   replace H := Hd (H.out.bl hb)
   replace K := Hd (K.out.bl hb)
   replace X := X.bw hb
   replace Y := Y.bw hb
   clear hb
   have s4 := B4.size
   clear Xc Xf Xl Yc Yf Yl
   have ⟨Xc, Xf, Xl⟩ := X
   have ⟨Yc, Yf, Yl⟩ := Y
   cases gq2 with
   | true =>
     go_wp2_with fail
     go_ret
     exact ⟨by first | rfl | simp, by go_grown⟩
   | false =>
     go_wp2_with fail
     refine (CP.out _ H.out K.out).mono ?_
     rintro e w5 ⟨rfl, hb⟩
     have B5 := bcm w hb
     have q5 : w4.heap.size ≤ w5.heap.size := qle hb
     replace H := Hd (H.out.bl hb)
     replace K := Hd (K.out.bl hb)
     replace X := X.bw hb
     replace Y := Y.bw hb
     clear hb
     have s5 := B5.size
     clear Xc Xf Xl Yc Yf Yl
     have ⟨Xc, Xf, Xl⟩ := X
     have ⟨Yc, Yf, Yl⟩ := Y
     go_wp2_with fail
     have B6 : Below w.heap.size w (w5.alloc (.cells #[.int .i64 f1, .int .i64 f2] 27)) := by go_grown
     have q6 : w5.heap.size + 1 ≤ (w5.alloc (.cells #[.int .i64 f1, .int .i64 f2] 27)).heap.size := by simp only [World.size_alloc]; omega
     replace H := Hd (H.out.al (.cells #[.int .i64 f1, .int .i64 f2] 27))
     replace K := Hd (K.out.al (.cells #[.int .i64 f1, .int .i64 f2] 27))
     replace X := (X.alloc (.cells #[.int .i64 f1, .int .i64 f2] 27))
     replace Y := (Y.alloc (.cells #[.int .i64 f1, .int .i64 f2] 27))
     have Wf := (Bk.new (r := w5.heap.size) (cs := [.int .i64 f1, .int .i64 f2]) w5 27 (by simp))
     clear Xc Xf Xl Yc Yf Yl
     generalize (w5.alloc (.cells #[.int .i64 f1, .int .i64 f2] 27)) = w6 at *
     have s6 := B6.size
     have ⟨Xc, Xf, Xl⟩ := X
     have ⟨Yc, Yf, Yl⟩ := Y
     have ⟨Wfc, Wff, Wfl⟩ := Wf
     refine (C1.out _ H.out K.out).mono ?_
     rintro e w7 ⟨ou, ku, rfl, RU, hb⟩
     replace RU := Hd RU
     have B7 := bcm w hb
     have q7 : w6.heap.size ≤ w7.heap.size := qle hb
     replace H := Hd (H.out.bl hb)
     replace K := Hd (K.out.bl hb)
     replace X := X.bw hb
     replace Y := Y.bw hb
     replace Wf := Wf.bw hb
     clear hb
     have s7 := B7.size
     clear Xc Xf Xl Yc Yf Yl Wfc Wff Wfl
     have ⟨Xc, Xf, Xl⟩ := X
     have ⟨Yc, Yf, Yl⟩ := Y
     have ⟨Wfc, Wff, Wfl⟩ := Wf
     go_wp2_with fail
     replace H := Hd ((H.out.al (.cells #[.slice ou 0 ku] 33)).al (.cells #[.int .i64 f1, .int .i64 f2] 27))
     replace K := Hd ((K.out.al (.cells #[.slice ou 0 ku] 33)).al (.cells #[.int .i64 f1, .int .i64 f2] 27))
     replace RU := Hd ((RU.out.al (.cells #[.slice ou 0 ku] 33)).al (.cells #[.int .i64 f1, .int .i64 f2] 27))
     replace X := ((X.alloc (.cells #[.slice ou 0 ku] 33)).alloc (.cells #[.int .i64 f1, .int .i64 f2] 27))
     replace Y := ((Y.alloc (.cells #[.slice ou 0 ku] 33)).alloc (.cells #[.int .i64 f1, .int .i64 f2] 27))
     replace Wf := ((Wf.alloc (.cells #[.slice ou 0 ku] 33)).alloc (.cells #[.int .i64 f1, .int .i64 f2] 27))
     have U := ((Bk.new (r := w7.heap.size) (cs := [.slice ou 0 ku]) w7 33 (by simp)).alloc (.cells #[.int .i64 f1, .int .i64 f2] 27))
     have F1 := (Bk.new (r := w7.heap.size + 1) (cs := [.int .i64 f1, .int .i64 f2]) (w7.alloc (.cells #[.slice ou 0 ku] 33)) 27 (by simp))
     clear Xc Xf Xl Yc Yf Yl Wfc Wff Wfl
     generalize hW : ((w7.alloc (.cells #[.slice ou 0 ku] 33)).alloc (.cells #[.int .i64 f1, .int .i64 f2] 27)) = w8 at *
     have B8 : Below w.heap.size w w8 := by rw [← hW]; go_grown
     have q8 : w7.heap.size + 2 ≤ w8.heap.size := by rw [← hW]; go_size
     clear hW
     have s8 := B8.size
     have ⟨Xc, Xf, Xl⟩ := X
     have ⟨Yc, Yf, Yl⟩ := Y
     have ⟨Wfc, Wff, Wfl⟩ := Wf
     have ⟨Uc, Uf, Ul⟩ := U
     have ⟨F1c, F1f, F1l⟩ := F1
     refine (C2.out _ H.out K.out).mono ?_
     rintro e w9 ⟨oi, ki, rfl, RI, hb⟩
     replace RI := Hd RI
     have B9 := bcm w hb
     have q9 : w8.heap.size ≤ w9.heap.size := qle hb
     replace H := Hd (H.out.bl hb)
     replace K := Hd (K.out.bl hb)
     replace RU := Hd (RU.out.bl hb)
     replace X := X.bw hb
     replace Y := Y.bw hb
     replace Wf := Wf.bw hb
     replace U := U.bw hb
     replace F1 := F1.bw hb
     clear hb
     have s9 := B9.size
     clear Xc Xf Xl Yc Yf Yl Wfc Wff Wfl Uc Uf Ul F1c F1f F1l
     have ⟨Xc, Xf, Xl⟩ := X
     have ⟨Yc, Yf, Yl⟩ := Y
     have ⟨Wfc, Wff, Wfl⟩ := Wf
     have ⟨Uc, Uf, Ul⟩ := U
     have ⟨F1c, F1f, F1l⟩ := F1
     go_wp2_with fail
     replace H := Hd ((H.out.al (.cells #[.slice oi 0 ki] 33)).al (.cells #[.int .i64 f1, .int .i64 f2] 27))
     replace K := Hd ((K.out.al (.cells #[.slice oi 0 ki] 33)).al (.cells #[.int .i64 f1, .int .i64 f2] 27))
     replace RU := Hd ((RU.out.al (.cells #[.slice oi 0 ki] 33)).al (.cells #[.int .i64 f1, .int .i64 f2] 27))
     replace RI := Hd ((RI.out.al (.cells #[.slice oi 0 ki] 33)).al (.cells #[.int .i64 f1, .int .i64 f2] 27))
     replace X := ((X.alloc (.cells #[.slice oi 0 ki] 33)).alloc (.cells #[.int .i64 f1, .int .i64 f2] 27))
     replace Y := ((Y.alloc (.cells #[.slice oi 0 ki] 33)).alloc (.cells #[.int .i64 f1, .int .i64 f2] 27))
     replace Wf := ((Wf.alloc (.cells #[.slice oi 0 ki] 33)).alloc (.cells #[.int .i64 f1, .int .i64 f2] 27))
     replace U := ((U.alloc (.cells #[.slice oi 0 ki] 33)).alloc (.cells #[.int .i64 f1, .int .i64 f2] 27))
     replace F1 := ((F1.alloc (.cells #[.slice oi 0 ki] 33)).alloc (.cells #[.int .i64 f1, .int .i64 f2] 27))
     have I := ((Bk.new (r := w9.heap.size) (cs := [.slice oi 0 ki]) w9 33 (by simp)).alloc (.cells #[.int .i64 f1, .int .i64 f2] 27))
     have F2 := (Bk.new (r := w9.heap.size + 1) (cs := [.int .i64 f1, .int .i64 f2]) (w9.alloc (.cells #[.slice oi 0 ki] 33)) 27 (by simp))
     clear Xc Xf Xl Yc Yf Yl Wfc Wff Wfl Uc Uf Ul F1c F1f F1l
     generalize hW : ((w9.alloc (.cells #[.slice oi 0 ki] 33)).alloc (.cells #[.int .i64 f1, .int .i64 f2] 27)) = w10 at *
     have B10 : Below w.heap.size w w10 := by rw [← hW]; go_grown
     have q10 : w9.heap.size + 2 ≤ w10.heap.size := by rw [← hW]; go_size
     clear hW
     have s10 := B10.size
     have ⟨Xc, Xf, Xl⟩ := X
     have ⟨Yc, Yf, Yl⟩ := Y
     have ⟨Wfc, Wff, Wfl⟩ := Wf
     have ⟨Uc, Uf, Ul⟩ := U
     have ⟨F1c, F1f, F1l⟩ := F1
     have ⟨Ic, If, Il⟩ := I
     have ⟨F2c, F2f, F2l⟩ := F2
     refine (C3.out _ H.out).mono ?_
     rintro e w11 ⟨oc, kc, rfl, RC, hb⟩
     replace RC := Hd RC
     have B11 := bcm w hb
     have q11 : w10.heap.size ≤ w11.heap.size := qle hb
     replace H := Hd (H.out.bl hb)
     replace K := Hd (K.out.bl hb)
     replace RU := Hd (RU.out.bl hb)
     replace RI := Hd (RI.out.bl hb)
     replace X := X.bw hb
     replace Y := Y.bw hb
     replace Wf := Wf.bw hb
     replace U := U.bw hb
     replace F1 := F1.bw hb
     replace I := I.bw hb
     replace F2 := F2.bw hb
     clear hb
     have s11 := B11.size
     clear Xc Xf Xl Yc Yf Yl Wfc Wff Wfl Uc Uf Ul F1c F1f F1l Ic If Il F2c F2f F2l
     have ⟨Xc, Xf, Xl⟩ := X
     have ⟨Yc, Yf, Yl⟩ := Y
     have ⟨Wfc, Wff, Wfl⟩ := Wf
     have ⟨Uc, Uf, Ul⟩ := U
     have ⟨F1c, F1f, F1l⟩ := F1
     have ⟨Ic, If, Il⟩ := I
     have ⟨F2c, F2f, F2l⟩ := F2
     clear CP C1 C2 C3
     go_wp2_with fail
     replace H := Hd ((H.out.al (.cells #[.slice oc 0 kc] 33)).al (.cells #[.int .i64 f1, .int .i64 f2] 27))
     replace K := Hd ((K.out.al (.cells #[.slice oc 0 kc] 33)).al (.cells #[.int .i64 f1, .int .i64 f2] 27))
     replace RU := Hd ((RU.out.al (.cells #[.slice oc 0 kc] 33)).al (.cells #[.int .i64 f1, .int .i64 f2] 27))
     replace RI := Hd ((RI.out.al (.cells #[.slice oc 0 kc] 33)).al (.cells #[.int .i64 f1, .int .i64 f2] 27))
     replace RC := Hd ((RC.out.al (.cells #[.slice oc 0 kc] 33)).al (.cells #[.int .i64 f1, .int .i64 f2] 27))
     replace X := ((X.alloc (.cells #[.slice oc 0 kc] 33)).alloc (.cells #[.int .i64 f1, .int .i64 f2] 27))
     replace Y := ((Y.alloc (.cells #[.slice oc 0 kc] 33)).alloc (.cells #[.int .i64 f1, .int .i64 f2] 27))
     replace Wf := ((Wf.alloc (.cells #[.slice oc 0 kc] 33)).alloc (.cells #[.int .i64 f1, .int .i64 f2] 27))
     replace U := ((U.alloc (.cells #[.slice oc 0 kc] 33)).alloc (.cells #[.int .i64 f1, .int .i64 f2] 27))
     replace F1 := ((F1.alloc (.cells #[.slice oc 0 kc] 33)).alloc (.cells #[.int .i64 f1, .int .i64 f2] 27))
     replace I := ((I.alloc (.cells #[.slice oc 0 kc] 33)).alloc (.cells #[.int .i64 f1, .int .i64 f2] 27))
     replace F2 := ((F2.alloc (.cells #[.slice oc 0 kc] 33)).alloc (.cells #[.int .i64 f1, .int .i64 f2] 27))
     have C := ((Bk.new (r := w11.heap.size) (cs := [.slice oc 0 kc]) w11 33 (by simp)).alloc (.cells #[.int .i64 f1, .int .i64 f2] 27))
     have F3 := (Bk.new (r := w11.heap.size + 1) (cs := [.int .i64 f1, .int .i64 f2]) (w11.alloc (.cells #[.slice oc 0 kc] 33)) 27 (by simp))
     clear Xc Xf Xl Yc Yf Yl Wfc Wff Wfl Uc Uf Ul F1c F1f F1l Ic If Il F2c F2f F2l
     generalize hW : ((w11.alloc (.cells #[.slice oc 0 kc] 33)).alloc (.cells #[.int .i64 f1, .int .i64 f2] 27)) = w12 at *
     have B12 : Below w.heap.size w w12 := by rw [← hW]; go_grown
     have q12 : w11.heap.size + 2 ≤ w12.heap.size := by rw [← hW]; go_size
     clear hW
     have s12 := B12.size
     have ⟨Xc, Xf, Xl⟩ := X
     have ⟨Yc, Yf, Yl⟩ := Y
     have ⟨Wfc, Wff, Wfl⟩ := Wf
     have ⟨Uc, Uf, Ul⟩ := U
     have ⟨F1c, F1f, F1l⟩ := F1
     have ⟨Ic, If, Il⟩ := I
     have ⟨F2c, F2f, F2l⟩ := F2
     have ⟨Cc, Cf, Cl⟩ := C
     have ⟨F3c, F3f, F3l⟩ := F3
     refine (CF.out _ H.out).mono ?_
     rintro e w13 ⟨rfl, hb⟩
     have B13 := bcm w hb
     have q13 : w12.heap.size ≤ w13.heap.size := qle hb
     replace H := Hd (H.out.bl hb)
     replace K := Hd (K.out.bl hb)
     replace RU := Hd (RU.out.bl hb)
     replace RI := Hd (RI.out.bl hb)
     replace RC := Hd (RC.out.bl hb)
     replace X := X.bw hb
     replace Y := Y.bw hb
     replace Wf := Wf.bw hb
     replace U := U.bw hb
     replace F1 := F1.bw hb
     replace I := I.bw hb
     replace F2 := F2.bw hb
     replace C := C.bw hb
     replace F3 := F3.bw hb
     clear hb
     have s13 := B13.size
     clear Xc Xf Xl Yc Yf Yl Wfc Wff Wfl Uc Uf Ul F1c F1f F1l Ic If Il F2c F2f F2l Cc Cf Cl F3c F3f F3l
     have ⟨Xc, Xf, Xl⟩ := X
     have ⟨Yc, Yf, Yl⟩ := Y
     have ⟨Wfc, Wff, Wfl⟩ := Wf
     have ⟨Uc, Uf, Ul⟩ := U
     have ⟨F1c, F1f, F1l⟩ := F1
     have ⟨Ic, If, Il⟩ := I
     have ⟨F2c, F2f, F2l⟩ := F2
     have ⟨Cc, Cf, Cl⟩ := C
     have ⟨F3c, F3f, F3l⟩ := F3
     go_wp2_with fail
     replace H := Hd ((H.out.setBk Wf (by simp) (j := 0) rfl (by nofun) (.int .i64 f1)).setBk (Wf.st 0 (.int .i64 f1)) (by simp) (j := 1) rfl (by nofun) (.int .i64 f2))
     replace K := Hd ((K.out.setBk Wf (by simp) (j := 0) rfl (by nofun) (.int .i64 f1)).setBk (Wf.st 0 (.int .i64 f1)) (by simp) (j := 1) rfl (by nofun) (.int .i64 f2))
     replace RU := Hd ((RU.out.setBk Wf (by simp) (j := 0) rfl (by nofun) (.int .i64 f1)).setBk (Wf.st 0 (.int .i64 f1)) (by simp) (j := 1) rfl (by nofun) (.int .i64 f2))
     replace RI := Hd ((RI.out.setBk Wf (by simp) (j := 0) rfl (by nofun) (.int .i64 f1)).setBk (Wf.st 0 (.int .i64 f1)) (by simp) (j := 1) rfl (by nofun) (.int .i64 f2))
     replace RC := Hd ((RC.out.setBk Wf (by simp) (j := 0) rfl (by nofun) (.int .i64 f1)).setBk (Wf.st 0 (.int .i64 f1)) (by simp) (j := 1) rfl (by nofun) (.int .i64 f2))
     replace X := ((X.fr w5.heap.size 0 (by omega) (.int .i64 f1)).fr w5.heap.size 1 (by omega) (.int .i64 f2))
     replace Y := ((Y.fr w5.heap.size 0 (by omega) (.int .i64 f1)).fr w5.heap.size 1 (by omega) (.int .i64 f2))
     replace Wf := ((Wf.st 0 (.int .i64 f1)).st 1 (.int .i64 f2))
     replace U := ((U.fr w5.heap.size 0 (by omega) (.int .i64 f1)).fr w5.heap.size 1 (by omega) (.int .i64 f2))
     replace F1 := ((F1.fr w5.heap.size 0 (by omega) (.int .i64 f1)).fr w5.heap.size 1 (by omega) (.int .i64 f2))
     replace I := ((I.fr w5.heap.size 0 (by omega) (.int .i64 f1)).fr w5.heap.size 1 (by omega) (.int .i64 f2))
     replace F2 := ((F2.fr w5.heap.size 0 (by omega) (.int .i64 f1)).fr w5.heap.size 1 (by omega) (.int .i64 f2))
     replace C := ((C.fr w5.heap.size 0 (by omega) (.int .i64 f1)).fr w5.heap.size 1 (by omega) (.int .i64 f2))
     replace F3 := ((F3.fr w5.heap.size 0 (by omega) (.int .i64 f1)).fr w5.heap.size 1 (by omega) (.int .i64 f2))
     clear Xc Xf Xl Yc Yf Yl Wfc Wff Wfl Uc Uf Ul F1c F1f F1l Ic If Il F2c F2f F2l Cc Cf Cl F3c F3f F3l
     generalize hW : ((w13.setCell ⟨w5.heap.size, 0, none⟩ (.int .i64 f1)).setCell ⟨w5.heap.size, 1, none⟩ (.int .i64 f2)) = w14 at *
     have B14 : Below w.heap.size w w14 := by rw [← hW]; go_grown
     have q14 : w13.heap.size ≤ w14.heap.size := by rw [← hW]; go_size
     clear hW
     have s14 := B14.size
     have ⟨Xc, Xf, Xl⟩ := X
     have ⟨Yc, Yf, Yl⟩ := Y
     have ⟨Wfc, Wff, Wfl⟩ := Wf
     have ⟨Uc, Uf, Ul⟩ := U
     have ⟨F1c, F1f, F1l⟩ := F1
     have ⟨Ic, If, Il⟩ := I
     have ⟨F2c, F2f, F2l⟩ := F2
     have ⟨Cc, Cf, Cl⟩ := C
     have ⟨F3c, F3f, F3l⟩ := F3
     go_wp2_with fail
     go_ret
     exact ⟨by first | rfl | simp, by go_grown⟩
set_option maxRecDepth 100000 in
set_option maxHeartbeats 16000000 in
theorem vom_b (r t : List Pl.Ivl) (a b : Option Addr) (c d : Nat) (w : World) (h1 : RIn w r a c) (h2 : RIn w t b d) (EN : Env w) (er : Pl.rngF r = (0, 0)) (f1 f2 : Int) (et : Pl.rngF t = (f1, f2)) (hf : f1 ≠ 0) : Calls Tryz.prog 4 #[.agg #[.slice a r.length c], .agg #[.slice b t.length d]] w fun e w' => e = .returned (.bool true) ∧ Below w.heap.size w w' := by
 have HE := Hd EN
 have H := Hd h1
 have K := Hd h2
 have ep : Pl.pairF r t = (f1, -2) := by rw [Pl.pairF_b (by rw [er]) (by rw [et]; exact hf), et]
 have CP := Hd (fun (W : World) (g1 : RIn W r a c) (g2 : RIn W t b d) => PairFault_any r t a b c d W g1 g2)
 have C1 := Hd (fun (W : World) (g1 : RIn W r a c) (g2 : RIn W t b d) => union_any r t a b c d W g1 g2)
 have C2 := Hd (fun (W : World) (g1 : RIn W r a c) (g2 : RIn W t b d) => inter_any r t a b c d W g1 g2)
 have C3 := Hd (fun (W : World) (g1 : RIn W r a c) => compl_any r a c W g1)
 have CF := Hd (fun (W : World) (g1 : RIn W r a c) => RangeFault_any r a c W g1)
 rw [ep] at CP C1 C2
 rw [er] at C3 CF
 rw [(Pl.op_bad (P := (f1, -2)) (r := _) hf).1, (Pl.op_bad (P := (f1, -2)) (r := _) hf).2] at C1
 rw [(Pl.op_bad (P := (f1, -2)) (r := _) hf).1, (Pl.op_bad (P := (f1, -2)) (r := _) hf).2] at C2
 rw [Pl.op_ok.1, Pl.op_ok.2] at C3
 have kr := Pl.rng_ok (r := r) (by rw [er])
 have CR := Hd (fun (W : World) (g1 : RIn W r a c) => RangeRest_any r a c W g1 kr.2 (by omega))
 generalize hX3 : Pl.invR r = x3 at *
 have CS3 := Hd (fun (W : World) (o1 : Option Addr) (k1 : Nat) (g1 : RIn W x3 o1 k1) => small_any x3 o1 k1 W g1)
 generalize Pl.limR x3 = l3 at *
 generalize Pl.limF x3 = G3 at *
 obtain ⟨p3, y3⟩ := G3
 delta RRngF at CS3
 delta RRng at CR
 have u1 : (f1 == 0) = false := beqF hf
 have u2 : (f1 != 0) = true := bneT hf
 clear hf
 delta RRngF at C1 C2 C3
 simp only [fltV, List.length_nil] at CP C1 C2 C3 CF CS3
 clear h1 h2 EN er ep et kr hX3
 go_enter Tryz.func4, Tryz.ntmps4
 have B0 := brl w
 go_wp2_with fail
 replace H := Hd ((H.out.al (.cells #[.slice a r.length c] 33)).al (.cells #[.slice b t.length d] 33))
 replace K := Hd ((K.out.al (.cells #[.slice a r.length c] 33)).al (.cells #[.slice b t.length d] 33))
 have X := ((Bk.new (r := w.heap.size) (cs := [.slice a r.length c]) w 33 (by simp)).alloc (.cells #[.slice b t.length d] 33))
 have Y := (Bk.new (r := w.heap.size + 1) (cs := [.slice b t.length d]) (w.alloc (.cells #[.slice a r.length c] 33)) 33 (by simp))
 generalize hW : ((w.alloc (.cells #[.slice a r.length c] 33)).alloc (.cells #[.slice b t.length d] 33)) = w1 at *
 have B1 : Below w.heap.size w w1 := by rw [← hW]; go_grown
 have q1 : w.heap.size + 2 ≤ w1.heap.size := by rw [← hW]; go_size
 clear hW
 have s1 := B1.size
 have ⟨Xc, Xf, Xl⟩ := X
 have ⟨Yc, Yf, Yl⟩ := Y
 refine (ranges_any _ (HE.out.bl B1)).mono ?_
 rintro e w2 ⟨rfl, hb⟩
 have B2 := bcm w hb
 have q2 : w1.heap.size ≤ w2.heap.size := qle hb
 replace H := Hd (H.out.bl hb)
 replace K := Hd (K.out.bl hb)
 replace X := X.bw hb
 replace Y := Y.bw hb
 clear hb
 have s2 := B2.size
 clear Xc Xf Xl Yc Yf Yl
 have ⟨Xc, Xf, Xl⟩ := X
 have ⟨Yc, Yf, Yl⟩ := Y
 go_wp2_with fail
 refine (great_any r a c _ H.out).mono ?_
 rintro e w3 ⟨⟨gq1, rfl⟩, hb⟩
 have B3 := bcm w hb
 have q3 : w2.heap.size ≤ w3.heap.size := qle hb
 replace H := Hd (H.out.bl hb)
 replace K := Hd (K.out.bl hb)
 replace X := X.bw hb
 replace Y := Y.bw hb
 clear hb
 have s3 := B3.size
 clear Xc Xf Xl Yc Yf Yl
 have ⟨Xc, Xf, Xl⟩ := X
 have ⟨Yc, Yf, Yl⟩ := Y
 cases gq1 with
 | true =>
   go_wp2_with fail
   go_ret
   exact ⟨by first | rfl | simp, by go_grown⟩
 | false =>
   go_wp2_with fail
   refine (great_any t b d _ K.out).mono ?_
   rintro e w4 ⟨⟨gq2, rfl⟩, hb⟩
   have B4 := bcm w hb
   have q4 : w3.heap.size ≤ w4.heap.size := qle hb
   replace H := Hd (H.out.bl hb)
   replace K := Hd (K.out.bl hb)
   replace X := X.bw hb
   replace Y := Y.bw hb
   clear hb
   have s4 := B4.size
   clear Xc Xf Xl Yc Yf Yl
   have ⟨Xc, Xf, Xl⟩ := X
   have ⟨Yc, Yf, Yl⟩ := Y
   cases gq2 with
   | true =>
     go_wp2_with fail
     go_ret
     exact ⟨by first | rfl | simp, by go_grown⟩
   | false =>
     go_wp2_with fail
     refine (CP.out _ H.out K.out).mono ?_
     rintro e w5 ⟨rfl, hb⟩
     have B5 := bcm w hb
     have q5 : w4.heap.size ≤ w5.heap.size := qle hb
     replace H := Hd (H.out.bl hb)
     replace K := Hd (K.out.bl hb)
     replace X := X.bw hb
     replace Y := Y.bw hb
     clear hb
     have s5 := B5.size
     clear Xc Xf Xl Yc Yf Yl
     have ⟨Xc, Xf, Xl⟩ := X
     have ⟨Yc, Yf, Yl⟩ := Y
     go_wp2_with fail
     have B6 : Below w.heap.size w (w5.alloc (.cells #[.int .i64 f1, .int .i64 (-2)] 27)) := by go_grown
     have q6 : w5.heap.size + 1 ≤ (w5.alloc (.cells #[.int .i64 f1, .int .i64 (-2)] 27)).heap.size := by simp only [World.size_alloc]; omega
     replace H := Hd (H.out.al (.cells #[.int .i64 f1, .int .i64 (-2)] 27))
     replace K := Hd (K.out.al (.cells #[.int .i64 f1, .int .i64 (-2)] 27))
     replace X := (X.alloc (.cells #[.int .i64 f1, .int .i64 (-2)] 27))
     replace Y := (Y.alloc (.cells #[.int .i64 f1, .int .i64 (-2)] 27))
     have Wf := (Bk.new (r := w5.heap.size) (cs := [.int .i64 f1, .int .i64 (-2)]) w5 27 (by simp))
     clear Xc Xf Xl Yc Yf Yl
     generalize (w5.alloc (.cells #[.int .i64 f1, .int .i64 (-2)] 27)) = w6 at *
     have s6 := B6.size
     have ⟨Xc, Xf, Xl⟩ := X
     have ⟨Yc, Yf, Yl⟩ := Y
     have ⟨Wfc, Wff, Wfl⟩ := Wf
     refine (C1.out _ H.out K.out).mono ?_
     rintro e w7 ⟨ou, ku, rfl, RU, hb⟩
     replace RU := Hd RU
     have B7 := bcm w hb
     have q7 : w6.heap.size ≤ w7.heap.size := qle hb
     replace H := Hd (H.out.bl hb)
     replace K := Hd (K.out.bl hb)
     replace X := X.bw hb
     replace Y := Y.bw hb
     replace Wf := Wf.bw hb
     clear hb
     have s7 := B7.size
     clear Xc Xf Xl Yc Yf Yl Wfc Wff Wfl
     have ⟨Xc, Xf, Xl⟩ := X
     have ⟨Yc, Yf, Yl⟩ := Y
     have ⟨Wfc, Wff, Wfl⟩ := Wf
     go_wp2_with fail
     replace H := Hd ((H.out.al (.cells #[.slice ou 0 ku] 33)).al (.cells #[.int .i64 f1, .int .i64 (-2)] 27))
     replace K := Hd ((K.out.al (.cells #[.slice ou 0 ku] 33)).al (.cells #[.int .i64 f1, .int .i64 (-2)] 27))
     replace RU := Hd ((RU.out.al (.cells #[.slice ou 0 ku] 33)).al (.cells #[.int .i64 f1, .int .i64 (-2)] 27))
     replace X := ((X.alloc (.cells #[.slice ou 0 ku] 33)).alloc (.cells #[.int .i64 f1, .int .i64 (-2)] 27))
     replace Y := ((Y.alloc (.cells #[.slice ou 0 ku] 33)).alloc (.cells #[.int .i64 f1, .int .i64 (-2)] 27))
     replace Wf := ((Wf.alloc (.cells #[.slice ou 0 ku] 33)).alloc (.cells #[.int .i64 f1, .int .i64 (-2)] 27))
     have U := ((Bk.new (r := w7.heap.size) (cs := [.slice ou 0 ku]) w7 33 (by simp)).alloc (.cells #[.int .i64 f1, .int .i64 (-2)] 27))
     have F1 := (Bk.new (r := w7.heap.size + 1) (cs := [.int .i64 f1, .int .i64 (-2)]) (w7.alloc (.cells #[.slice ou 0 ku] 33)) 27 (by simp))
     clear Xc Xf Xl Yc Yf Yl Wfc Wff Wfl
     generalize hW : ((w7.alloc (.cells #[.slice ou 0 ku] 33)).alloc (.cells #[.int .i64 f1, .int .i64 (-2)] 27)) = w8 at *
     have B8 : Below w.heap.size w w8 := by rw [← hW]; go_grown
     have q8 : w7.heap.size + 2 ≤ w8.heap.size := by rw [← hW]; go_size
     clear hW
     have s8 := B8.size
     have ⟨Xc, Xf, Xl⟩ := X
     have ⟨Yc, Yf, Yl⟩ := Y
     have ⟨Wfc, Wff, Wfl⟩ := Wf
     have ⟨Uc, Uf, Ul⟩ := U
     have ⟨F1c, F1f, F1l⟩ := F1
     refine (C2.out _ H.out K.out).mono ?_
     rintro e w9 ⟨oi, ki, rfl, RI, hb⟩
     replace RI := Hd RI
     have B9 := bcm w hb
     have q9 : w8.heap.size ≤ w9.heap.size := qle hb
     replace H := Hd (H.out.bl hb)
     replace K := Hd (K.out.bl hb)
     replace RU := Hd (RU.out.bl hb)
     replace X := X.bw hb
     replace Y := Y.bw hb
     replace Wf := Wf.bw hb
     replace U := U.bw hb
     replace F1 := F1.bw hb
     clear hb
     have s9 := B9.size
     clear Xc Xf Xl Yc Yf Yl Wfc Wff Wfl Uc Uf Ul F1c F1f F1l
     have ⟨Xc, Xf, Xl⟩ := X
     have ⟨Yc, Yf, Yl⟩ := Y
     have ⟨Wfc, Wff, Wfl⟩ := Wf
     have ⟨Uc, Uf, Ul⟩ := U
     have ⟨F1c, F1f, F1l⟩ := F1
     go_wp2_with fail
     replace H := Hd ((H.out.al (.cells #[.slice oi 0 ki] 33)).al (.cells #[.int .i64 f1, .int .i64 (-2)] 27))
     replace K := Hd ((K.out.al (.cells #[.slice oi 0 ki] 33)).al (.cells #[.int .i64 f1, .int .i64 (-2)] 27))
     replace RU := Hd ((RU.out.al (.cells #[.slice oi 0 ki] 33)).al (.cells #[.int .i64 f1, .int .i64 (-2)] 27))
     replace RI := Hd ((RI.out.al (.cells #[.slice oi 0 ki] 33)).al (.cells #[.int .i64 f1, .int .i64 (-2)] 27))
     replace X := ((X.alloc (.cells #[.slice oi 0 ki] 33)).alloc (.cells #[.int .i64 f1, .int .i64 (-2)] 27))
     replace Y := ((Y.alloc (.cells #[.slice oi 0 ki] 33)).alloc (.cells #[.int .i64 f1, .int .i64 (-2)] 27))
     replace Wf := ((Wf.alloc (.cells #[.slice oi 0 ki] 33)).alloc (.cells #[.int .i64 f1, .int .i64 (-2)] 27))
     replace U := ((U.alloc (.cells #[.slice oi 0 ki] 33)).alloc (.cells #[.int .i64 f1, .int .i64 (-2)] 27))
     replace F1 := ((F1.alloc (.cells #[.slice oi 0 ki] 33)).alloc (.cells #[.int .i64 f1, .int .i64 (-2)] 27))
     have I := ((Bk.new (r := w9.heap.size) (cs := [.slice oi 0 ki]) w9 33 (by simp)).alloc (.cells #[.int .i64 f1, .int .i64 (-2)] 27))
     have F2 := (Bk.new (r := w9.heap.size + 1) (cs := [.int .i64 f1, .int .i64 (-2)]) (w9.alloc (.cells #[.slice oi 0 ki] 33)) 27 (by simp))
     clear Xc Xf Xl Yc Yf Yl Wfc Wff Wfl Uc Uf Ul F1c F1f F1l
     generalize hW : ((w9.alloc (.cells #[.slice oi 0 ki] 33)).alloc (.cells #[.int .i64 f1, .int .i64 (-2)] 27)) = w10 at *
     have B10 : Below w.heap.size w w10 := by rw [← hW]; go_grown
     have q10 : w9.heap.size + 2 ≤ w10.heap.size := by rw [← hW]; go_size
     clear hW
     have s10 := B10.size
     have ⟨Xc, Xf, Xl⟩ := X
     have ⟨Yc, Yf, Yl⟩ := Y
     have ⟨Wfc, Wff, Wfl⟩ := Wf
     have ⟨Uc, Uf, Ul⟩ := U
     have ⟨F1c, F1f, F1l⟩ := F1
     have ⟨Ic, If, Il⟩ := I
     have ⟨F2c, F2f, F2l⟩ := F2
     refine (C3.out _ H.out).mono ?_
     rintro e w11 ⟨oc, kc, rfl, RC, hb⟩
     replace RC := Hd RC
     have B11 := bcm w hb
     have q11 : w10.heap.size ≤ w11.heap.size := qle hb
     replace H := Hd (H.out.bl hb)
     replace K := Hd (K.out.bl hb)
     replace RU := Hd (RU.out.bl hb)
     replace RI := Hd (RI.out.bl hb)
     replace X := X.bw hb
     replace Y := Y.bw hb
     replace Wf := Wf.bw hb
     replace U := U.bw hb
     replace F1 := F1.bw hb
     replace I := I.bw hb
     replace F2 := F2.bw hb
     clear hb
     have s11 := B11.size
     clear Xc Xf Xl Yc Yf Yl Wfc Wff Wfl Uc Uf Ul F1c F1f F1l Ic If Il F2c F2f F2l
     have ⟨Xc, Xf, Xl⟩ := X
     have ⟨Yc, Yf, Yl⟩ := Y
     have ⟨Wfc, Wff, Wfl⟩ := Wf
     have ⟨Uc, Uf, Ul⟩ := U
     have ⟨F1c, F1f, F1l⟩ := F1
     have ⟨Ic, If, Il⟩ := I
     have ⟨F2c, F2f, F2l⟩ := F2
     clear CP C1 C2 C3
     go_wp2_with fail
     replace H := Hd ((H.out.al (.cells #[.slice oc l3.length kc] 33)).al (.cells #[.int .i64 p3, .int .i64 y3] 27))
     replace K := Hd ((K.out.al (.cells #[.slice oc l3.length kc] 33)).al (.cells #[.int .i64 p3, .int .i64 y3] 27))
     replace RU := Hd ((RU.out.al (.cells #[.slice oc l3.length kc] 33)).al (.cells #[.int .i64 p3, .int .i64 y3] 27))
     replace RI := Hd ((RI.out.al (.cells #[.slice oc l3.length kc] 33)).al (.cells #[.int .i64 p3, .int .i64 y3] 27))
     replace RC := Hd ((RC.out.al (.cells #[.slice oc l3.length kc] 33)).al (.cells #[.int .i64 p3, .int .i64 y3] 27))
     replace X := ((X.alloc (.cells #[.slice oc l3.length kc] 33)).alloc (.cells #[.int .i64 p3, .int .i64 y3] 27))
     replace Y := ((Y.alloc (.cells #[.slice oc l3.length kc] 33)).alloc (.cells #[.int .i64 p3, .int .i64 y3] 27))
     replace Wf := ((Wf.alloc (.cells #[.slice oc l3.length kc] 33)).alloc (.cells #[.int .i64 p3, .int .i64 y3] 27))
     replace U := ((U.alloc (.cells #[.slice oc l3.length kc] 33)).alloc (.cells #[.int .i64 p3, .int .i64 y3] 27))
     replace F1 := ((F1.alloc (.cells #[.slice oc l3.length kc] 33)).alloc (.cells #[.int .i64 p3, .int .i64 y3] 27))
     replace I := ((I.alloc (.cells #[.slice oc l3.length kc] 33)).alloc (.cells #[.int .i64 p3, .int .i64 y3] 27))
     replace F2 := ((F2.alloc (.cells #[.slice oc l3.length kc] 33)).alloc (.cells #[.int .i64 p3, .int .i64 y3] 27))
     have C := ((Bk.new (r := w11.heap.size) (cs := [.slice oc l3.length kc]) w11 33 (by simp)).alloc (.cells #[.int .i64 p3, .int .i64 y3] 27))
     have F3 := (Bk.new (r := w11.heap.size + 1) (cs := [.int .i64 p3, .int .i64 y3]) (w11.alloc (.cells #[.slice oc l3.length kc] 33)) 27 (by simp))
     clear Xc Xf Xl Yc Yf Yl Wfc Wff Wfl Uc Uf Ul F1c F1f F1l Ic If Il F2c F2f F2l
     generalize hW : ((w11.alloc (.cells #[.slice oc l3.length kc] 33)).alloc (.cells #[.int .i64 p3, .int .i64 y3] 27)) = w12 at *
     have B12 : Below w.heap.size w w12 := by rw [← hW]; go_grown
     have q12 : w11.heap.size + 2 ≤ w12.heap.size := by rw [← hW]; go_size
     clear hW
     have s12 := B12.size
     have ⟨Xc, Xf, Xl⟩ := X
     have ⟨Yc, Yf, Yl⟩ := Y
     have ⟨Wfc, Wff, Wfl⟩ := Wf
     have ⟨Uc, Uf, Ul⟩ := U
     have ⟨F1c, F1f, F1l⟩ := F1
     have ⟨Ic, If, Il⟩ := I
     have ⟨F2c, F2f, F2l⟩ := F2
     have ⟨Cc, Cf, Cl⟩ := C
     have ⟨F3c, F3f, F3l⟩ := F3
     refine (CF.out _ H.out).mono ?_
     rintro e w13 ⟨rfl, hb⟩
     have B13 := bcm w hb
     have q13 : w12.heap.size ≤ w13.heap.size := qle hb
     replace H := Hd (H.out.bl hb)
     replace K := Hd (K.out.bl hb)
     replace RU := Hd (RU.out.bl hb)
     replace RI := Hd (RI.out.bl hb)
     replace RC := Hd (RC.out.bl hb)
     replace X := X.bw hb
     replace Y := Y.bw hb
     replace Wf := Wf.bw hb
     replace U := U.bw hb
     replace F1 := F1.bw hb
     replace I := I.bw hb
     replace F2 := F2.bw hb
     replace C := C.bw hb
     replace F3 := F3.bw hb
     clear hb
     have s13 := B13.size
     clear Xc Xf Xl Yc Yf Yl Wfc Wff Wfl Uc Uf Ul F1c F1f F1l Ic If Il F2c F2f F2l Cc Cf Cl F3c F3f F3l
     have ⟨Xc, Xf, Xl⟩ := X
     have ⟨Yc, Yf, Yl⟩ := Y
     have ⟨Wfc, Wff, Wfl⟩ := Wf
     have ⟨Uc, Uf, Ul⟩ := U
     have ⟨F1c, F1f, F1l⟩ := F1
     have ⟨Ic, If, Il⟩ := I
     have ⟨F2c, F2f, F2l⟩ := F2
     have ⟨Cc, Cf, Cl⟩ := C
     have ⟨F3c, F3f, F3l⟩ := F3
     go_wp2_with fail
     replace H := Hd ((H.out.setBk Wf (by simp) (j := 0) rfl (by nofun) (.int .i64 0)).setBk (Wf.st 0 (.int .i64 0)) (by simp) (j := 1) rfl (by nofun) (.int .i64 0))
     replace K := Hd ((K.out.setBk Wf (by simp) (j := 0) rfl (by nofun) (.int .i64 0)).setBk (Wf.st 0 (.int .i64 0)) (by simp) (j := 1) rfl (by nofun) (.int .i64 0))
     replace RU := Hd ((RU.out.setBk Wf (by simp) (j := 0) rfl (by nofun) (.int .i64 0)).setBk (Wf.st 0 (.int .i64 0)) (by simp) (j := 1) rfl (by nofun) (.int .i64 0))
     replace RI := Hd ((RI.out.setBk Wf (by simp) (j := 0) rfl (by nofun) (.int .i64 0)).setBk (Wf.st 0 (.int .i64 0)) (by simp) (j := 1) rfl (by nofun) (.int .i64 0))
     replace RC := Hd ((RC.out.setBk Wf (by simp) (j := 0) rfl (by nofun) (.int .i64 0)).setBk (Wf.st 0 (.int .i64 0)) (by simp) (j := 1) rfl (by nofun) (.int .i64 0))
     replace X := ((X.fr w5.heap.size 0 (by omega) (.int .i64 0)).fr w5.heap.size 1 (by omega) (.int .i64 0))
     replace Y := ((Y.fr w5.heap.size 0 (by omega) (.int .i64 0)).fr w5.heap.size 1 (by omega) (.int .i64 0))
     replace Wf := ((Wf.st 0 (.int .i64 0)).st 1 (.int .i64 0))
     replace U := ((U.fr w5.heap.size 0 (by omega) (.int .i64 0)).fr w5.heap.size 1 (by omega) (.int .i64 0))
     replace F1 := ((F1.fr w5.heap.size 0 (by omega) (.int .i64 0)).fr w5.heap.size 1 (by omega) (.int .i64 0))
     replace I := ((I.fr w5.heap.size 0 (by omega) (.int .i64 0)).fr w5.heap.size 1 (by omega) (.int .i64 0))
     replace F2 := ((F2.fr w5.heap.size 0 (by omega) (.int .i64 0)).fr w5.heap.size 1 (by omega) (.int .i64 0))
     replace C := ((C.fr w5.heap.size 0 (by omega) (.int .i64 0)).fr w5.heap.size 1 (by omega) (.int .i64 0))
     replace F3 := ((F3.fr w5.heap.size 0 (by omega) (.int .i64 0)).fr w5.heap.size 1 (by omega) (.int .i64 0))
     clear Xc Xf Xl Yc Yf Yl Wfc Wff Wfl Uc Uf Ul F1c F1f F1l Ic If Il F2c F2f F2l Cc Cf Cl F3c F3f F3l
     generalize hW : ((w13.setCell ⟨w5.heap.size, 0, none⟩ (.int .i64 0)).setCell ⟨w5.heap.size, 1, none⟩ (.int .i64 0)) = w14 at *
     have B14 : Below w.heap.size w w14 := by rw [← hW]; go_grown
     have q14 : w13.heap.size ≤ w14.heap.size := by rw [← hW]; go_size
     clear hW
     have s14 := B14.size
     have ⟨Xc, Xf, Xl⟩ := X
     have ⟨Yc, Yf, Yl⟩ := Y
     have ⟨Wfc, Wff, Wfl⟩ := Wf
     have ⟨Uc, Uf, Ul⟩ := U
     have ⟨F1c, F1f, F1l⟩ := F1
     have ⟨Ic, If, Il⟩ := I
     have ⟨F2c, F2f, F2l⟩ := F2
     have ⟨Cc, Cf, Cl⟩ := C
     have ⟨F3c, F3f, F3l⟩ := F3
     have HRd := H.out.below (B := w14.heap.size) (w' := w14.drew) (by go_grown) nle
     have KRd := K.out.below (B := w14.heap.size) (w' := w14.drew) (by go_grown) nle
     have Xd := X.drew
     have Yd := Y.drew
     have Wd := Wf.drew
     refine wp_region_freeP [1, 3, 7, 8] [0, 2, 4, 5, 6] [9, 10]
      (fun i => [Hold.eq (.agg #[.slice a r.length c]), Hold.rg x3, Hold.eq (.agg #[.int .i64 0, .int .i64 0]), Hold.rgf l3 p3 y3, Hold.rgf l3 p3 y3, Hold.rg l3, Hold.eq (.agg #[.int .i64 p3, .int .i64 y3]), Hold.bxA w14.drew.heap.size [.slice none 0 0], Hold.bxA w14.drew.heap.size [.int .i64 0, .int .i64 0]].getD i Hold.any) (by kernel_rfl) (by kernel_rfl) ?_ ?_
     · refine ⟨stepOb_ca (by kernel_rfl) (by kernel_rfl) ?_, stepOb_ca (by kernel_rfl) (by kernel_rfl) ?_, stepOb_mk (by kernel_rfl) (by kernel_rfl) ?_, stepOb_mk (by kernel_rfl) (by kernel_rfl) ?_, stepOb_rd (by kernel_rfl) (by kernel_rfl) ?_, stepOb_rd (by kernel_rfl) (by kernel_rfl) ?_, stepOb_rd (by kernel_rfl) (by kernel_rfl) ?_, stepOb_rd (by kernel_rfl) (by kernel_rfl) ?_, stepOb_rd (by kernel_rfl) (by kernel_rfl) ?_, trivial⟩
       all_goals (intro A x wx F hbx hd; replace hbx := Hd hbx)
       · have e0 := F.get (d := 121) 0 rfl rfl (by simp) (hd 0 rfl)
         refine ⟨_, 30, #[.agg #[.slice a r.length c]], rfl, by simp [go_sem, e0.1], ?_⟩
         refine (CR.out _ (HRd.bl hbx.out)).mono ?_
         rintro e w' ⟨o1, k1, rfl, ho, hb'⟩
         exact ⟨_, rfl, hb', o1, k1, rfl, ho⟩
       · obtain ⟨o1, k1, h1, r1⟩ := hd 1 rfl
         have e0 := F.get (d := 122) 1 rfl rfl (by simp) h1
         have e1 := F.get (d := 123) 2 rfl rfl (by simp) (hd 2 rfl)
         refine ⟨_, 25, #[.agg #[.slice o1 x3.length k1], .agg #[.int .i64 0, .int .i64 0]], rfl, by simp [go_sem, e0.1, e1.1], ?_⟩
         refine (CS3.out _ o1 k1 r1).mono ?_
         rintro e w' ⟨o2, k2, rfl, ho, hb'⟩
         exact ⟨_, rfl, hb', o2, k2, rfl, ho⟩
       · exact ⟨_, .pointer (some ⟨wx.heap.size, 0, none⟩), wx.alloc (.cells #[.slice none 0 0] 33), rfl, by simp [go_sem], Below.ext ((Below.refl _ _).alloc nle _), hbx.out.alloc hbx.out.size _, _, rfl, hbx.out.size, BoxA.new (cs := [.slice none 0 0])⟩
       · exact ⟨_, .pointer (some ⟨wx.heap.size, 0, none⟩), wx.alloc (.cells #[.int .i64 0, .int .i64 0] 27), rfl, by simp [go_sem], Below.ext ((Below.refl _ _).alloc nle _), hbx.out.alloc hbx.out.size _, _, rfl, hbx.out.size, BoxA.new (cs := [.int .i64 0, .int .i64 0])⟩
       · have e0 := F.was (d := 2) (v := .pointer (some ⟨w.heap.size, 0, none⟩)) rfl rfl
         have g0 := hbx.out
         refine ⟨_, _, rfl, fun w' hx => ?_, rfl⟩
         have r0 := hx.cell _ _ ((g0.cell (p := ⟨w.heap.size, 0, none⟩) Xd.lt).trans (Xd.c 0))
         simp [go_sem, e0.1, r0]
       · have e0 := F.was (d := 5) (v := .pointer (some ⟨w5.heap.size, 0, none⟩)) rfl rfl
         have g0 := hbx.out
         refine ⟨_, _, rfl, fun w' hx => ?_, rfl⟩
         have r0 := hx.cell _ _ ((g0.cell (p := ⟨w5.heap.size, 0, none⟩) Wd.lt).trans (Wd.c 0))
         have r1 := hx.cell _ _ ((g0.cell (p := ⟨w5.heap.size, 1, none⟩) Wd.lt).trans (Wd.c 1))
         simp [go_sem, e0.1, r0, r1]
       · obtain ⟨o1, k1, h1, r1⟩ := hd 3 rfl
         have e0 := F.get (d := 124) 3 rfl rfl (by simp) h1
         exact ⟨_, _, rfl, fun w' hx => by simp [go_sem, e0.1], o1, k1, rfl, r1⟩
       · obtain ⟨o1, k1, h1, r1⟩ := hd 4 rfl
         have e0 := F.get (d := 120) 4 rfl rfl (by simp) h1
         exact ⟨_, (.agg #[.slice o1 l3.length k1]), rfl, fun w' hx => by simp [go_sem, e0.1], o1, k1, rfl, r1⟩
       · obtain ⟨o1, k1, h1, r1⟩ := hd 4 rfl
         have e0 := F.get (d := 120) 4 rfl rfl (by simp) h1
         exact ⟨_, _, rfl, fun w' hx => by simp [go_sem, e0.1], rfl⟩
     intro x wx hbx hI
     obtain ⟨-, -, ⟨rz, ha1, hr1, T1⟩, ⟨sz, ha2, hr2, T2⟩, -, -, -, ⟨oz, kz, he0, RXz⟩, he1, -⟩ := hI
     have he1 : x 6 = .agg #[.int .i64 p3, .int .i64 y3] := he1
     have hne : rz ≠ sz := T1.ne T2 (by intro h; cases h)
     simp only [actOf, Act.put, List.setIfInBounds_toArray, List.set_cons_succ, List.set_cons_zero, Nat.zero_add, Nat.reduceAdd, ha1, ha2, he0, he1]
     have ⟨T1_a, T1f, T1l, _⟩ := T1
     have T1_0 := T1.c 0
     have T1_g := T1.f 0 (by simp)
     refine wpI_st rfl rfl rfl (w' := wx.setCell ⟨rz, 0, none⟩ (.slice oz l3.length kz)) (by simp [go_sem, T1_0, T1_g]) ?_
     have T3 := T2.far (p := ⟨rz, 0, none⟩) hne (.slice oz l3.length kz)
     have T3_0 := T3.c 0
     have T3_1 := T3.c 1
     have T3_g := T3.f 0 (by simp)
     have T3_h := T3.f 1 (by simp)
     try simp only [Act.put]
     refine wpI_st rfl rfl rfl (w' := ((wx.setCell ⟨rz, 0, none⟩ (.slice oz l3.length kz)).setCell ⟨sz, 0, none⟩ (.int .i64 p3)).setCell ⟨sz, 1, none⟩ (.int .i64 y3)) (by simp [go_sem, T3_0, T3_1, T3_g, T3_h]) ?_
     refine wpI_nil ?_
     try simp only [Act.put]
     have hr : w14.heap.size ≤ rz := hr1
     have hs : w14.heap.size ≤ sz := hr2
     have Taz := ((T1.st 0 (.slice oz l3.length kz)).far (p := ⟨sz, 0, none⟩) (fun e => hne e.symm) (.int .i64 p3)).far (p := ⟨sz, 1, none⟩) (fun e => hne e.symm) (.int .i64 y3)
     have Tbz := (T3.st 0 (.int .i64 p3)).st 1 (.int .i64 y3)
     have RYz := Hd (((RXz.setA T1 (by simp) (j := 0) rfl (by nofun) (.slice oz l3.length kz)).setA T3 (by simp) (j := 0) rfl (by nofun) (.int .i64 p3)).setA (T3.st 0 (.int .i64 p3)) (by simp) (j := 1) rfl (by nofun) (.int .i64 y3))
     have hbk : Below w14.heap.size w14 (((wx.setCell ⟨rz, 0, none⟩ (.slice oz l3.length kz)).setCell ⟨sz, 0, none⟩ (.int .i64 p3)).setCell ⟨sz, 1, none⟩ (.int .i64 y3)) := (((bcall (B := w14.heap.size) (by go_grown) hbx nle).setCell (p := ⟨rz, 0, none⟩) hr _).setCell (p := ⟨sz, 0, none⟩) hs _).setCell (p := ⟨sz, 1, none⟩) hs _
     clear T1 T2 T3 T1_a T1f T1l T1_0 T1_g T3_0 T3_1 T3_g T3_h RXz ha1 ha2 he0 he1 hr1 hr2 hbx HRd KRd Xd Yd Wd
     generalize ((wx.setCell ⟨rz, 0, none⟩ (.slice oz l3.length kz)).setCell ⟨sz, 0, none⟩ (.int .i64 p3)).setCell ⟨sz, 1, none⟩ (.int .i64 y3) = wyz at *
     clear Xc Xf Xl Yc Yf Yl Wfc Wff Wfl Uc Uf Ul F1c F1f F1l Ic If Il F2c F2f F2l Cc Cf Cl F3c F3f F3l
     have B15 : Below w.heap.size w wyz := bcall B14 hbk B14.size
     have q15 : w14.heap.size ≤ wyz.heap.size := hbk.size
     replace H := Hd (H.out.bl hbk)
     replace K := Hd (K.out.bl hbk)
     replace RU := Hd (RU.out.bl hbk)
     replace RI := Hd (RI.out.bl hbk)
     replace RC := Hd (RC.out.bl hbk)
     replace X := X.below hbk X.lt
     replace Y := Y.below hbk Y.lt
     replace Wf := Wf.below hbk Wf.lt
     replace U := U.below hbk U.lt
     replace F1 := F1.below hbk F1.lt
     replace I := I.below hbk I.lt
     replace F2 := F2.below hbk F2.lt
     replace C := C.below hbk C.lt
     replace F3 := F3.below hbk F3.lt
     clear hbk
     generalize wyz = w15 at *
     have s15 := B15.size
     have ⟨Xc, Xf, Xl⟩ := X
     have ⟨Yc, Yf, Yl⟩ := Y
     have ⟨Wfc, Wff, Wfl⟩ := Wf
     have ⟨Uc, Uf, Ul⟩ := U
     have ⟨F1c, F1f, F1l⟩ := F1
     have ⟨Ic, If, Il⟩ := I
     have ⟨F2c, F2f, F2l⟩ := F2
     have ⟨Cc, Cf, Cl⟩ := C
     have ⟨F3c, F3f, F3l⟩ := F3
     have Ta_0 := Taz.c 0
     have Tb_0 := Tbz.c 0
     have Tb_1 := Tbz.c 1
     have Tal := Taz.lt
     have Tbl := Tbz.lt
     go_wp2_with fail
     refine (same_self l3 _ _ _ _ _ RC.out RYz.out).mono ?_
     rintro e w16 ⟨rfl, hb⟩
     have B16 := bcm w hb
     have q16 : w15.heap.size ≤ w16.heap.size := qle hb
     replace H := Hd (H.out.bl hb)
     replace K := Hd (K.out.bl hb)
     replace RU := Hd (RU.out.bl hb)
     replace RI := Hd (RI.out.bl hb)
     replace RC := Hd (RC.out.bl hb)
     replace RYz := Hd (RYz.out.bl hb)
     replace X := X.bw hb
     replace Y := Y.bw hb
     replace Wf := Wf.bw hb
     replace U := U.bw hb
     replace F1 := F1.bw hb
     replace I := I.bw hb
     replace F2 := F2.bw hb
     replace C := C.bw hb
     replace F3 := F3.bw hb
     clear hb
     have s16 := B16.size
     clear Xc Xf Xl Yc Yf Yl Wfc Wff Wfl Uc Uf Ul F1c F1f F1l Ic If Il F2c F2f F2l Cc Cf Cl F3c F3f F3l
     have ⟨Xc, Xf, Xl⟩ := X
     have ⟨Yc, Yf, Yl⟩ := Y
     have ⟨Wfc, Wff, Wfl⟩ := Wf
     have ⟨Uc, Uf, Ul⟩ := U
     have ⟨F1c, F1f, F1l⟩ := F1
     have ⟨Ic, If, Il⟩ := I
     have ⟨F2c, F2f, F2l⟩ := F2
     have ⟨Cc, Cf, Cl⟩ := C
     have ⟨F3c, F3f, F3l⟩ := F3
     clear Ta_0 Tb_0 Tb_1 Tal Tbl
     go_wp2_with fail
     go_ret
     exact ⟨by first | rfl | simp, by go_grown⟩
set_option maxRecDepth 100000 in
set_option maxHeartbeats 16000000 in
theorem vom_c (r t : List Pl.Ivl) (a b : Option Addr) (c d : Nat) (w : World) (h1 : RIn w r a c) (h2 : RIn w t b d) (EN : Env w) (er : Pl.rngF r = (0, 0)) (et : Pl.rngF t = (0, 0)) : Calls Tryz.prog 4 #[.agg #[.slice a r.length c], .agg #[.slice b t.length d]] w fun e w' => e = .returned (.bool true) ∧ Below w.heap.size w w' := by
 have HE := Hd EN
 have H := Hd h1
 have K := Hd h2
 have ep : Pl.pairF r t = (0, 0) := by exact Pl.pairF_ok (by rw [er]) (by rw [et])
 have CP := Hd (fun (W : World) (g1 : RIn W r a c) (g2 : RIn W t b d) => PairFault_any r t a b c d W g1 g2)
 have C1 := Hd (fun (W : World) (g1 : RIn W r a c) (g2 : RIn W t b d) => union_any r t a b c d W g1 g2)
 have C2 := Hd (fun (W : World) (g1 : RIn W r a c) (g2 : RIn W t b d) => inter_any r t a b c d W g1 g2)
 have C3 := Hd (fun (W : World) (g1 : RIn W r a c) => compl_any r a c W g1)
 have CF := Hd (fun (W : World) (g1 : RIn W r a c) => RangeFault_any r a c W g1)
 rw [ep] at CP C1 C2
 rw [er] at C3 CF
 rw [Pl.op_ok.1, Pl.op_ok.2] at C3
 have kr := Pl.rng_ok (r := r) (by rw [er])
 have CR := Hd (fun (W : World) (g1 : RIn W r a c) => RangeRest_any r a c W g1 kr.2 (by omega))
 generalize hX3 : Pl.invR r = x3 at *
 have CS3 := Hd (fun (W : World) (o1 : Option Addr) (k1 : Nat) (g1 : RIn W x3 o1 k1) => small_any x3 o1 k1 W g1)
 generalize Pl.limR x3 = l3 at *
 generalize Pl.limF x3 = G3 at *
 obtain ⟨p3, y3⟩ := G3
 delta RRngF at CS3
 delta RRng at CR
 rw [Pl.op_ok.1, Pl.op_ok.2] at C1 C2
 have kt := Pl.rng_ok (r := t) (by rw [et])
 have CU := Hd (fun (W : World) (g1 : RIn W r a c) (g2 : RIn W t b d) => RangeUnion_any r t a b c d W g1 g2 kr.2 kt.2.ok (by omega))
 have CM := Hd (fun (W : World) (g1 : RIn W r a c) (g2 : RIn W t b d) => RangeCommon_any r t a b c d W g1 g2 kr.2.ok kt.2.ok (by have := Nat.mul_le_mul kr.1 kt.1; omega))
 generalize Pl.unionR r t = x1 at *
 generalize Pl.commonR r t = x2 at *
 have CS1 := Hd (fun (W : World) (o1 : Option Addr) (k1 : Nat) (g1 : RIn W x1 o1 k1) => small_any x1 o1 k1 W g1)
 have CS2 := Hd (fun (W : World) (o1 : Option Addr) (k1 : Nat) (g1 : RIn W x2 o1 k1) => small_any x2 o1 k1 W g1)
 generalize Pl.limR x1 = l1 at *
 generalize Pl.limF x1 = G1 at *
 generalize Pl.limR x2 = l2 at *
 generalize Pl.limF x2 = G2 at *
 obtain ⟨p1, y1⟩ := G1
 obtain ⟨p2, y2⟩ := G2
 delta RRngF at CS1 CS2
 delta RRng at CU CM
 delta RRngF at C1 C2 C3
 simp only [fltV] at CP C1 C2 C3 CF CS1 CS2 CS3
 clear h1 h2 EN er ep et kr kt hX3
 go_enter Tryz.func4, Tryz.ntmps4
 have B0 := brl w
 go_wp2_with fail
 replace H := Hd ((H.out.al (.cells #[.slice a r.length c] 33)).al (.cells #[.slice b t.length d] 33))
 replace K := Hd ((K.out.al (.cells #[.slice a r.length c] 33)).al (.cells #[.slice b t.length d] 33))
 have X := ((Bk.new (r := w.heap.size) (cs := [.slice a r.length c]) w 33 (by simp)).alloc (.cells #[.slice b t.length d] 33))
 have Y := (Bk.new (r := w.heap.size + 1) (cs := [.slice b t.length d]) (w.alloc (.cells #[.slice a r.length c] 33)) 33 (by simp))
 generalize hW : ((w.alloc (.cells #[.slice a r.length c] 33)).alloc (.cells #[.slice b t.length d] 33)) = w1 at *
 have B1 : Below w.heap.size w w1 := by rw [← hW]; go_grown
 have q1 : w.heap.size + 2 ≤ w1.heap.size := by rw [← hW]; go_size
 clear hW
 have s1 := B1.size
 have ⟨Xc, Xf, Xl⟩ := X
 have ⟨Yc, Yf, Yl⟩ := Y
 refine (ranges_any _ (HE.out.bl B1)).mono ?_
 rintro e w2 ⟨rfl, hb⟩
 have B2 := bcm w hb
 have q2 : w1.heap.size ≤ w2.heap.size := qle hb
 replace H := Hd (H.out.bl hb)
 replace K := Hd (K.out.bl hb)
 replace X := X.bw hb
 replace Y := Y.bw hb
 clear hb
 have s2 := B2.size
 clear Xc Xf Xl Yc Yf Yl
 have ⟨Xc, Xf, Xl⟩ := X
 have ⟨Yc, Yf, Yl⟩ := Y
 go_wp2_with fail
 refine (great_any r a c _ H.out).mono ?_
 rintro e w3 ⟨⟨gq1, rfl⟩, hb⟩
 have B3 := bcm w hb
 have q3 : w2.heap.size ≤ w3.heap.size := qle hb
 replace H := Hd (H.out.bl hb)
 replace K := Hd (K.out.bl hb)
 replace X := X.bw hb
 replace Y := Y.bw hb
 clear hb
 have s3 := B3.size
 clear Xc Xf Xl Yc Yf Yl
 have ⟨Xc, Xf, Xl⟩ := X
 have ⟨Yc, Yf, Yl⟩ := Y
 cases gq1 with
 | true =>
   go_wp2_with fail
   go_ret
   exact ⟨by first | rfl | simp, by go_grown⟩
 | false =>
   go_wp2_with fail
   refine (great_any t b d _ K.out).mono ?_
   rintro e w4 ⟨⟨gq2, rfl⟩, hb⟩
   have B4 := bcm w hb
   have q4 : w3.heap.size ≤ w4.heap.size := qle hb
   replace H := Hd (H.out.bl hb)
   replace K := Hd (K.out.bl hb)
   replace X := X.bw hb
   replace Y := Y.bw hb
   clear hb
   have s4 := B4.size
   clear Xc Xf Xl Yc Yf Yl
   have ⟨Xc, Xf, Xl⟩ := X
   have ⟨Yc, Yf, Yl⟩ := Y
   cases gq2 with
   | true =>
     go_wp2_with fail
     go_ret
     exact ⟨by first | rfl | simp, by go_grown⟩
   | false =>
     go_wp2_with fail
     refine (CP.out _ H.out K.out).mono ?_
     rintro e w5 ⟨rfl, hb⟩
     have B5 := bcm w hb
     have q5 : w4.heap.size ≤ w5.heap.size := qle hb
     replace H := Hd (H.out.bl hb)
     replace K := Hd (K.out.bl hb)
     replace X := X.bw hb
     replace Y := Y.bw hb
     clear hb
     have s5 := B5.size
     clear Xc Xf Xl Yc Yf Yl
     have ⟨Xc, Xf, Xl⟩ := X
     have ⟨Yc, Yf, Yl⟩ := Y
     go_wp2_with fail
     have B6 : Below w.heap.size w (w5.alloc (.cells #[.int .i64 0, .int .i64 0] 27)) := by go_grown
     have q6 : w5.heap.size + 1 ≤ (w5.alloc (.cells #[.int .i64 0, .int .i64 0] 27)).heap.size := by simp only [World.size_alloc]; omega
     replace H := Hd (H.out.al (.cells #[.int .i64 0, .int .i64 0] 27))
     replace K := Hd (K.out.al (.cells #[.int .i64 0, .int .i64 0] 27))
     replace X := (X.alloc (.cells #[.int .i64 0, .int .i64 0] 27))
     replace Y := (Y.alloc (.cells #[.int .i64 0, .int .i64 0] 27))
     have Wf := (Bk.new (r := w5.heap.size) (cs := [.int .i64 0, .int .i64 0]) w5 27 (by simp))
     clear Xc Xf Xl Yc Yf Yl
     generalize (w5.alloc (.cells #[.int .i64 0, .int .i64 0] 27)) = w6 at *
     have s6 := B6.size
     have ⟨Xc, Xf, Xl⟩ := X
     have ⟨Yc, Yf, Yl⟩ := Y
     have ⟨Wfc, Wff, Wfl⟩ := Wf
     refine (C1.out _ H.out K.out).mono ?_
     rintro e w7 ⟨ou, ku, rfl, RU, hb⟩
     replace RU := Hd RU
     have B7 := bcm w hb
     have q7 : w6.heap.size ≤ w7.heap.size := qle hb
     replace H := Hd (H.out.bl hb)
     replace K := Hd (K.out.bl hb)
     replace X := X.bw hb
     replace Y := Y.bw hb
     replace Wf := Wf.bw hb
     clear hb
     have s7 := B7.size
     clear Xc Xf Xl Yc Yf Yl Wfc Wff Wfl
     have ⟨Xc, Xf, Xl⟩ := X
     have ⟨Yc, Yf, Yl⟩ := Y
     have ⟨Wfc, Wff, Wfl⟩ := Wf
     go_wp2_with fail
     replace H := Hd ((H.out.al (.cells #[.slice ou l1.length ku] 33)).al (.cells #[.int .i64 p1, .int .i64 y1] 27))
     replace K := Hd ((K.out.al (.cells #[.slice ou l1.length ku] 33)).al (.cells #[.int .i64 p1, .int .i64 y1] 27))
     replace RU := Hd ((RU.out.al (.cells #[.slice ou l1.length ku] 33)).al (.cells #[.int .i64 p1, .int .i64 y1] 27))
     replace X := ((X.alloc (.cells #[.slice ou l1.length ku] 33)).alloc (.cells #[.int .i64 p1, .int .i64 y1] 27))
     replace Y := ((Y.alloc (.cells #[.slice ou l1.length ku] 33)).alloc (.cells #[.int .i64 p1, .int .i64 y1] 27))
     replace Wf := ((Wf.alloc (.cells #[.slice ou l1.length ku] 33)).alloc (.cells #[.int .i64 p1, .int .i64 y1] 27))
     have U := ((Bk.new (r := w7.heap.size) (cs := [.slice ou l1.length ku]) w7 33 (by simp)).alloc (.cells #[.int .i64 p1, .int .i64 y1] 27))
     have F1 := (Bk.new (r := w7.heap.size + 1) (cs := [.int .i64 p1, .int .i64 y1]) (w7.alloc (.cells #[.slice ou l1.length ku] 33)) 27 (by simp))
     clear Xc Xf Xl Yc Yf Yl Wfc Wff Wfl
     generalize hW : ((w7.alloc (.cells #[.slice ou l1.length ku] 33)).alloc (.cells #[.int .i64 p1, .int .i64 y1] 27)) = w8 at *
     have B8 : Below w.heap.size w w8 := by rw [← hW]; go_grown
     have q8 : w7.heap.size + 2 ≤ w8.heap.size := by rw [← hW]; go_size
     clear hW
     have s8 := B8.size
     have ⟨Xc, Xf, Xl⟩ := X
     have ⟨Yc, Yf, Yl⟩ := Y
     have ⟨Wfc, Wff, Wfl⟩ := Wf
     have ⟨Uc, Uf, Ul⟩ := U
     have ⟨F1c, F1f, F1l⟩ := F1
     refine (C2.out _ H.out K.out).mono ?_
     rintro e w9 ⟨oi, ki, rfl, RI, hb⟩
     replace RI := Hd RI
     have B9 := bcm w hb
     have q9 : w8.heap.size ≤ w9.heap.size := qle hb
     replace H := Hd (H.out.bl hb)
     replace K := Hd (K.out.bl hb)
     replace RU := Hd (RU.out.bl hb)
     replace X := X.bw hb
     replace Y := Y.bw hb
     replace Wf := Wf.bw hb
     replace U := U.bw hb
     replace F1 := F1.bw hb
     clear hb
     have s9 := B9.size
     clear Xc Xf Xl Yc Yf Yl Wfc Wff Wfl Uc Uf Ul F1c F1f F1l
     have ⟨Xc, Xf, Xl⟩ := X
     have ⟨Yc, Yf, Yl⟩ := Y
     have ⟨Wfc, Wff, Wfl⟩ := Wf
     have ⟨Uc, Uf, Ul⟩ := U
     have ⟨F1c, F1f, F1l⟩ := F1
     go_wp2_with fail
     replace H := Hd ((H.out.al (.cells #[.slice oi l2.length ki] 33)).al (.cells #[.int .i64 p2, .int .i64 y2] 27))
     replace K := Hd ((K.out.al (.cells #[.slice oi l2.length ki] 33)).al (.cells #[.int .i64 p2, .int .i64 y2] 27))
     replace RU := Hd ((RU.out.al (.cells #[.slice oi l2.length ki] 33)).al (.cells #[.int .i64 p2, .int .i64 y2] 27))
     replace RI := Hd ((RI.out.al (.cells #[.slice oi l2.length ki] 33)).al (.cells #[.int .i64 p2, .int .i64 y2] 27))
     replace X := ((X.alloc (.cells #[.slice oi l2.length ki] 33)).alloc (.cells #[.int .i64 p2, .int .i64 y2] 27))
     replace Y := ((Y.alloc (.cells #[.slice oi l2.length ki] 33)).alloc (.cells #[.int .i64 p2, .int .i64 y2] 27))
     replace Wf := ((Wf.alloc (.cells #[.slice oi l2.length ki] 33)).alloc (.cells #[.int .i64 p2, .int .i64 y2] 27))
     replace U := ((U.alloc (.cells #[.slice oi l2.length ki] 33)).alloc (.cells #[.int .i64 p2, .int .i64 y2] 27))
     replace F1 := ((F1.alloc (.cells #[.slice oi l2.length ki] 33)).alloc (.cells #[.int .i64 p2, .int .i64 y2] 27))
     have I := ((Bk.new (r := w9.heap.size) (cs := [.slice oi l2.length ki]) w9 33 (by simp)).alloc (.cells #[.int .i64 p2, .int .i64 y2] 27))
     have F2 := (Bk.new (r := w9.heap.size + 1) (cs := [.int .i64 p2, .int .i64 y2]) (w9.alloc (.cells #[.slice oi l2.length ki] 33)) 27 (by simp))
     clear Xc Xf Xl Yc Yf Yl Wfc Wff Wfl Uc Uf Ul F1c F1f F1l
     generalize hW : ((w9.alloc (.cells #[.slice oi l2.length ki] 33)).alloc (.cells #[.int .i64 p2, .int .i64 y2] 27)) = w10 at *
     have B10 : Below w.heap.size w w10 := by rw [← hW]; go_grown
     have q10 : w9.heap.size + 2 ≤ w10.heap.size := by rw [← hW]; go_size
     clear hW
     have s10 := B10.size
     have ⟨Xc, Xf, Xl⟩ := X
     have ⟨Yc, Yf, Yl⟩ := Y
     have ⟨Wfc, Wff, Wfl⟩ := Wf
     have ⟨Uc, Uf, Ul⟩ := U
     have ⟨F1c, F1f, F1l⟩ := F1
     have ⟨Ic, If, Il⟩ := I
     have ⟨F2c, F2f, F2l⟩ := F2
     refine (C3.out _ H.out).mono ?_
     rintro e w11 ⟨oc, kc, rfl, RC, hb⟩
     replace RC := Hd RC
     have B11 := bcm w hb
     have q11 : w10.heap.size ≤ w11.heap.size := qle hb
     replace H := Hd (H.out.bl hb)
     replace K := Hd (K.out.bl hb)
     replace RU := Hd (RU.out.bl hb)
     replace RI := Hd (RI.out.bl hb)
     replace X := X.bw hb
     replace Y := Y.bw hb
     replace Wf := Wf.bw hb
     replace U := U.bw hb
     replace F1 := F1.bw hb
     replace I := I.bw hb
     replace F2 := F2.bw hb
     clear hb
     have s11 := B11.size
     clear Xc Xf Xl Yc Yf Yl Wfc Wff Wfl Uc Uf Ul F1c F1f F1l Ic If Il F2c F2f F2l
     have ⟨Xc, Xf, Xl⟩ := X
     have ⟨Yc, Yf, Yl⟩ := Y
     have ⟨Wfc, Wff, Wfl⟩ := Wf
     have ⟨Uc, Uf, Ul⟩ := U
     have ⟨F1c, F1f, F1l⟩ := F1
     have ⟨Ic, If, Il⟩ := I
     have ⟨F2c, F2f, F2l⟩ := F2
     clear CP C1 C2 C3
     go_wp2_with fail
     replace H := Hd ((H.out.al (.cells #[.slice oc l3.length kc] 33)).al (.cells #[.int .i64 p3, .int .i64 y3] 27))
     replace K := Hd ((K.out.al (.cells #[.slice oc l3.length kc] 33)).al (.cells #[.int .i64 p3, .int .i64 y3] 27))
     replace RU := Hd ((RU.out.al (.cells #[.slice oc l3.length kc] 33)).al (.cells #[.int .i64 p3, .int .i64 y3] 27))
     replace RI := Hd ((RI.out.al (.cells #[.slice oc l3.length kc] 33)).al (.cells #[.int .i64 p3, .int .i64 y3] 27))
     replace RC := Hd ((RC.out.al (.cells #[.slice oc l3.length kc] 33)).al (.cells #[.int .i64 p3, .int .i64 y3] 27))
     replace X := ((X.alloc (.cells #[.slice oc l3.length kc] 33)).alloc (.cells #[.int .i64 p3, .int .i64 y3] 27))
     replace Y := ((Y.alloc (.cells #[.slice oc l3.length kc] 33)).alloc (.cells #[.int .i64 p3, .int .i64 y3] 27))
     replace Wf := ((Wf.alloc (.cells #[.slice oc l3.length kc] 33)).alloc (.cells #[.int .i64 p3, .int .i64 y3] 27))
     replace U := ((U.alloc (.cells #[.slice oc l3.length kc] 33)).alloc (.cells #[.int .i64 p3, .int .i64 y3] 27))
     replace F1 := ((F1.alloc (.cells #[.slice oc l3.length kc] 33)).alloc (.cells #[.int .i64 p3, .int .i64 y3] 27))
     replace I := ((I.alloc (.cells #[.slice oc l3.length kc] 33)).alloc (.cells #[.int .i64 p3, .int .i64 y3] 27))
     replace F2 := ((F2.alloc (.cells #[.slice oc l3.length kc] 33)).alloc (.cells #[.int .i64 p3, .int .i64 y3] 27))
     have C := ((Bk.new (r := w11.heap.size) (cs := [.slice oc l3.length kc]) w11 33 (by simp)).alloc (.cells #[.int .i64 p3, .int .i64 y3] 27))
     have F3 := (Bk.new (r := w11.heap.size + 1) (cs := [.int .i64 p3, .int .i64 y3]) (w11.alloc (.cells #[.slice oc l3.length kc] 33)) 27 (by simp))
     clear Xc Xf Xl Yc Yf Yl Wfc Wff Wfl Uc Uf Ul F1c F1f F1l Ic If Il F2c F2f F2l
     generalize hW : ((w11.alloc (.cells #[.slice oc l3.length kc] 33)).alloc (.cells #[.int .i64 p3, .int .i64 y3] 27)) = w12 at *
     have B12 : Below w.heap.size w w12 := by rw [← hW]; go_grown
     have q12 : w11.heap.size + 2 ≤ w12.heap.size := by rw [← hW]; go_size
     clear hW
     have s12 := B12.size
     have ⟨Xc, Xf, Xl⟩ := X
     have ⟨Yc, Yf, Yl⟩ := Y
     have ⟨Wfc, Wff, Wfl⟩ := Wf
     have ⟨Uc, Uf, Ul⟩ := U
     have ⟨F1c, F1f, F1l⟩ := F1
     have ⟨Ic, If, Il⟩ := I
     have ⟨F2c, F2f, F2l⟩ := F2
     have ⟨Cc, Cf, Cl⟩ := C
     have ⟨F3c, F3f, F3l⟩ := F3
     have HRd := H.out.below (B := w12.heap.size) (w' := w12.drew) (by go_grown) nle
     have KRd := K.out.below (B := w12.heap.size) (w' := w12.drew) (by go_grown) nle
     have Xd := X.drew
     have Yd := Y.drew
     have Wd := Wf.drew
     refine wp_region_freeP [2, 4, 8, 9] [0, 1, 3, 5, 6, 7] [10, 11]
      (fun i => [Hold.eq (.agg #[.slice a r.length c]), Hold.eq (.agg #[.slice b t.length d]), Hold.rg x1, Hold.eq (.agg #[.int .i64 0, .int .i64 0]), Hold.rgf l1 p1 y1, Hold.rgf l1 p1 y1, Hold.rg l1, Hold.eq (.agg #[.int .i64 p1, .int .i64 y1]), Hold.bxA w12.drew.heap.size [.slice none 0 0], Hold.bxA w12.drew.heap.size [.int .i64 0, .int .i64 0]].getD i Hold.any) (by kernel_rfl) (by kernel_rfl) ?_ ?_
     · refine ⟨stepOb_ca (by kernel_rfl) (by kernel_rfl) ?_, stepOb_ca (by kernel_rfl) (by kernel_rfl) ?_, stepOb_mk (by kernel_rfl) (by kernel_rfl) ?_, stepOb_mk (by kernel_rfl) (by kernel_rfl) ?_, stepOb_rd (by kernel_rfl) (by kernel_rfl) ?_, stepOb_rd (by kernel_rfl) (by kernel_rfl) ?_, stepOb_rd (by kernel_rfl) (by kernel_rfl) ?_, stepOb_rd (by kernel_rfl) (by kernel_rfl) ?_, stepOb_rd (by kernel_rfl) (by kernel_rfl) ?_, stepOb_rd (by kernel_rfl) (by kernel_rfl) ?_, trivial⟩
       all_goals (intro A x wx F hbx hd; replace hbx := Hd hbx)
       · have e0 := F.get (d := 73) 0 rfl rfl (by simp) (hd 0 rfl)
         have e1 := F.get (d := 74) 1 rfl rfl (by simp) (hd 1 rfl)
         refine ⟨_, 26, #[.agg #[.slice a r.length c], .agg #[.slice b t.length d]], rfl, by simp [go_sem, e0.1, e1.1], ?_⟩
         refine (CU.out _ (HRd.bl hbx.out) (KRd.bl hbx.out)).mono ?_
         rintro e w' ⟨o1, k1, rfl, ho, hb'⟩
         exact ⟨_, rfl, hb', o1, k1, rfl, ho⟩
       · obtain ⟨o1, k1, h1, r1⟩ := hd 2 rfl
         have e0 := F.get (d := 75) 2 rfl rfl (by simp) h1
         have e1 := F.get (d := 76) 3 rfl rfl (by simp) (hd 3 rfl)
         refine ⟨_, 25, #[.agg #[.slice o1 x1.length k1], .agg #[.int .i64 0, .int .i64 0]], rfl, by simp [go_sem, e0.1, e1.1], ?_⟩
         refine (CS1.out _ o1 k1 r1).mono ?_
         rintro e w' ⟨o2, k2, rfl, ho, hb'⟩
         exact ⟨_, rfl, hb', o2, k2, rfl, ho⟩
       · exact ⟨_, .pointer (some ⟨wx.heap.size, 0, none⟩), wx.alloc (.cells #[.slice none 0 0] 33), rfl, by simp [go_sem], Below.ext ((Below.refl _ _).alloc nle _), hbx.out.alloc hbx.out.size _, _, rfl, hbx.out.size, BoxA.new (cs := [.slice none 0 0])⟩
       · exact ⟨_, .pointer (some ⟨wx.heap.size, 0, none⟩), wx.alloc (.cells #[.int .i64 0, .int .i64 0] 27), rfl, by simp [go_sem], Below.ext ((Below.refl _ _).alloc nle _), hbx.out.alloc hbx.out.size _, _, rfl, hbx.out.size, BoxA.new (cs := [.int .i64 0, .int .i64 0])⟩
       · have e0 := F.was (d := 2) (v := .pointer (some ⟨w.heap.size, 0, none⟩)) rfl rfl
         have g0 := hbx.out
         refine ⟨_, _, rfl, fun w' hx => ?_, rfl⟩
         have r0 := hx.cell _ _ ((g0.cell (p := ⟨w.heap.size, 0, none⟩) Xd.lt).trans (Xd.c 0))
         simp [go_sem, e0.1, r0]
       · have e0 := F.was (d := 3) (v := .pointer (some ⟨w.heap.size + 1, 0, none⟩)) rfl rfl
         have g0 := hbx.out
         refine ⟨_, _, rfl, fun w' hx => ?_, rfl⟩
         have r0 := hx.cell _ _ ((g0.cell (p := ⟨w.heap.size + 1, 0, none⟩) Yd.lt).trans (Yd.c 0))
         simp [go_sem, e0.1, r0]
       · have e0 := F.was (d := 5) (v := .pointer (some ⟨w5.heap.size, 0, none⟩)) rfl rfl
         have g0 := hbx.out
         refine ⟨_, _, rfl, fun w' hx => ?_, rfl⟩
         have r0 := hx.cell _ _ ((g0.cell (p := ⟨w5.heap.size, 0, none⟩) Wd.lt).trans (Wd.c 0))
         have r1 := hx.cell _ _ ((g0.cell (p := ⟨w5.heap.size, 1, none⟩) Wd.lt).trans (Wd.c 1))
         simp [go_sem, e0.1, r0, r1]
       · obtain ⟨o1, k1, h1, r1⟩ := hd 4 rfl
         have e0 := F.get (d := 77) 4 rfl rfl (by simp) h1
         exact ⟨_, _, rfl, fun w' hx => by simp [go_sem, e0.1], o1, k1, rfl, r1⟩
       · obtain ⟨o1, k1, h1, r1⟩ := hd 5 rfl
         have e0 := F.get (d := 72) 5 rfl rfl (by simp) h1
         exact ⟨_, (.agg #[.slice o1 l1.length k1]), rfl, fun w' hx => by simp [go_sem, e0.1], o1, k1, rfl, r1⟩
       · obtain ⟨o1, k1, h1, r1⟩ := hd 5 rfl
         have e0 := F.get (d := 72) 5 rfl rfl (by simp) h1
         exact ⟨_, _, rfl, fun w' hx => by simp [go_sem, e0.1], rfl⟩
     intro x wx hbx hI
     obtain ⟨-, -, ⟨rx, ha1, hr1, T1⟩, ⟨sx, ha2, hr2, T2⟩, -, -, -, -, ⟨ox, kx, he0, RXx⟩, he1, -⟩ := hI
     have he1 : x 7 = .agg #[.int .i64 p1, .int .i64 y1] := he1
     have hne : rx ≠ sx := T1.ne T2 (by intro h; cases h)
     simp only [actOf, Act.put, List.setIfInBounds_toArray, List.set_cons_succ, List.set_cons_zero, Nat.zero_add, Nat.reduceAdd, ha1, ha2, he0, he1]
     have ⟨T1_a, T1f, T1l, _⟩ := T1
     have T1_0 := T1.c 0
     have T1_g := T1.f 0 (by simp)
     refine wpI_st rfl rfl rfl (w' := wx.setCell ⟨rx, 0, none⟩ (.slice ox l1.length kx)) (by simp [go_sem, T1_0, T1_g]) ?_
     have T3 := T2.far (p := ⟨rx, 0, none⟩) hne (.slice ox l1.length kx)
     have T3_0 := T3.c 0
     have T3_1 := T3.c 1
     have T3_g := T3.f 0 (by simp)
     have T3_h := T3.f 1 (by simp)
     try simp only [Act.put]
     refine wpI_st rfl rfl rfl (w' := ((wx.setCell ⟨rx, 0, none⟩ (.slice ox l1.length kx)).setCell ⟨sx, 0, none⟩ (.int .i64 p1)).setCell ⟨sx, 1, none⟩ (.int .i64 y1)) (by simp [go_sem, T3_0, T3_1, T3_g, T3_h]) ?_
     refine wpI_nil ?_
     try simp only [Act.put]
     have hr : w12.heap.size ≤ rx := hr1
     have hs : w12.heap.size ≤ sx := hr2
     have Tax := ((T1.st 0 (.slice ox l1.length kx)).far (p := ⟨sx, 0, none⟩) (fun e => hne e.symm) (.int .i64 p1)).far (p := ⟨sx, 1, none⟩) (fun e => hne e.symm) (.int .i64 y1)
     have Tbx := (T3.st 0 (.int .i64 p1)).st 1 (.int .i64 y1)
     have RYx := Hd (((RXx.setA T1 (by simp) (j := 0) rfl (by nofun) (.slice ox l1.length kx)).setA T3 (by simp) (j := 0) rfl (by nofun) (.int .i64 p1)).setA (T3.st 0 (.int .i64 p1)) (by simp) (j := 1) rfl (by nofun) (.int .i64 y1))
     have hbk : Below w12.heap.size w12 (((wx.setCell ⟨rx, 0, none⟩ (.slice ox l1.length kx)).setCell ⟨sx, 0, none⟩ (.int .i64 p1)).setCell ⟨sx, 1, none⟩ (.int .i64 y1)) := (((bcall (B := w12.heap.size) (by go_grown) hbx nle).setCell (p := ⟨rx, 0, none⟩) hr _).setCell (p := ⟨sx, 0, none⟩) hs _).setCell (p := ⟨sx, 1, none⟩) hs _
     clear T1 T2 T3 T1_a T1f T1l T1_0 T1_g T3_0 T3_1 T3_g T3_h RXx ha1 ha2 he0 he1 hr1 hr2 hbx HRd KRd Xd Yd Wd
     generalize ((wx.setCell ⟨rx, 0, none⟩ (.slice ox l1.length kx)).setCell ⟨sx, 0, none⟩ (.int .i64 p1)).setCell ⟨sx, 1, none⟩ (.int .i64 y1) = wyx at *
     clear Xc Xf Xl Yc Yf Yl Wfc Wff Wfl Uc Uf Ul F1c F1f F1l Ic If Il F2c F2f F2l Cc Cf Cl F3c F3f F3l
     have B13 : Below w.heap.size w wyx := bcall B12 hbk B12.size
     have q13 : w12.heap.size ≤ wyx.heap.size := hbk.size
     replace H := Hd (H.out.bl hbk)
     replace K := Hd (K.out.bl hbk)
     replace RU := Hd (RU.out.bl hbk)
     replace RI := Hd (RI.out.bl hbk)
     replace RC := Hd (RC.out.bl hbk)
     replace X := X.below hbk X.lt
     replace Y := Y.below hbk Y.lt
     replace Wf := Wf.below hbk Wf.lt
     replace U := U.below hbk U.lt
     replace F1 := F1.below hbk F1.lt
     replace I := I.below hbk I.lt
     replace F2 := F2.below hbk F2.lt
     replace C := C.below hbk C.lt
     replace F3 := F3.below hbk F3.lt
     clear hbk
     generalize wyx = w13 at *
     have s13 := B13.size
     have ⟨Xc, Xf, Xl⟩ := X
     have ⟨Yc, Yf, Yl⟩ := Y
     have ⟨Wfc, Wff, Wfl⟩ := Wf
     have ⟨Uc, Uf, Ul⟩ := U
     have ⟨F1c, F1f, F1l⟩ := F1
     have ⟨Ic, If, Il⟩ := I
     have ⟨F2c, F2f, F2l⟩ := F2
     have ⟨Cc, Cf, Cl⟩ := C
     have ⟨F3c, F3f, F3l⟩ := F3
     have Ta_0 := Tax.c 0
     have Tb_0 := Tbx.c 0
     have Tb_1 := Tbx.c 1
     have Tal := Tax.lt
     have Tbl := Tbx.lt
     go_wp2_with fail
     refine (same_self l1 _ _ _ _ _ RU.out RYx.out).mono ?_
     rintro e w14 ⟨rfl, hb⟩
     replace Tax := Tax.below hb Tax.lt
     replace Tbx := Tbx.below hb Tbx.lt
     clear Ta_0 Tb_0 Tb_1 Tal Tbl
     have B14 := bcm w hb
     have q14 : w13.heap.size ≤ w14.heap.size := qle hb
     replace H := Hd (H.out.bl hb)
     replace K := Hd (K.out.bl hb)
     replace RU := Hd (RU.out.bl hb)
     replace RI := Hd (RI.out.bl hb)
     replace RC := Hd (RC.out.bl hb)
     replace RYx := Hd (RYx.out.bl hb)
     replace X := X.bw hb
     replace Y := Y.bw hb
     replace Wf := Wf.bw hb
     replace U := U.bw hb
     replace F1 := F1.bw hb
     replace I := I.bw hb
     replace F2 := F2.bw hb
     replace C := C.bw hb
     replace F3 := F3.bw hb
     clear hb
     have s14 := B14.size
     clear Xc Xf Xl Yc Yf Yl Wfc Wff Wfl Uc Uf Ul F1c F1f F1l Ic If Il F2c F2f F2l Cc Cf Cl F3c F3f F3l
     have ⟨Xc, Xf, Xl⟩ := X
     have ⟨Yc, Yf, Yl⟩ := Y
     have ⟨Wfc, Wff, Wfl⟩ := Wf
     have ⟨Uc, Uf, Ul⟩ := U
     have ⟨F1c, F1f, F1l⟩ := F1
     have ⟨Ic, If, Il⟩ := I
     have ⟨F2c, F2f, F2l⟩ := F2
     have ⟨Cc, Cf, Cl⟩ := C
     have ⟨F3c, F3f, F3l⟩ := F3
     have Ta_0 := Tax.c 0
     have Tb_0 := Tbx.c 0
     have Tb_1 := Tbx.c 1
     have Tal := Tax.lt
     have Tbl := Tbx.lt
     go_wp2_with fail
     clear Ta_0 Tb_0 Tb_1 Tal Tbl
     refine wp_region_ordD [(8, rx), (9, sx)] [0, 1, 3, 2, 4, 5, 6, 7, 8, 9] (by kernel_rfl) (by kernel_rfl) ?_
     have B15 : Below w.heap.size w w14.drew := by go_grown
     have q15 : w14.heap.size ≤ w14.drew.heap.size := by simp only [World.size_drew]; omega
     replace H := Hd (H.out.bl (Below.refl _ _).drew)
     replace K := Hd (K.out.bl (Below.refl _ _).drew)
     replace RU := Hd (RU.out.bl (Below.refl _ _).drew)
     replace RI := Hd (RI.out.bl (Below.refl _ _).drew)
     replace RC := Hd (RC.out.bl (Below.refl _ _).drew)
     replace RYx := Hd (RYx.out.bl (Below.refl _ _).drew)
     replace X := X.drew
     replace Y := Y.drew
     replace Wf := Wf.drew
     replace U := U.drew
     replace F1 := F1.drew
     replace I := I.drew
     replace F2 := F2.drew
     replace C := C.drew
     replace F3 := F3.drew
     replace Tax := Tax.below (B := w14.heap.size) (w' := w14.drew) (by go_grown) Tax.lt
     replace Tbx := Tbx.below (B := w14.heap.size) (w' := w14.drew) (by go_grown) Tbx.lt
     clear Xc Xf Xl Yc Yf Yl Wfc Wff Wfl Uc Uf Ul F1c F1f F1l Ic If Il F2c F2f F2l Cc Cf Cl F3c F3f F3l
     generalize w14.drew = w15 at *
     have s15 := B15.size
     have ⟨Xc, Xf, Xl⟩ := X
     have ⟨Yc, Yf, Yl⟩ := Y
     have ⟨Wfc, Wff, Wfl⟩ := Wf
     have ⟨Uc, Uf, Ul⟩ := U
     have ⟨F1c, F1f, F1l⟩ := F1
     have ⟨Ic, If, Il⟩ := I
     have ⟨F2c, F2f, F2l⟩ := F2
     have ⟨Cc, Cf, Cl⟩ := C
     have ⟨F3c, F3f, F3l⟩ := F3
     repeat (first | (refine wpD_pure rfl rfl ?_; go_big_quiet_step (fail); refine wpQuiet_nil ?_) | (refine wpD_rd [] (by kernel_rfl) rfl rfl ?_; go_big_quiet_step (fail); refine wpQuiet_nil ?_))
     try simp only [pts]
     refine wpD_call (f := 28) rfl rfl rfl (by simp [go_sem]; rfl) ?_
     refine (CM.out _ H.out K.out).mono ?_
     rintro e w16 ⟨om, km, rfl, RM, hb⟩
     replace RM := Hd RM
     replace Tax := Tax.below hb Tax.lt
     replace Tbx := Tbx.below hb Tbx.lt
     refine ⟨_, rfl, hb, ?_⟩
     skip
     have B16 := bcm w hb
     have q16 : w15.heap.size ≤ w16.heap.size := qle hb
     replace H := Hd (H.out.bl hb)
     replace K := Hd (K.out.bl hb)
     replace RU := Hd (RU.out.bl hb)
     replace RI := Hd (RI.out.bl hb)
     replace RC := Hd (RC.out.bl hb)
     replace RYx := Hd (RYx.out.bl hb)
     replace X := X.bw hb
     replace Y := Y.bw hb
     replace Wf := Wf.bw hb
     replace U := U.bw hb
     replace F1 := F1.bw hb
     replace I := I.bw hb
     replace F2 := F2.bw hb
     replace C := C.bw hb
     replace F3 := F3.bw hb
     clear hb
     have s16 := B16.size
     clear Xc Xf Xl Yc Yf Yl Wfc Wff Wfl Uc Uf Ul F1c F1f F1l Ic If Il F2c F2f F2l Cc Cf Cl F3c F3f F3l
     have ⟨Xc, Xf, Xl⟩ := X
     have ⟨Yc, Yf, Yl⟩ := Y
     have ⟨Wfc, Wff, Wfl⟩ := Wf
     have ⟨Uc, Uf, Ul⟩ := U
     have ⟨F1c, F1f, F1l⟩ := F1
     have ⟨Ic, If, Il⟩ := I
     have ⟨F2c, F2f, F2l⟩ := F2
     have ⟨Cc, Cf, Cl⟩ := C
     have ⟨F3c, F3f, F3l⟩ := F3
     try simp only [pts]
     refine wpD_call (f := 25) rfl rfl rfl (by simp [go_sem]; rfl) ?_
     refine (CS2.out _ om km RM.out).mono ?_
     rintro e w17 ⟨on, kn, rfl, RN, hb⟩
     replace RN := Hd RN
     replace Tax := Tax.below hb Tax.lt
     replace Tbx := Tbx.below hb Tbx.lt
     refine ⟨_, rfl, hb, ?_⟩
     skip
     have B17 := bcm w hb
     have q17 : w16.heap.size ≤ w17.heap.size := qle hb
     replace H := Hd (H.out.bl hb)
     replace K := Hd (K.out.bl hb)
     replace RU := Hd (RU.out.bl hb)
     replace RI := Hd (RI.out.bl hb)
     replace RC := Hd (RC.out.bl hb)
     replace RYx := Hd (RYx.out.bl hb)
     replace RM := Hd (RM.out.bl hb)
     replace X := X.bw hb
     replace Y := Y.bw hb
     replace Wf := Wf.bw hb
     replace U := U.bw hb
     replace F1 := F1.bw hb
     replace I := I.bw hb
     replace F2 := F2.bw hb
     replace C := C.bw hb
     replace F3 := F3.bw hb
     clear hb
     have s17 := B17.size
     clear Xc Xf Xl Yc Yf Yl Wfc Wff Wfl Uc Uf Ul F1c F1f F1l Ic If Il F2c F2f F2l Cc Cf Cl F3c F3f F3l
     have ⟨Xc, Xf, Xl⟩ := X
     have ⟨Yc, Yf, Yl⟩ := Y
     have ⟨Wfc, Wff, Wfl⟩ := Wf
     have ⟨Uc, Uf, Ul⟩ := U
     have ⟨F1c, F1f, F1l⟩ := F1
     have ⟨Ic, If, Il⟩ := I
     have ⟨F2c, F2f, F2l⟩ := F2
     have ⟨Cc, Cf, Cl⟩ := C
     have ⟨F3c, F3f, F3l⟩ := F3
     try simp only [pts]
     repeat (first | (refine wpD_pure rfl rfl ?_; go_big_quiet_step (fail); refine wpQuiet_nil ?_) | (refine wpD_rd [] (by kernel_rfl) rfl rfl ?_; go_big_quiet_step (fail); refine wpQuiet_nil ?_))
     try simp only [pts]
     have Ta_0 := Tax.c 0
     have Ta_g := Tax.f 0 (by simp)
     have hnx : rx ≠ sx := Tax.ne Tbx (by intro h; cases h)
     refine wpD_st rfl rfl rfl (w' := w17.setCell ⟨rx, 0, none⟩ (.slice on l2.length kn)) (by simp [go_sem, Ta_0, Ta_g]) ((ExtD.refl _ _).s1) ?_
     try simp only [pts]
     have Tcx := Tbx.far (p := ⟨rx, 0, none⟩) hnx (.slice on l2.length kn)
     have Tb_0 := Tcx.c 0
     have Tb_1 := Tcx.c 1
     have Tb_g := Tcx.f 0 (by simp)
     have Tb_h := Tcx.f 1 (by simp)
     refine wpD_st rfl rfl rfl (w' := ((w17.setCell ⟨rx, 0, none⟩ (.slice on l2.length kn)).setCell ⟨sx, 0, none⟩ (.int .i64 p2)).setCell ⟨sx, 1, none⟩ (.int .i64 y2)) (by simp [go_sem, Tb_0, Tb_1, Tb_g, Tb_h]) (((ExtD.refl _ _).s1).s1) ?_
     refine wpD_nil ?_
     try simp only [pts]
     clear Ta_0 Ta_g Tb_0 Tb_1 Tb_g Tb_h
     replace H := Hd (((H.out.setA Tax (by simp) (j := 0) rfl (by nofun) (.slice on l2.length kn)).setA Tcx (by simp) (j := 0) rfl (by nofun) (.int .i64 p2)).setA (Tcx.st 0 (.int .i64 p2)) (by simp) (j := 1) rfl (by nofun) (.int .i64 y2))
     replace K := Hd (((K.out.setA Tax (by simp) (j := 0) rfl (by nofun) (.slice on l2.length kn)).setA Tcx (by simp) (j := 0) rfl (by nofun) (.int .i64 p2)).setA (Tcx.st 0 (.int .i64 p2)) (by simp) (j := 1) rfl (by nofun) (.int .i64 y2))
     replace RU := Hd (((RU.out.setA Tax (by simp) (j := 0) rfl (by nofun) (.slice on l2.length kn)).setA Tcx (by simp) (j := 0) rfl (by nofun) (.int .i64 p2)).setA (Tcx.st 0 (.int .i64 p2)) (by simp) (j := 1) rfl (by nofun) (.int .i64 y2))
     replace RI := Hd (((RI.out.setA Tax (by simp) (j := 0) rfl (by nofun) (.slice on l2.length kn)).setA Tcx (by simp) (j := 0) rfl (by nofun) (.int .i64 p2)).setA (Tcx.st 0 (.int .i64 p2)) (by simp) (j := 1) rfl (by nofun) (.int .i64 y2))
     replace RC := Hd (((RC.out.setA Tax (by simp) (j := 0) rfl (by nofun) (.slice on l2.length kn)).setA Tcx (by simp) (j := 0) rfl (by nofun) (.int .i64 p2)).setA (Tcx.st 0 (.int .i64 p2)) (by simp) (j := 1) rfl (by nofun) (.int .i64 y2))
     replace RYx := Hd (((RYx.out.setA Tax (by simp) (j := 0) rfl (by nofun) (.slice on l2.length kn)).setA Tcx (by simp) (j := 0) rfl (by nofun) (.int .i64 p2)).setA (Tcx.st 0 (.int .i64 p2)) (by simp) (j := 1) rfl (by nofun) (.int .i64 y2))
     replace RM := Hd (((RM.out.setA Tax (by simp) (j := 0) rfl (by nofun) (.slice on l2.length kn)).setA Tcx (by simp) (j := 0) rfl (by nofun) (.int .i64 p2)).setA (Tcx.st 0 (.int .i64 p2)) (by simp) (j := 1) rfl (by nofun) (.int .i64 y2))
     replace RN := Hd (((RN.out.setA Tax (by simp) (j := 0) rfl (by nofun) (.slice on l2.length kn)).setA Tcx (by simp) (j := 0) rfl (by nofun) (.int .i64 p2)).setA (Tcx.st 0 (.int .i64 p2)) (by simp) (j := 1) rfl (by nofun) (.int .i64 y2))
     clear Xc Xf Xl Yc Yf Yl Wfc Wff Wfl Uc Uf Ul F1c F1f F1l Ic If Il F2c F2f F2l Cc Cf Cl F3c F3f F3l
     replace X := ((X.fr rx 0 (by omega) (.slice on l2.length kn)).fr sx 0 (by omega) (.int .i64 p2)).fr sx 1 (by omega) (.int .i64 y2)
     replace Y := ((Y.fr rx 0 (by omega) (.slice on l2.length kn)).fr sx 0 (by omega) (.int .i64 p2)).fr sx 1 (by omega) (.int .i64 y2)
     replace Wf := ((Wf.fr rx 0 (by omega) (.slice on l2.length kn)).fr sx 0 (by omega) (.int .i64 p2)).fr sx 1 (by omega) (.int .i64 y2)
     replace U := ((U.fr rx 0 (by omega) (.slice on l2.length kn)).fr sx 0 (by omega) (.int .i64 p2)).fr sx 1 (by omega) (.int .i64 y2)
     replace F1 := ((F1.fr rx 0 (by omega) (.slice on l2.length kn)).fr sx 0 (by omega) (.int .i64 p2)).fr sx 1 (by omega) (.int .i64 y2)
     replace I := ((I.fr rx 0 (by omega) (.slice on l2.length kn)).fr sx 0 (by omega) (.int .i64 p2)).fr sx 1 (by omega) (.int .i64 y2)
     replace F2 := ((F2.fr rx 0 (by omega) (.slice on l2.length kn)).fr sx 0 (by omega) (.int .i64 p2)).fr sx 1 (by omega) (.int .i64 y2)
     replace C := ((C.fr rx 0 (by omega) (.slice on l2.length kn)).fr sx 0 (by omega) (.int .i64 p2)).fr sx 1 (by omega) (.int .i64 y2)
     replace F3 := ((F3.fr rx 0 (by omega) (.slice on l2.length kn)).fr sx 0 (by omega) (.int .i64 p2)).fr sx 1 (by omega) (.int .i64 y2)
     have Tdx := (Tcx.st 0 (.int .i64 p2)).st 1 (.int .i64 y2)
     replace Tax := ((Tax.st 0 (.slice on l2.length kn)).far (p := ⟨sx, 0, none⟩) (fun e => hnx e.symm) (.int .i64 p2)).far (p := ⟨sx, 1, none⟩) (fun e => hnx e.symm) (.int .i64 y2)
     clear Tbx Tcx
     have B18 : Below w.heap.size w (((w17.setCell ⟨rx, 0, none⟩ (.slice on l2.length kn)).setCell ⟨sx, 0, none⟩ (.int .i64 p2)).setCell ⟨sx, 1, none⟩ (.int .i64 y2)) := by go_grown
     have q18 : w17.heap.size ≤ (((w17.setCell ⟨rx, 0, none⟩ (.slice on l2.length kn)).setCell ⟨sx, 0, none⟩ (.int .i64 p2)).setCell ⟨sx, 1, none⟩ (.int .i64 y2)).heap.size := by simp
     generalize ((w17.setCell ⟨rx, 0, none⟩ (.slice on l2.length kn)).setCell ⟨sx, 0, none⟩ (.int .i64 p2)).setCell ⟨sx, 1, none⟩ (.int .i64 y2) = w18 at *
     have s18 := B18.size
     have ⟨Xc, Xf, Xl⟩ := X
     have ⟨Yc, Yf, Yl⟩ := Y
     have ⟨Wfc, Wff, Wfl⟩ := Wf
     have ⟨Uc, Uf, Ul⟩ := U
     have ⟨F1c, F1f, F1l⟩ := F1
     have ⟨Ic, If, Il⟩ := I
     have ⟨F2c, F2f, F2l⟩ := F2
     have ⟨Cc, Cf, Cl⟩ := C
     have ⟨F3c, F3f, F3l⟩ := F3
     have Ta_0 := Tax.c 0
     have Tb_0 := Tdx.c 0
     have Tb_1 := Tdx.c 1
     have Tal := Tax.lt
     have Tbl := Tdx.lt
     go_wp2_with fail
     refine (same_self l2 _ _ _ _ _ RI.out RN.out).mono ?_
     rintro e w19 ⟨rfl, hb⟩
     have B19 := bcm w hb
     have q19 : w18.heap.size ≤ w19.heap.size := qle hb
     replace H := Hd (H.out.bl hb)
     replace K := Hd (K.out.bl hb)
     replace RU := Hd (RU.out.bl hb)
     replace RI := Hd (RI.out.bl hb)
     replace RC := Hd (RC.out.bl hb)
     replace RYx := Hd (RYx.out.bl hb)
     replace RM := Hd (RM.out.bl hb)
     replace RN := Hd (RN.out.bl hb)
     replace X := X.bw hb
     replace Y := Y.bw hb
     replace Wf := Wf.bw hb
     replace U := U.bw hb
     replace F1 := F1.bw hb
     replace I := I.bw hb
     replace F2 := F2.bw hb
     replace C := C.bw hb
     replace F3 := F3.bw hb
     clear hb
     have s19 := B19.size
     clear Xc Xf Xl Yc Yf Yl Wfc Wff Wfl Uc Uf Ul F1c F1f F1l Ic If Il F2c F2f F2l Cc Cf Cl F3c F3f F3l
     have ⟨Xc, Xf, Xl⟩ := X
     have ⟨Yc, Yf, Yl⟩ := Y
     have ⟨Wfc, Wff, Wfl⟩ := Wf
     have ⟨Uc, Uf, Ul⟩ := U
     have ⟨F1c, F1f, F1l⟩ := F1
     have ⟨Ic, If, Il⟩ := I
     have ⟨F2c, F2f, F2l⟩ := F2
     have ⟨Cc, Cf, Cl⟩ := C
     have ⟨F3c, F3f, F3l⟩ := F3
     clear Ta_0 Tb_0 Tb_1 Tal Tbl Tax Tdx
     go_wp2_with fail
     refine (CF.out _ H.out).mono ?_
     rintro e w20 ⟨rfl, hb⟩
     have B20 := bcm w hb
     have q20 : w19.heap.size ≤ w20.heap.size := qle hb
     replace H := Hd (H.out.bl hb)
     replace K := Hd (K.out.bl hb)
     replace RU := Hd (RU.out.bl hb)
     replace RI := Hd (RI.out.bl hb)
     replace RC := Hd (RC.out.bl hb)
     replace RYx := Hd (RYx.out.bl hb)
     replace RM := Hd (RM.out.bl hb)
     replace RN := Hd (RN.out.bl hb)
     replace X := X.bw hb
     replace Y := Y.bw hb
     replace Wf := Wf.bw hb
     replace U := U.bw hb
     replace F1 := F1.bw hb
     replace I := I.bw hb
     replace F2 := F2.bw hb
     replace C := C.bw hb
     replace F3 := F3.bw hb
     clear hb
     have s20 := B20.size
     clear Xc Xf Xl Yc Yf Yl Wfc Wff Wfl Uc Uf Ul F1c F1f F1l Ic If Il F2c F2f F2l Cc Cf Cl F3c F3f F3l
     have ⟨Xc, Xf, Xl⟩ := X
     have ⟨Yc, Yf, Yl⟩ := Y
     have ⟨Wfc, Wff, Wfl⟩ := Wf
     have ⟨Uc, Uf, Ul⟩ := U
     have ⟨F1c, F1f, F1l⟩ := F1
     have ⟨Ic, If, Il⟩ := I
     have ⟨F2c, F2f, F2l⟩ := F2
     have ⟨Cc, Cf, Cl⟩ := C
     have ⟨F3c, F3f, F3l⟩ := F3
     go_wp2_with fail
     replace H := Hd ((H.out.setBk Wf (by simp) (j := 0) rfl (by nofun) (.int .i64 0)).setBk (Wf.st 0 (.int .i64 0)) (by simp) (j := 1) rfl (by nofun) (.int .i64 0))
     replace K := Hd ((K.out.setBk Wf (by simp) (j := 0) rfl (by nofun) (.int .i64 0)).setBk (Wf.st 0 (.int .i64 0)) (by simp) (j := 1) rfl (by nofun) (.int .i64 0))
     replace RU := Hd ((RU.out.setBk Wf (by simp) (j := 0) rfl (by nofun) (.int .i64 0)).setBk (Wf.st 0 (.int .i64 0)) (by simp) (j := 1) rfl (by nofun) (.int .i64 0))
     replace RI := Hd ((RI.out.setBk Wf (by simp) (j := 0) rfl (by nofun) (.int .i64 0)).setBk (Wf.st 0 (.int .i64 0)) (by simp) (j := 1) rfl (by nofun) (.int .i64 0))
     replace RC := Hd ((RC.out.setBk Wf (by simp) (j := 0) rfl (by nofun) (.int .i64 0)).setBk (Wf.st 0 (.int .i64 0)) (by simp) (j := 1) rfl (by nofun) (.int .i64 0))
     replace RYx := Hd ((RYx.out.setBk Wf (by simp) (j := 0) rfl (by nofun) (.int .i64 0)).setBk (Wf.st 0 (.int .i64 0)) (by simp) (j := 1) rfl (by nofun) (.int .i64 0))
     replace RM := Hd ((RM.out.setBk Wf (by simp) (j := 0) rfl (by nofun) (.int .i64 0)).setBk (Wf.st 0 (.int .i64 0)) (by simp) (j := 1) rfl (by nofun) (.int .i64 0))
     replace RN := Hd ((RN.out.setBk Wf (by simp) (j := 0) rfl (by nofun) (.int .i64 0)).setBk (Wf.st 0 (.int .i64 0)) (by simp) (j := 1) rfl (by nofun) (.int .i64 0))
     replace X := ((X.fr w5.heap.size 0 (by omega) (.int .i64 0)).fr w5.heap.size 1 (by omega) (.int .i64 0))
     replace Y := ((Y.fr w5.heap.size 0 (by omega) (.int .i64 0)).fr w5.heap.size 1 (by omega) (.int .i64 0))
     replace Wf := ((Wf.st 0 (.int .i64 0)).st 1 (.int .i64 0))
     replace U := ((U.fr w5.heap.size 0 (by omega) (.int .i64 0)).fr w5.heap.size 1 (by omega) (.int .i64 0))
     replace F1 := ((F1.fr w5.heap.size 0 (by omega) (.int .i64 0)).fr w5.heap.size 1 (by omega) (.int .i64 0))
     replace I := ((I.fr w5.heap.size 0 (by omega) (.int .i64 0)).fr w5.heap.size 1 (by omega) (.int .i64 0))
     replace F2 := ((F2.fr w5.heap.size 0 (by omega) (.int .i64 0)).fr w5.heap.size 1 (by omega) (.int .i64 0))
     replace C := ((C.fr w5.heap.size 0 (by omega) (.int .i64 0)).fr w5.heap.size 1 (by omega) (.int .i64 0))
     replace F3 := ((F3.fr w5.heap.size 0 (by omega) (.int .i64 0)).fr w5.heap.size 1 (by omega) (.int .i64 0))
     clear Xc Xf Xl Yc Yf Yl Wfc Wff Wfl Uc Uf Ul F1c F1f F1l Ic If Il F2c F2f F2l Cc Cf Cl F3c F3f F3l
     generalize hW : ((w20.setCell ⟨w5.heap.size, 0, none⟩ (.int .i64 0)).setCell ⟨w5.heap.size, 1, none⟩ (.int .i64 0)) = w21 at *
     have B21 : Below w.heap.size w w21 := by rw [← hW]; go_grown
     have q21 : w20.heap.size ≤ w21.heap.size := by rw [← hW]; go_size
     clear hW
     have s21 := B21.size
     have ⟨Xc, Xf, Xl⟩ := X
     have ⟨Yc, Yf, Yl⟩ := Y
     have ⟨Wfc, Wff, Wfl⟩ := Wf
     have ⟨Uc, Uf, Ul⟩ := U
     have ⟨F1c, F1f, F1l⟩ := F1
     have ⟨Ic, If, Il⟩ := I
     have ⟨F2c, F2f, F2l⟩ := F2
     have ⟨Cc, Cf, Cl⟩ := C
     have ⟨F3c, F3f, F3l⟩ := F3
     have HRd := H.out.below (B := w21.heap.size) (w' := w21.drew) (by go_grown) nle
     have KRd := K.out.below (B := w21.heap.size) (w' := w21.drew) (by go_grown) nle
     have Xd := X.drew
     have Yd := Y.drew
     have Wd := Wf.drew
     refine wp_region_freeP [1, 3, 7, 8] [0, 2, 4, 5, 6] [9, 10]
      (fun i => [Hold.eq (.agg #[.slice a r.length c]), Hold.rg x3, Hold.eq (.agg #[.int .i64 0, .int .i64 0]), Hold.rgf l3 p3 y3, Hold.rgf l3 p3 y3, Hold.rg l3, Hold.eq (.agg #[.int .i64 p3, .int .i64 y3]), Hold.bxA w21.drew.heap.size [.slice none 0 0], Hold.bxA w21.drew.heap.size [.int .i64 0, .int .i64 0]].getD i Hold.any) (by kernel_rfl) (by kernel_rfl) ?_ ?_
     · refine ⟨stepOb_ca (by kernel_rfl) (by kernel_rfl) ?_, stepOb_ca (by kernel_rfl) (by kernel_rfl) ?_, stepOb_mk (by kernel_rfl) (by kernel_rfl) ?_, stepOb_mk (by kernel_rfl) (by kernel_rfl) ?_, stepOb_rd (by kernel_rfl) (by kernel_rfl) ?_, stepOb_rd (by kernel_rfl) (by kernel_rfl) ?_, stepOb_rd (by kernel_rfl) (by kernel_rfl) ?_, stepOb_rd (by kernel_rfl) (by kernel_rfl) ?_, stepOb_rd (by kernel_rfl) (by kernel_rfl) ?_, trivial⟩
       all_goals (intro A x wx F hbx hd; replace hbx := Hd hbx)
       · have e0 := F.get (d := 121) 0 rfl rfl (by simp) (hd 0 rfl)
         refine ⟨_, 30, #[.agg #[.slice a r.length c]], rfl, by simp [go_sem, e0.1], ?_⟩
         refine (CR.out _ (HRd.bl hbx.out)).mono ?_
         rintro e w' ⟨o1, k1, rfl, ho, hb'⟩
         exact ⟨_, rfl, hb', o1, k1, rfl, ho⟩
       · obtain ⟨o1, k1, h1, r1⟩ := hd 1 rfl
         have e0 := F.get (d := 122) 1 rfl rfl (by simp) h1
         have e1 := F.get (d := 123) 2 rfl rfl (by simp) (hd 2 rfl)
         refine ⟨_, 25, #[.agg #[.slice o1 x3.length k1], .agg #[.int .i64 0, .int .i64 0]], rfl, by simp [go_sem, e0.1, e1.1], ?_⟩
         refine (CS3.out _ o1 k1 r1).mono ?_
         rintro e w' ⟨o2, k2, rfl, ho, hb'⟩
         exact ⟨_, rfl, hb', o2, k2, rfl, ho⟩
       · exact ⟨_, .pointer (some ⟨wx.heap.size, 0, none⟩), wx.alloc (.cells #[.slice none 0 0] 33), rfl, by simp [go_sem], Below.ext ((Below.refl _ _).alloc nle _), hbx.out.alloc hbx.out.size _, _, rfl, hbx.out.size, BoxA.new (cs := [.slice none 0 0])⟩
       · exact ⟨_, .pointer (some ⟨wx.heap.size, 0, none⟩), wx.alloc (.cells #[.int .i64 0, .int .i64 0] 27), rfl, by simp [go_sem], Below.ext ((Below.refl _ _).alloc nle _), hbx.out.alloc hbx.out.size _, _, rfl, hbx.out.size, BoxA.new (cs := [.int .i64 0, .int .i64 0])⟩
       · have e0 := F.was (d := 2) (v := .pointer (some ⟨w.heap.size, 0, none⟩)) rfl rfl
         have g0 := hbx.out
         refine ⟨_, _, rfl, fun w' hx => ?_, rfl⟩
         have r0 := hx.cell _ _ ((g0.cell (p := ⟨w.heap.size, 0, none⟩) Xd.lt).trans (Xd.c 0))
         simp [go_sem, e0.1, r0]
       · have e0 := F.was (d := 5) (v := .pointer (some ⟨w5.heap.size, 0, none⟩)) rfl rfl
         have g0 := hbx.out
         refine ⟨_, _, rfl, fun w' hx => ?_, rfl⟩
         have r0 := hx.cell _ _ ((g0.cell (p := ⟨w5.heap.size, 0, none⟩) Wd.lt).trans (Wd.c 0))
         have r1 := hx.cell _ _ ((g0.cell (p := ⟨w5.heap.size, 1, none⟩) Wd.lt).trans (Wd.c 1))
         simp [go_sem, e0.1, r0, r1]
       · obtain ⟨o1, k1, h1, r1⟩ := hd 3 rfl
         have e0 := F.get (d := 124) 3 rfl rfl (by simp) h1
         exact ⟨_, _, rfl, fun w' hx => by simp [go_sem, e0.1], o1, k1, rfl, r1⟩
       · obtain ⟨o1, k1, h1, r1⟩ := hd 4 rfl
         have e0 := F.get (d := 120) 4 rfl rfl (by simp) h1
         exact ⟨_, (.agg #[.slice o1 l3.length k1]), rfl, fun w' hx => by simp [go_sem, e0.1], o1, k1, rfl, r1⟩
       · obtain ⟨o1, k1, h1, r1⟩ := hd 4 rfl
         have e0 := F.get (d := 120) 4 rfl rfl (by simp) h1
         exact ⟨_, _, rfl, fun w' hx => by simp [go_sem, e0.1], rfl⟩
     intro x wx hbx hI
     obtain ⟨-, -, ⟨rz, ha1, hr1, T1⟩, ⟨sz, ha2, hr2, T2⟩, -, -, -, ⟨oz, kz, he0, RXz⟩, he1, -⟩ := hI
     have he1 : x 6 = .agg #[.int .i64 p3, .int .i64 y3] := he1
     have hne : rz ≠ sz := T1.ne T2 (by intro h; cases h)
     simp only [actOf, Act.put, List.setIfInBounds_toArray, List.set_cons_succ, List.set_cons_zero, Nat.zero_add, Nat.reduceAdd, ha1, ha2, he0, he1]
     have ⟨T1_a, T1f, T1l, _⟩ := T1
     have T1_0 := T1.c 0
     have T1_g := T1.f 0 (by simp)
     refine wpI_st rfl rfl rfl (w' := wx.setCell ⟨rz, 0, none⟩ (.slice oz l3.length kz)) (by simp [go_sem, T1_0, T1_g]) ?_
     have T3 := T2.far (p := ⟨rz, 0, none⟩) hne (.slice oz l3.length kz)
     have T3_0 := T3.c 0
     have T3_1 := T3.c 1
     have T3_g := T3.f 0 (by simp)
     have T3_h := T3.f 1 (by simp)
     try simp only [Act.put]
     refine wpI_st rfl rfl rfl (w' := ((wx.setCell ⟨rz, 0, none⟩ (.slice oz l3.length kz)).setCell ⟨sz, 0, none⟩ (.int .i64 p3)).setCell ⟨sz, 1, none⟩ (.int .i64 y3)) (by simp [go_sem, T3_0, T3_1, T3_g, T3_h]) ?_
     refine wpI_nil ?_
     try simp only [Act.put]
     have hr : w21.heap.size ≤ rz := hr1
     have hs : w21.heap.size ≤ sz := hr2
     have Taz := ((T1.st 0 (.slice oz l3.length kz)).far (p := ⟨sz, 0, none⟩) (fun e => hne e.symm) (.int .i64 p3)).far (p := ⟨sz, 1, none⟩) (fun e => hne e.symm) (.int .i64 y3)
     have Tbz := (T3.st 0 (.int .i64 p3)).st 1 (.int .i64 y3)
     have RYz := Hd (((RXz.setA T1 (by simp) (j := 0) rfl (by nofun) (.slice oz l3.length kz)).setA T3 (by simp) (j := 0) rfl (by nofun) (.int .i64 p3)).setA (T3.st 0 (.int .i64 p3)) (by simp) (j := 1) rfl (by nofun) (.int .i64 y3))
     have hbk : Below w21.heap.size w21 (((wx.setCell ⟨rz, 0, none⟩ (.slice oz l3.length kz)).setCell ⟨sz, 0, none⟩ (.int .i64 p3)).setCell ⟨sz, 1, none⟩ (.int .i64 y3)) := (((bcall (B := w21.heap.size) (by go_grown) hbx nle).setCell (p := ⟨rz, 0, none⟩) hr _).setCell (p := ⟨sz, 0, none⟩) hs _).setCell (p := ⟨sz, 1, none⟩) hs _
     clear T1 T2 T3 T1_a T1f T1l T1_0 T1_g T3_0 T3_1 T3_g T3_h RXz ha1 ha2 he0 he1 hr1 hr2 hbx HRd KRd Xd Yd Wd
     generalize ((wx.setCell ⟨rz, 0, none⟩ (.slice oz l3.length kz)).setCell ⟨sz, 0, none⟩ (.int .i64 p3)).setCell ⟨sz, 1, none⟩ (.int .i64 y3) = wyz at *
     clear Xc Xf Xl Yc Yf Yl Wfc Wff Wfl Uc Uf Ul F1c F1f F1l Ic If Il F2c F2f F2l Cc Cf Cl F3c F3f F3l
     have B22 : Below w.heap.size w wyz := bcall B21 hbk B21.size
     have q22 : w21.heap.size ≤ wyz.heap.size := hbk.size
     replace H := Hd (H.out.bl hbk)
     replace K := Hd (K.out.bl hbk)
     replace RU := Hd (RU.out.bl hbk)
     replace RI := Hd (RI.out.bl hbk)
     replace RC := Hd (RC.out.bl hbk)
     replace RYx := Hd (RYx.out.bl hbk)
     replace RM := Hd (RM.out.bl hbk)
     replace RN := Hd (RN.out.bl hbk)
     replace X := X.below hbk X.lt
     replace Y := Y.below hbk Y.lt
     replace Wf := Wf.below hbk Wf.lt
     replace U := U.below hbk U.lt
     replace F1 := F1.below hbk F1.lt
     replace I := I.below hbk I.lt
     replace F2 := F2.below hbk F2.lt
     replace C := C.below hbk C.lt
     replace F3 := F3.below hbk F3.lt
     clear hbk
     generalize wyz = w22 at *
     have s22 := B22.size
     have ⟨Xc, Xf, Xl⟩ := X
     have ⟨Yc, Yf, Yl⟩ := Y
     have ⟨Wfc, Wff, Wfl⟩ := Wf
     have ⟨Uc, Uf, Ul⟩ := U
     have ⟨F1c, F1f, F1l⟩ := F1
     have ⟨Ic, If, Il⟩ := I
     have ⟨F2c, F2f, F2l⟩ := F2
     have ⟨Cc, Cf, Cl⟩ := C
     have ⟨F3c, F3f, F3l⟩ := F3
     have Ta_0 := Taz.c 0
     have Tb_0 := Tbz.c 0
     have Tb_1 := Tbz.c 1
     have Tal := Taz.lt
     have Tbl := Tbz.lt
     go_wp2_with fail
     refine (same_self l3 _ _ _ _ _ RC.out RYz.out).mono ?_
     rintro e w23 ⟨rfl, hb⟩
     have B23 := bcm w hb
     have q23 : w22.heap.size ≤ w23.heap.size := qle hb
     replace H := Hd (H.out.bl hb)
     replace K := Hd (K.out.bl hb)
     replace RU := Hd (RU.out.bl hb)
     replace RI := Hd (RI.out.bl hb)
     replace RC := Hd (RC.out.bl hb)
     replace RYx := Hd (RYx.out.bl hb)
     replace RM := Hd (RM.out.bl hb)
     replace RN := Hd (RN.out.bl hb)
     replace RYz := Hd (RYz.out.bl hb)
     replace X := X.bw hb
     replace Y := Y.bw hb
     replace Wf := Wf.bw hb
     replace U := U.bw hb
     replace F1 := F1.bw hb
     replace I := I.bw hb
     replace F2 := F2.bw hb
     replace C := C.bw hb
     replace F3 := F3.bw hb
     clear hb
     have s23 := B23.size
     clear Xc Xf Xl Yc Yf Yl Wfc Wff Wfl Uc Uf Ul F1c F1f F1l Ic If Il F2c F2f F2l Cc Cf Cl F3c F3f F3l
     have ⟨Xc, Xf, Xl⟩ := X
     have ⟨Yc, Yf, Yl⟩ := Y
     have ⟨Wfc, Wff, Wfl⟩ := Wf
     have ⟨Uc, Uf, Ul⟩ := U
     have ⟨F1c, F1f, F1l⟩ := F1
     have ⟨Ic, If, Il⟩ := I
     have ⟨F2c, F2f, F2l⟩ := F2
     have ⟨Cc, Cf, Cl⟩ := C
     have ⟨F3c, F3f, F3l⟩ := F3
     clear Ta_0 Tb_0 Tb_1 Tal Tbl
     go_wp2_with fail
     go_ret
     exact ⟨by first | rfl | simp, by go_grown⟩
theorem VerrangeOperationsMatchSpec_any (r t : List Pl.Ivl) (a b : Option Addr) (c d : Nat) (w : World) (h1 : RIn w r a c) (h2 : RIn w t b d) (EN : Env w) : Calls Tryz.prog 4 #[.agg #[.slice a r.length c], .agg #[.slice b t.length d]] w fun e w' => e = .returned (.bool true) ∧ Below w.heap.size w w' := by
 by_cases f1 : (Pl.rngF r).1 = 0
 · by_cases f2 : (Pl.rngF t).1 = 0
   · exact vom_c r t a b c d w h1 h2 EN (Pl.rng_zero f1) (Pl.rng_zero f2)
   · exact vom_b r t a b c d w h1 h2 EN (Pl.rng_zero f1) _ _ rfl f2
 · exact vom_a r t a b c d w h1 h2 EN _ _ rfl f1
end Go.Proofs.YtolfgcoalihmgaaGreatDoor
