/- Contract of the reference: a range with one interval more. -/
import Derived.Test.YtolfgcoalihmgaaGreatDoorMEm
import Derived.Deep.DeepCutAuto
namespace Go.Proofs.YtolfgcoalihmgaaGreatDoor
open Go.RowKit
def WithInv (w : World) (x : Pl.Ivl) (r : List Pl.Ivl) (a p q : Option Addr) (c pc qc k : Nat) (pb : Bool) (o : Option Addr) (n c' : Nat) (wr : World) : Prop :=
 ∃ out, (Bk wr w.heap.size [.slice a r.length c] ∧ Bk wr (w.heap.size + 1) [.int .i64 x.lo.maj, .int .i64 x.lo.min, .int .i64 x.lo.pat, .slice p x.lo.pre.length pc, .int .i64 x.hi.maj, .int .i64 x.hi.min, .int .i64 x.hi.pat, .slice q x.hi.pre.length qc, .bool x.un] ∧ Bk wr (w.heap.size + 1 + 1) [.slice none 0 0]) ∧ ROwn wr (w.heap.size + 3) 0 out (.slice o n c') n ∧ Below w.heap.size w wr ∧ Pl.InsTo x r k pb out ∧ w.heap.size + 3 ≤ wr.heap.size
def WithCut (w : World) (x : Pl.Ivl) (r : List Pl.Ivl) (l : Value) (wx : World) : Prop :=
 ∃ o n c', l = .slice o n c' ∧ Bk wx (w.heap.size + 1 + 1) [.slice none 0 0] ∧ ROwn wx (w.heap.size + 3) 0 (Pl.insI x r) (.slice o n c') n ∧ Below w.heap.size w wx ∧ w.heap.size + 3 ≤ wx.heap.size
def WithInv2 (w wx : World) (s : List Pl.Ivl) (k : Nat) (wr : World) : Prop :=
 ∃ o n c' out, Bk wr (w.heap.size + 1 + 1) [.slice none 0 0] ∧ Bk wr wx.heap.size [.slice o n c'] ∧ ROwn wr (wx.heap.size + 1) 0 out (.slice o n c') n ∧ Below wx.heap.size wx wr ∧ (s.take k).foldl Pl.addL [] = out ∧ n ≤ k ∧ wx.heap.size + 1 ≤ wr.heap.size
set_option maxRecDepth 100000 in
set_option maxHeartbeats 16000000 in
theorem RangeWith_any (r : List Pl.Ivl) (x : Pl.Ivl) (a p q : Option Addr) (c pc qc : Nat) (w : World) (h : RIn w r a c) (hp : VIn w x.lo p pc) (hq : VIn w x.hi q qc) (can : Pl.Can r) (ox : x.Ok) (hn : r.length ≤ 500000) :
 Calls Tryz.prog 75 #[.agg #[.slice a r.length c], ivV x p q pc qc] w (RRng (Pl.withR r x) w) := by
 have H := Hd h
 have HL := Hd hp
 have HH := Hd hq
 have CAN := Hd can
 have OX := Hd ox
 have QP := Hd hp.at
 have QQ := Hd hq.at
 clear h hp hq can ox
 go_enter Tryz.func75, Tryz.ntmps75
 have B0 := brl w
 go_wp2_with fail
 have X := (((Bk.new (r := w.heap.size) (cs := [.slice a r.length c]) w 33 (by simp)).alloc (.cells #[.int .i64 x.lo.maj, .int .i64 x.lo.min, .int .i64 x.lo.pat, .slice p x.lo.pre.length pc, .int .i64 x.hi.maj, .int .i64 x.hi.min, .int .i64 x.hi.pat, .slice q x.hi.pre.length qc, .bool x.un] 101)).alloc (.cells #[.slice none 0 0] 33))
 have Y := ((Bk.new (r := w.heap.size + 1) (cs := [.int .i64 x.lo.maj, .int .i64 x.lo.min, .int .i64 x.lo.pat, .slice p x.lo.pre.length pc, .int .i64 x.hi.maj, .int .i64 x.hi.min, .int .i64 x.hi.pat, .slice q x.hi.pre.length qc, .bool x.un]) (w.alloc (.cells #[.slice a r.length c] 33)) 101 (by simp)).alloc (.cells #[.slice none 0 0] 33))
 have R := (Bk.new (r := w.heap.size + 1 + 1) (cs := [.slice none 0 0]) ((w.alloc (.cells #[.slice a r.length c] 33)).alloc (.cells #[.int .i64 x.lo.maj, .int .i64 x.lo.min, .int .i64 x.lo.pat, .slice p x.lo.pre.length pc, .int .i64 x.hi.maj, .int .i64 x.hi.min, .int .i64 x.hi.pat, .slice q x.hi.pre.length qc, .bool x.un] 101)) 33 (by simp))
 generalize hW : (((w.alloc (.cells #[.slice a r.length c] 33)).alloc (.cells #[.int .i64 x.lo.maj, .int .i64 x.lo.min, .int .i64 x.lo.pat, .slice p x.lo.pre.length pc, .int .i64 x.hi.maj, .int .i64 x.hi.min, .int .i64 x.hi.pat, .slice q x.hi.pre.length qc, .bool x.un] 101)).alloc (.cells #[.slice none 0 0] 33)) = w1 at *
 have B1 : Below w.heap.size w w1 := by rw [← hW]; go_grown
 have q1 : w.heap.size + 3 ≤ w1.heap.size := by rw [← hW]; go_size
 clear hW
 have s1 := B1.size
 have ⟨Xc, Xf, Xl⟩ := X
 have ⟨Yc, Yf, Yl⟩ := Y
 have ⟨Rc, Rf, Rl⟩ := R
 clear Xc Xf Xl Yc Yf Yl Rc Rf Rl
 go_loopw [5, 6, 7] (fun l pp i wr => ∃ (k : Nat) (pb : Bool) (o : Option Addr) (n c' : Nat), k ≤ r.length ∧ l = .slice o n c' ∧ pp = .bool pb ∧ i = .int .i64 k ∧ WithInv w x r a p q c pc qc k pb o n c' wr) (fun _ _ i _ => r.length - (intOf i).toNat)
 case atStart => exact ⟨0, false, none, 0, 0, Nat.zero_le _, rfl, rfl, rfl, [], ⟨X, Y, R⟩, ROwn.nil _ _ _, B1, Pl.InsTo.start _ _, by omega⟩
 case round =>
  obtain ⟨k, pb, o, n, c', hk, rfl, rfl, rfl, hinv⟩ := hrel
  clear X Y R B0 B1 q1 s1
  obtain ⟨out, ⟨X, Y, R⟩, OW, B1, EQ, q0⟩ := hinv
  have hnk : n ≤ r.length + 1 := by rw [← OW.len]; exact EQ.len
  replace EQ := Hd EQ
  by_cases hlt2 : k < r.length
  · have t5 : decide ((k : Int) < (r.length : Int)) = true := decT (by omega)
    obtain ⟨bb, off, rfl, hltb, hat⟩ := H.out.at (by omega)
    obtain ⟨a1, b1, c1, d1, I0⟩ := hat k hlt2
    have HI := Hd I0
    have QA := Hd I0.lo.at
    have QB := Hd I0.hi.at
    have OY := Hd (CAN.out.ok _ (List.getElem_mem hlt2))
    have SP := Hd (fun (l : List Pl.Ivl) (e : Pl.InsTo x r k true l) => e.placed hlt2)
    have SU := Hd (fun (l : List Pl.Ivl) (e : Pl.InsTo x r k false l) hc => e.put hlt2 hc)
    have SN := Hd (fun (l : List Pl.Ivl) (e : Pl.InsTo x r k false l) hc => e.pass hlt2 hc)
    clear hat I0
    have CO := Hd (fun (W : World) (g1 : VIn W x.lo p pc) (g2 : VIn W r[k].lo a1 c1) => VersionOrder_any x.lo r[k].lo p a1 pc c1 W (VOk.of g1 OX.out.lo) (VOk.of g2 OY.out.lo))
    obtain ⟨K, hK⟩ : ∃ K, Pl.verCmp x.lo r[k].lo = K := ⟨_, rfl⟩
    rw [hK] at CO SU SN
    clear hK OY
    generalize r[k] = y at *
    obtain ⟨e0, e1, e2, e3, e4, e5, e6, e7, e8, VA, VB⟩ := HI.out.below B1 hltb nle
    clear VA VB
    have ⟨Xc, Xf, Xl⟩ := X
    have ⟨Yc, Yf, Yl⟩ := Y
    have ⟨Rc, Rf, Rl⟩ := R
    go_wp2_with fail
    cases pb with
    | true =>
      replace OW := Hd OW
      clear e0 e1 e2 e3 e4 e5 e6 e7 e8
      refine wp_region_ord [0, 1, 2, 3, 4, 5, 6, 7, 8, 9, 10, 11, 12, 13] (by kernel_rfl) (by kernel_rfl) ?_
      have B2 : Below w.heap.size w wr.drew := by go_grown
      have q2 : wr.heap.size ≤ wr.drew.heap.size := by simp only [World.size_drew]; omega
      replace OW := Hd (OW.out.bl (Below.refl _ _).drew)
      replace X := X.drew
      replace Y := Y.drew
      replace R := R.drew
      clear Xc Xf Xl Yc Yf Yl Rc Rf Rl
      generalize wr.drew = w2 at *
      have s2 := B2.size
      have ⟨Xc, Xf, Xl⟩ := X
      have ⟨Yc, Yf, Yl⟩ := Y
      have ⟨Rc, Rf, Rl⟩ := R
      obtain ⟨e0, e1, e2, e3, e4, e5, e6, e7, e8, VA, VB⟩ := HI.out.below B2 hltb nle
      clear VA VB
      repeat (first | (refine wpI_rd rfl rfl ?_; go_big_quiet_step (fail); refine wpQuiet_nil ?_) | (refine wpI_skip rfl rfl ?_; try simp only [pts]))
      try simp only [pts]
      refine wpI_nil ?_
      try simp only [pts]
      replace OW := OW.out
      have QY : IvQ w2 (fun b => 0 ≤ b ∧ some b ≠ (Value.slice o n c').ownBlock) y [.int .i64 y.lo.maj, .int .i64 y.lo.min, .int .i64 y.lo.pat, .slice a1 y.lo.pre.length c1, .int .i64 y.hi.maj, .int .i64 y.hi.min, .int .i64 y.hi.pat, .slice b1 y.hi.pre.length d1, .bool y.un] := ⟨a1, b1, c1, d1, rfl, (HI.out.below B2 hltb nle).lo, (HI.out.below B2 hltb nle).hi, SlQ.off OW rfl (by omega) QA.out, SlQ.off OW rfl (by omega) QB.out⟩
      go_wp2_with (at_builtin; go_loud (refine ap1r (by rfl) (by rfl) (by rfl) OW (c := 1) (C := [.int .i64 y.lo.maj, .int .i64 y.lo.min, .int .i64 y.lo.pat, .slice a1 y.lo.pre.length c1, .int .i64 y.hi.maj, .int .i64 y.hi.min, .int .i64 y.hi.pat, .slice b1 y.hi.pre.length d1, .bool y.un]) (by rfl) QY (by omega) (by omega) ?_); intro v7 w7 NEW7 hg7 hb7 hs7; replace X := X.below hb7 (by omega); replace Y := Y.below hb7 (by omega); replace R := R.below hb7 (by omega); have B7 : Below w.heap.size w w7 := bcall B2 hb7 (by omega); obtain ⟨o7, c7, rfl⟩ := NEW7.slice; clear hg7 hb7 OW QY Xc Xf Xl Yc Yf Yl Rc Rf Rl e0 e1 e2 e3 e4 e5 e6 e7 e8; obtain ⟨Xc, Xf, Xl⟩ := id X; obtain ⟨Yc, Yf, Yl⟩ := id Y; obtain ⟨Rc, Rf, Rl⟩ := id R)
      go_roundw
      case rel => exact ⟨k + 1, true, o7, n + 1, c7, hlt2, rfl, rfl, by go_num, _, ⟨X, Y, R⟩, NEW7, B7, SP.out _ EQ.out, by have := B7.size; omega⟩
      case measure => simp [intOf]; omega
    | false =>
      replace OW := Hd OW
      clear e0 e1 e2 e3 e4 e5 e6 e7 e8
      refine wp_region_ord [0, 1, 2, 3, 4, 5, 6, 7, 8, 9, 10, 11, 12, 13] (by kernel_rfl) (by kernel_rfl) ?_
      have B2 : Below w.heap.size w wr.drew := by go_grown
      have q2 : wr.heap.size ≤ wr.drew.heap.size := by simp only [World.size_drew]; omega
      replace OW := Hd (OW.out.bl (Below.refl _ _).drew)
      replace X := X.drew
      replace Y := Y.drew
      replace R := R.drew
      clear Xc Xf Xl Yc Yf Yl Rc Rf Rl
      generalize wr.drew = w2 at *
      have s2 := B2.size
      have ⟨Xc, Xf, Xl⟩ := X
      have ⟨Yc, Yf, Yl⟩ := Y
      have ⟨Rc, Rf, Rl⟩ := R
      obtain ⟨e0, e1, e2, e3, e4, e5, e6, e7, e8, VA, VB⟩ := HI.out.below B2 hltb nle
      clear VA VB
      repeat (first | (refine wpI_rd rfl rfl ?_; go_big_quiet_step (fail); refine wpQuiet_nil ?_) | (refine wpI_skip rfl rfl ?_; try simp only [pts]))
      try simp only [pts]
      refine wpI_call (f := 77) rfl rfl rfl (by simp [go_sem]; rfl) ?_
      refine (CO.out _ (HL.out.bl B2) (HI.out.below B2 hltb nle).lo).mono ?_
      rintro e w3 ⟨rfl, hb⟩
      refine ⟨_, rfl, hb, ?_⟩
      skip
      have B3 := bcm w hb
      have q3 : w2.heap.size ≤ w3.heap.size := qle hb
      replace OW := Hd (OW.out.bl hb)
      replace X := X.bw hb
      replace Y := Y.bw hb
      replace R := R.bw hb
      clear hb
      have s3 := B3.size
      clear Xc Xf Xl Yc Yf Yl Rc Rf Rl
      have ⟨Xc, Xf, Xl⟩ := X
      have ⟨Yc, Yf, Yl⟩ := Y
      have ⟨Rc, Rf, Rl⟩ := R
      try simp only [pts]
      clear CO e0 e1 e2 e3 e4 e5 e6 e7 e8
      obtain ⟨e0, e1, e2, e3, e4, e5, e6, e7, e8, VA, VB⟩ := HI.out.below B3 hltb nle
      clear VA VB
      replace OW := OW.out
      by_cases k0 : K < 0
      · have t1 := decT k0
        have E := Hd (SU.out _ EQ.out (by omega))
        repeat (first | (refine wpI_rd rfl rfl ?_; go_big_quiet_step (fail); refine wpQuiet_nil ?_) | (refine wpI_skip rfl rfl ?_; try simp only [pts]))
        try simp only [pts]
        refine wpI_nil ?_
        try simp only [pts]
        have tok : True := trivial
        clear k0 SN SU SP
        have QY : IvQ w3 (fun b => 0 ≤ b ∧ some b ≠ (Value.slice o n c').ownBlock) x [.int .i64 x.lo.maj, .int .i64 x.lo.min, .int .i64 x.lo.pat, .slice p x.lo.pre.length pc, .int .i64 x.hi.maj, .int .i64 x.hi.min, .int .i64 x.hi.pat, .slice q x.hi.pre.length qc, .bool x.un] := ⟨p, q, pc, qc, rfl, HL.out.bl B3, HH.out.bl B3, SlQ.off OW rfl (by omega) QP.out, SlQ.off OW rfl (by omega) QQ.out⟩
        go_wp2_with (first | (clear tok; at_builtin; go_loud (refine ap1r (by rfl) (by rfl) (by rfl) OW (c := 1) (C := [.int .i64 x.lo.maj, .int .i64 x.lo.min, .int .i64 x.lo.pat, .slice p x.lo.pre.length pc, .int .i64 x.hi.maj, .int .i64 x.hi.min, .int .i64 x.hi.pat, .slice q x.hi.pre.length qc, .bool x.un]) (by rfl) QY (by omega) (by omega) ?_); intro v7 w7 NEW7 hg7 hb7 hs7; replace X := X.below hb7 (by omega); replace Y := Y.below hb7 (by omega); replace R := R.below hb7 (by omega); have B7 : Below w.heap.size w w7 := bcall B3 hb7 (by omega); obtain ⟨o7, c7, rfl⟩ := NEW7.slice; clear hg7 hb7 OW QY Xc Xf Xl Yc Yf Yl Rc Rf Rl e0 e1 e2 e3 e4 e5 e6 e7 e8; obtain ⟨Xc, Xf, Xl⟩ := id X; obtain ⟨Yc, Yf, Yl⟩ := id Y; obtain ⟨Rc, Rf, Rl⟩ := id R; obtain ⟨e0, e1, e2, e3, e4, e5, e6, e7, e8, VA, VB⟩ := HI.out.below B7 hltb nle; clear VA VB; have QZ : IvQ w7 (fun b => 0 ≤ b ∧ some b ≠ (Value.slice o7 (n + 1) c7).ownBlock) y [.int .i64 y.lo.maj, .int .i64 y.lo.min, .int .i64 y.lo.pat, .slice a1 y.lo.pre.length c1, .int .i64 y.hi.maj, .int .i64 y.hi.min, .int .i64 y.hi.pat, .slice b1 y.hi.pre.length d1, .bool y.un] := ⟨a1, b1, c1, d1, rfl, (HI.out.below B7 hltb nle).lo, (HI.out.below B7 hltb nle).hi, SlQ.off NEW7 rfl (by omega) QA.out, SlQ.off NEW7 rfl (by omega) QB.out⟩) | (at_builtin; go_loud (refine ap1r (by rfl) (by rfl) (by rfl) NEW7 (c := 1) (C := [.int .i64 y.lo.maj, .int .i64 y.lo.min, .int .i64 y.lo.pat, .slice a1 y.lo.pre.length c1, .int .i64 y.hi.maj, .int .i64 y.hi.min, .int .i64 y.hi.pat, .slice b1 y.hi.pre.length d1, .bool y.un]) (by rfl) QZ (by omega) (by omega) ?_); intro v8 w8 NEW8 hg8 hb8 hs8; replace X := X.below hb8 (by omega); replace Y := Y.below hb8 (by omega); replace R := R.below hb8 (by omega); have B8 : Below w.heap.size w w8 := bcall B7 hb8 (by omega); obtain ⟨o8, c8, rfl⟩ := NEW8.slice; clear hg8 hb8 NEW7 QZ Xc Xf Xl Yc Yf Yl Rc Rf Rl e0 e1 e2 e3 e4 e5 e6 e7 e8; obtain ⟨Xc, Xf, Xl⟩ := id X; obtain ⟨Yc, Yf, Yl⟩ := id Y; obtain ⟨Rc, Rf, Rl⟩ := id R))
        go_roundw
        case rel => exact ⟨k + 1, true, o8, n + 1 + 1, c8, hlt2, rfl, rfl, by go_num, _, ⟨X, Y, R⟩, NEW8, B8, E.out, by have := B8.size; omega⟩
        case measure => simp [intOf]; omega
      · have t1 := decF k0
        have E := Hd (SN.out _ EQ.out (by omega))
        repeat (first | (refine wpI_rd rfl rfl ?_; go_big_quiet_step (fail); refine wpQuiet_nil ?_) | (refine wpI_skip rfl rfl ?_; try simp only [pts]))
        try simp only [pts]
        refine wpI_nil ?_
        try simp only [pts]
        clear k0 SN SU SP
        have QY : IvQ w3 (fun b => 0 ≤ b ∧ some b ≠ (Value.slice o n c').ownBlock) y [.int .i64 y.lo.maj, .int .i64 y.lo.min, .int .i64 y.lo.pat, .slice a1 y.lo.pre.length c1, .int .i64 y.hi.maj, .int .i64 y.hi.min, .int .i64 y.hi.pat, .slice b1 y.hi.pre.length d1, .bool y.un] := ⟨a1, b1, c1, d1, rfl, (HI.out.below B3 hltb nle).lo, (HI.out.below B3 hltb nle).hi, SlQ.off OW rfl (by omega) QA.out, SlQ.off OW rfl (by omega) QB.out⟩
        go_wp2_with (at_builtin; go_loud (refine ap1r (by rfl) (by rfl) (by rfl) OW (c := 1) (C := [.int .i64 y.lo.maj, .int .i64 y.lo.min, .int .i64 y.lo.pat, .slice a1 y.lo.pre.length c1, .int .i64 y.hi.maj, .int .i64 y.hi.min, .int .i64 y.hi.pat, .slice b1 y.hi.pre.length d1, .bool y.un]) (by rfl) QY (by omega) (by omega) ?_); intro v7 w7 NEW7 hg7 hb7 hs7; replace X := X.below hb7 (by omega); replace Y := Y.below hb7 (by omega); replace R := R.below hb7 (by omega); have B7 : Below w.heap.size w w7 := bcall B3 hb7 (by omega); obtain ⟨o7, c7, rfl⟩ := NEW7.slice; clear hg7 hb7 OW QY Xc Xf Xl Yc Yf Yl Rc Rf Rl e0 e1 e2 e3 e4 e5 e6 e7 e8; obtain ⟨Xc, Xf, Xl⟩ := id X; obtain ⟨Yc, Yf, Yl⟩ := id Y; obtain ⟨Rc, Rf, Rl⟩ := id R)
        go_roundw
        case rel => exact ⟨k + 1, false, o7, n + 1, c7, hlt2, rfl, rfl, by go_num, _, ⟨X, Y, R⟩, NEW7, B7, E.out, by have := B7.size; omega⟩
        case measure => simp [intOf]; omega
  · have t5 : decide ((k : Int) < (r.length : Int)) = false := decF (by omega)
    have ⟨Xc, Xf, Xl⟩ := X
    have ⟨Yc, Yf, Yl⟩ := Y
    have ⟨Rc, Rf, Rl⟩ := R
    go_upto_if 45 with fail
    go_cut [5] (fun l wx => WithCut w x r l wx)
    case first =>
     cases pb with
     | true =>
       go_wp2_with fail
       go_meet
       exact ⟨o, n, c', rfl, R, by rw [← EQ.out.done (by omega)]; exact OW, B1, q0⟩
     | false =>
       have QY : IvQ wr (fun b => 0 ≤ b ∧ some b ≠ (Value.slice o n c').ownBlock) x [.int .i64 x.lo.maj, .int .i64 x.lo.min, .int .i64 x.lo.pat, .slice p x.lo.pre.length pc, .int .i64 x.hi.maj, .int .i64 x.hi.min, .int .i64 x.hi.pat, .slice q x.hi.pre.length qc, .bool x.un] := ⟨p, q, pc, qc, rfl, HL.out.bl B1, HH.out.bl B1, SlQ.off OW rfl (by omega) QP.out, SlQ.off OW rfl (by omega) QQ.out⟩
       go_wp2_with (at_builtin; go_loud (refine ap1r (by rfl) (by rfl) (by rfl) OW (c := 1) (C := [.int .i64 x.lo.maj, .int .i64 x.lo.min, .int .i64 x.lo.pat, .slice p x.lo.pre.length pc, .int .i64 x.hi.maj, .int .i64 x.hi.min, .int .i64 x.hi.pat, .slice q x.hi.pre.length qc, .bool x.un]) (by rfl) QY (by omega) (by omega) ?_); intro v6 w6 NEW hg6 hb6 hs6; replace R := R.below hb6 (by omega); replace B1 : Below w.heap.size w w6 := bcall B1 hb6 (by omega); obtain ⟨o6, c6, rfl⟩ := NEW.slice; clear hg6 hb6 OW QY X Y Xc Xf Xl Yc Yf Yl Rc Rf Rl)
       go_meet
       exact ⟨o6, n + 1, c6, rfl, R, by rw [← EQ.out.last (by omega)]; exact NEW, B1, by omega⟩
    case rest =>
     clear X Y R OW B1 EQ hnk q0 t5 hlt2 hk Xc Xf Xl Yc Yf Yl Rc Rf Rl
     obtain ⟨o, n, c', rfl, R, OW, BX, qx⟩ := hcut
     have SRT := Hd (Pl.insI_sorted (x := x) CAN.out.sorted)
     have OKS := Hd (Pl.insI_ok OX.out CAN.out.ok)
     have hil := Pl.insI_len x r
     have hnn := OW.len
     have FIN : Hid ((Pl.insI x r).foldl Pl.addL [] = Pl.withR r x) := Hd rfl
     obtain ⟨bb, off, rfl, hltb, hat⟩ := OW.at (by omega)
     replace hat := Hd hat
     replace OW := Hd OW
     generalize Pl.insI x r = s at *
     subst hnn
     go_wp2_with fail
     have O := (Bk.new (r := wc.heap.size) (cs := [.slice none 0 0]) wc 33 rfl)
     go_loopw [9] (fun i wr => ∃ k : Nat, k ≤ s.length ∧ i = .int .i64 k ∧ WithInv2 w wc s k wr) (fun i _ => s.length - (intOf i).toNat)
     case atStart => exact ⟨0, Nat.zero_le _, rfl, none, 0, 0, [], R.alloc _, O, ROwn.nil _ _ _, by go_grown, rfl, nle, by simp⟩
     case round =>
      obtain ⟨k, hk, rfl, hinv⟩ := hrel
      clear R O
      obtain ⟨o, n, c2', out, R, O, OUT, B1, EQ, hnk, q0⟩ := hinv
      have B2 : Below w.heap.size w wr := bcall BX B1 (by omega)
      have CN := Hd (Pl.fold_can OKS.out SRT.out k)
      rw [EQ] at CN
      replace EQ := Hd EQ
      have ⟨Rc, Rf, Rl⟩ := R
      have ⟨Oc, Of, Ol⟩ := O
      by_cases hlt2 : k < s.length
      · have t5 : decide ((k : Int) < (s.length : Int)) = true := decT (by omega)
        obtain ⟨a1, b1, c1, d1, I0, QA, QB⟩ := hat.out k hlt2
        have HI := Hd I0
        replace QA := Hd (QA.mono fun b h => h.2)
        replace QB := Hd (QB.mono fun b h => h.2)
        have OY := Hd (OKS.out _ (List.getElem_mem hlt2))
        have ST := Hd (Pl.fold_succ hlt2)
        rw [EQ.out] at ST
        clear I0
        generalize s[k] = y at *
        obtain ⟨e0, e1, e2, e3, e4, e5, e6, e7, e8, VA, VB⟩ := HI.out.below B1 hltb nle
        clear VA VB
        by_cases n0 : n = 0
        · have t1 : decide ((n : Int) > 0) = false := decF (by omega)
          have t1' : decide ((0 : Int) < (n : Int)) = false := decF (by omega)
          have t1'' : decide (0 < n) = false := decF (by omega)
          have hout : out = [] := List.length_eq_zero_iff.1 (OUT.len.trans n0)
          have E := Hd (show (s.take (k + 1)).foldl Pl.addL [] = out ++ [y] by rw [ST.out, hout]; rfl)
          clear ST hout
          subst n0
          go_wp2_with fail
          replace OUT := Hd OUT
          clear e0 e1 e2 e3 e4 e5 e6 e7 e8
          refine wp_region_ord [0, 1, 2, 3, 4, 5, 6, 7, 8, 9, 10, 11, 12, 13, 14] (by kernel_rfl) (by kernel_rfl) ?_
          have B4 : Below wc.heap.size wc wr.drew := by go_grown
          have q4 : wr.heap.size ≤ wr.drew.heap.size := by simp only [World.size_drew]; omega
          replace OUT := Hd (OUT.out.bl (Below.refl _ _).drew)
          replace R := R.drew
          replace O := O.drew
          clear Rc Rf Rl Oc Of Ol
          generalize wr.drew = w4 at *
          have s4 : wc.heap.size ≤ w4.heap.size := B4.size
          have ⟨Rc, Rf, Rl⟩ := R
          have ⟨Oc, Of, Ol⟩ := O
          obtain ⟨e0, e1, e2, e3, e4, e5, e6, e7, e8, VA, VB⟩ := HI.out.below B4 hltb nle
          clear VA VB
          repeat (first | (refine wpI_rd rfl rfl ?_; go_big_quiet_step (fail); refine wpQuiet_nil ?_) | (refine wpI_skip rfl rfl ?_; try simp only [pts]))
          try simp only [pts]
          refine wpI_nil ?_
          try simp only [pts]
          replace OUT := OUT.out
          go_wp2_with fail
          replace OUT := Hd OUT
          clear e0 e1 e2 e3 e4 e5 e6 e7 e8
          refine wp_region_ord [0, 1, 2, 3, 4, 5, 6, 7, 8, 9] (by kernel_rfl) (by kernel_rfl) ?_
          have B5 : Below wc.heap.size wc w4.drew := by go_grown
          have q5 : w4.heap.size ≤ w4.drew.heap.size := by simp only [World.size_drew]; omega
          replace OUT := Hd (OUT.out.bl (Below.refl _ _).drew)
          replace R := R.drew
          replace O := O.drew
          clear Rc Rf Rl Oc Of Ol
          generalize w4.drew = w5 at *
          have s5 : wc.heap.size ≤ w5.heap.size := B5.size
          have ⟨Rc, Rf, Rl⟩ := R
          have ⟨Oc, Of, Ol⟩ := O
          obtain ⟨e0, e1, e2, e3, e4, e5, e6, e7, e8, VA, VB⟩ := HI.out.below B5 hltb nle
          clear VA VB
          replace OUT := OUT.out
          repeat (first | (refine wpI_rd rfl rfl ?_; go_big_quiet_step (fail); refine wpQuiet_nil ?_) | (refine wpI_skip rfl rfl ?_; try simp only [pts]))
          try simp only [pts]
          have QY : IvQ w5 (fun b => 0 ≤ b ∧ some b ≠ (Value.slice o 0 c2').ownBlock) y [.int .i64 y.lo.maj, .int .i64 y.lo.min, .int .i64 y.lo.pat, .slice a1 y.lo.pre.length c1, .int .i64 y.hi.maj, .int .i64 y.hi.min, .int .i64 y.hi.pat, .slice b1 y.hi.pre.length d1, .bool y.un] := ⟨a1, b1, c1, d1, rfl, (HI.out.below B5 hltb nle).lo, (HI.out.below B5 hltb nle).hi, SlQ.off OUT rfl (Nat.le_succ _) QA.out, SlQ.off OUT rfl (Nat.le_succ _) QB.out⟩
          have OA := OUT.alloc (.cells #[.int .i64 y.lo.maj, .int .i64 y.lo.min, .int .i64 y.lo.pat, .slice a1 y.lo.pre.length c1, .int .i64 y.hi.maj, .int .i64 y.hi.min, .int .i64 y.hi.pat, .slice b1 y.hi.pre.length d1, .bool y.un] 101)
          obtain ⟨cs0, own0, el0⟩ := OA.mem
          have QYA := QY.below (w' := (w5.alloc (.cells #[.int .i64 y.lo.maj, .int .i64 y.lo.min, .int .i64 y.lo.pat, .slice a1 y.lo.pre.length c1, .int .i64 y.hi.maj, .int .i64 y.hi.min, .int .i64 y.hi.pat, .slice b1 y.hi.pre.length d1, .bool y.un] 101))) ((Below.refl w5.heap.size w5).alloc nle _) nle
          refine wpI_add rfl rfl rfl (u := .slice (some ⟨w5.heap.size, 0, none⟩) 1 1) (w' := (w5.alloc (.cells #[.int .i64 y.lo.maj, .int .i64 y.lo.min, .int .i64 y.lo.pat, .slice a1 y.lo.pre.length c1, .int .i64 y.hi.maj, .int .i64 y.hi.min, .int .i64 y.hi.pat, .slice b1 y.hi.pre.length d1, .bool y.un] 101))) (by simp [go_sem]) (Below.ext ((Below.refl _ _).alloc nle _)) ?_
          try simp only [pts]
          refine wpI_apx rfl rfl rfl Tryz.tIvl rfl own0 (m := 1) (news := [.int .i64 y.lo.maj, .int .i64 y.lo.min, .int .i64 y.lo.pat, .slice a1 y.lo.pre.length c1, .int .i64 y.hi.maj, .int .i64 y.hi.min, .int .i64 y.hi.pat, .slice b1 y.hi.pre.length d1, .bool y.un]) (Src.ofSlice _ Tryz.tIvl.ht _ _ _ _ QY.is.len (fun j u hu => by rw [addr_add]; simp [hu]) QY.is.one) (by omega) (by simp; omega) ?_
          intro v9 w9 own9 hg9 hv9
          have NEW := ROwn.app OA.len el0 QYA own9 hg9 hv9
          have hb9 : Below (wc.heap.size + 1) w5 w9 := OUT.grownB (v := Value.slice o 0 c2') (grownBy_trans_alloc hg9) (by omega)
          have B9 : Below wc.heap.size wc w9 := bcall B5 hb9 (by omega)
          have q9 : wc.heap.size + 1 ≤ w9.heap.size := by have := hb9.size; omega
          replace R := R.below hb9 (by omega)
          replace O := O.below hb9 (by omega)
          obtain ⟨o9, c9, rfl⟩ := NEW.slice
          clear hg9 hv9 own9 own0 el0 OA QYA OUT hb9 QY Rc Rf Rl Oc Of Ol e0 e1 e2 e3 e4 e5 e6 e7 e8
          have ⟨Oc, Of, Ol⟩ := O
          try simp only [pts]
          repeat (first | (refine wpI_rd rfl rfl ?_; go_big_quiet_step (fail); refine wpQuiet_nil ?_) | (refine wpI_skip rfl rfl ?_; try simp only [pts]))
          try simp only [pts]
          refine wpI_st rfl rfl rfl (w' := w9.setCell ⟨wc.heap.size, 0, none⟩ (.slice o9 (0 + 1) c9)) (by simp [go_sem, Oc, Of]) ?_
          try simp only [pts]
          refine wpI_nil ?_
          try simp only [pts]
          go_wp2_with fail
          go_roundw
          case rel => exact ⟨k + 1, hlt2, by go_num, o9, 0 + 1, c9, _, R.fr wc.heap.size 0 (by omega) _, O.st 0 _, NEW.far (by simp) (O.c 0) (by nofun) _, by go_grown, E.out, by omega, by simp; omega⟩
          case measure => simp [intOf]; omega
        · have t1 : decide ((n : Int) > 0) = true := decT (by omega)
          have t1' : decide ((0 : Int) < (n : Int)) = true := decT (by omega)
          have t1'' : decide (0 < n) = true := decT (by omega)
          obtain ⟨g, q, l, a2, b2, c2, d2, rfl, hout, HL2, QL, QH, hBg, hglt⟩ := OUT.last (by omega)
          obtain ⟨i1, i2, i3, i4, i5⟩ := idx_last (n := n) (by omega) (by omega)
          have OKL := Hd (CN.out.ok l (by rw [hout]; simp))
          replace QL := Hd QL
          replace QH := Hd QH
          subst hout
          replace HL2 := Hd HL2
          have CT := Hd (fun (W : World) (g1 : VIn W l.lo a2 c2) (g2 : VIn W l.hi b2 d2) (g3 : VIn W y.lo a1 c1) (g4 : VIn W y.hi b1 d1) => touching_any l y a2 b2 a1 b1 c2 d2 c1 d1 W g1 g2 g3 g4 OKL.out OY.out)
          have CJ := Hd (fun (Q : Nat → Prop) (W : World) (g1 : VIn W l.lo a2 c2) (g2 : VIn W l.hi b2 d2) (g3 : VIn W y.lo a1 c1) (g4 : VIn W y.hi b1 d1) => joined_any Q l y a2 b2 a1 b1 c2 d2 c1 d1 W g1 g2 g3 g4 OKL.out OY.out)
          have ET := Hd (fun e => ST.out.trans (Pl.addL_touch (q := q) (l := l) (x := y) e))
          have EA := Hd (fun e => ST.out.trans (Pl.addL_apart (q := q) (l := l) (x := y) e))
          obtain ⟨T, hT⟩ : ∃ T, Pl.touchB l y = T := ⟨_, rfl⟩
          rw [hT] at CT ET EA
          clear ST hT
          go_wp2_with fail
          replace OUT := Hd OUT
          clear e0 e1 e2 e3 e4 e5 e6 e7 e8
          refine wp_region_ord [0, 1, 2, 3, 4, 5, 6, 7, 8, 9, 10, 11, 12, 13, 14] (by kernel_rfl) (by kernel_rfl) ?_
          have B4 : Below wc.heap.size wc wr.drew := by go_grown
          have q4 : wr.heap.size ≤ wr.drew.heap.size := by simp only [World.size_drew]; omega
          replace OUT := Hd (OUT.out.bl (Below.refl _ _).drew)
          replace R := R.drew
          replace O := O.drew
          replace HL2 := Hd (HL2.out.below (B := wr.heap.size) (w' := wr.drew) (by go_grown) hglt nle)
          replace hglt := (show g < (wr.drew).heap.size from hglt)
          clear Rc Rf Rl Oc Of Ol
          generalize wr.drew = w4 at *
          have s4 : wc.heap.size ≤ w4.heap.size := B4.size
          have ⟨Rc, Rf, Rl⟩ := R
          have ⟨Oc, Of, Ol⟩ := O
          obtain ⟨e0, e1, e2, e3, e4, e5, e6, e7, e8, VA, VB⟩ := HI.out.below B4 hltb nle
          clear VA VB
          obtain ⟨l0, l1, l2, l3, l4, l5, l6, l7, l8, LA, LB⟩ := HL2.out
          replace LA := Hd LA
          replace LB := Hd LB
          repeat (first | (refine wpI_rd rfl rfl ?_; go_big_quiet_step (fail); refine wpQuiet_nil ?_) | (refine wpI_skip rfl rfl ?_; try simp only [pts]))
          try simp only [pts]
          refine wpI_call (f := 117) rfl rfl rfl (by simp [go_sem]; rfl) ?_
          refine (CT.out _ LA.out LB.out (HI.out.below B4 hltb nle).lo (HI.out.below B4 hltb nle).hi).mono ?_
          rintro e w5 ⟨rfl, hb⟩
          replace HL2 := Hd (HL2.out.below hb hglt nle)
          replace hglt := Nat.lt_of_lt_of_le hglt hb.size
          refine ⟨_, rfl, hb, ?_⟩
          skip
          have B5 : Below wc.heap.size wc w5 := bcl hb
          have q5 : w4.heap.size ≤ w5.heap.size := qle hb
          replace OUT := Hd (OUT.out.bl hb)
          replace R := R.bw hb
          replace O := O.bw hb
          clear hb
          have s5 : wc.heap.size ≤ w5.heap.size := B5.size
          clear Rc Rf Rl Oc Of Ol
          have ⟨Rc, Rf, Rl⟩ := R
          have ⟨Oc, Of, Ol⟩ := O
          try simp only [pts]
          clear CT l0 l1 l2 l3 l4 l5 l6 l7 l8 LA LB e0 e1 e2 e3 e4 e5 e6 e7 e8
          repeat (first | (refine wpI_rd rfl rfl ?_; go_big_quiet_step (fail); refine wpQuiet_nil ?_) | (refine wpI_skip rfl rfl ?_; try simp only [pts]))
          try simp only [pts]
          refine wpI_nil ?_
          try simp only [pts]
          cases T with
          | false =>
            have E := Hd (EA.out rfl)
            clear EA ET CJ HL2
            obtain ⟨e0, e1, e2, e3, e4, e5, e6, e7, e8, VA, VB⟩ := HI.out.below B5 hltb nle
            clear VA VB
            go_wp2_with fail
            replace OUT := OUT.out
            replace OUT := Hd OUT
            clear e0 e1 e2 e3 e4 e5 e6 e7 e8
            refine wp_region_ord [0, 1, 2, 3, 4, 5, 6, 7, 8, 9] (by kernel_rfl) (by kernel_rfl) ?_
            have B6 : Below wc.heap.size wc w5.drew := by go_grown
            have q6 : w5.heap.size ≤ w5.drew.heap.size := by simp only [World.size_drew]; omega
            replace OUT := Hd (OUT.out.bl (Below.refl _ _).drew)
            replace R := R.drew
            replace O := O.drew
            clear Rc Rf Rl Oc Of Ol
            generalize w5.drew = w6 at *
            have s6 : wc.heap.size ≤ w6.heap.size := B6.size
            have ⟨Rc, Rf, Rl⟩ := R
            have ⟨Oc, Of, Ol⟩ := O
            obtain ⟨e0, e1, e2, e3, e4, e5, e6, e7, e8, VA, VB⟩ := HI.out.below B6 hltb nle
            clear VA VB
            replace OUT := OUT.out
            repeat (first | (refine wpI_rd rfl rfl ?_; go_big_quiet_step (fail); refine wpQuiet_nil ?_) | (refine wpI_skip rfl rfl ?_; try simp only [pts]))
            try simp only [pts]
            have QY : IvQ w6 (fun b => 0 ≤ b ∧ some b ≠ (Value.slice (some ⟨g, 0, none⟩) n c2').ownBlock) y [.int .i64 y.lo.maj, .int .i64 y.lo.min, .int .i64 y.lo.pat, .slice a1 y.lo.pre.length c1, .int .i64 y.hi.maj, .int .i64 y.hi.min, .int .i64 y.hi.pat, .slice b1 y.hi.pre.length d1, .bool y.un] := ⟨a1, b1, c1, d1, rfl, (HI.out.below B6 hltb nle).lo, (HI.out.below B6 hltb nle).hi, SlQ.off OUT rfl (Nat.le_succ _) QA.out, SlQ.off OUT rfl (Nat.le_succ _) QB.out⟩
            have OA := OUT.alloc (.cells #[.int .i64 y.lo.maj, .int .i64 y.lo.min, .int .i64 y.lo.pat, .slice a1 y.lo.pre.length c1, .int .i64 y.hi.maj, .int .i64 y.hi.min, .int .i64 y.hi.pat, .slice b1 y.hi.pre.length d1, .bool y.un] 101)
            obtain ⟨cs0, own0, el0⟩ := OA.mem
            have QYA := QY.below (w' := (w6.alloc (.cells #[.int .i64 y.lo.maj, .int .i64 y.lo.min, .int .i64 y.lo.pat, .slice a1 y.lo.pre.length c1, .int .i64 y.hi.maj, .int .i64 y.hi.min, .int .i64 y.hi.pat, .slice b1 y.hi.pre.length d1, .bool y.un] 101))) ((Below.refl w6.heap.size w6).alloc nle _) nle
            refine wpI_add rfl rfl rfl (u := .slice (some ⟨w6.heap.size, 0, none⟩) 1 1) (w' := (w6.alloc (.cells #[.int .i64 y.lo.maj, .int .i64 y.lo.min, .int .i64 y.lo.pat, .slice a1 y.lo.pre.length c1, .int .i64 y.hi.maj, .int .i64 y.hi.min, .int .i64 y.hi.pat, .slice b1 y.hi.pre.length d1, .bool y.un] 101))) (by simp [go_sem]) (Below.ext ((Below.refl _ _).alloc nle _)) ?_
            try simp only [pts]
            refine wpI_apx rfl rfl rfl Tryz.tIvl rfl own0 (m := 1) (news := [.int .i64 y.lo.maj, .int .i64 y.lo.min, .int .i64 y.lo.pat, .slice a1 y.lo.pre.length c1, .int .i64 y.hi.maj, .int .i64 y.hi.min, .int .i64 y.hi.pat, .slice b1 y.hi.pre.length d1, .bool y.un]) (Src.ofSlice _ Tryz.tIvl.ht _ _ _ _ QY.is.len (fun j u hu => by rw [addr_add]; simp [hu]) QY.is.one) (by omega) (by simp; omega) ?_
            intro v9 w9 own9 hg9 hv9
            have NEW := ROwn.app OA.len el0 QYA own9 hg9 hv9
            have hb9 : Below (wc.heap.size + 1) w6 w9 := OUT.grownB (v := Value.slice (some ⟨g, 0, none⟩) n c2') (grownBy_trans_alloc hg9) (by omega)
            have B9 : Below wc.heap.size wc w9 := bcall B6 hb9 (by omega)
            have q9 : wc.heap.size + 1 ≤ w9.heap.size := by have := hb9.size; omega
            replace R := R.below hb9 (by omega)
            replace O := O.below hb9 (by omega)
            obtain ⟨o9, c9, rfl⟩ := NEW.slice
            clear hg9 hv9 own9 own0 el0 OA QYA OUT hb9 QY Rc Rf Rl Oc Of Ol e0 e1 e2 e3 e4 e5 e6 e7 e8
            have ⟨Oc, Of, Ol⟩ := O
            try simp only [pts]
            repeat (first | (refine wpI_rd rfl rfl ?_; go_big_quiet_step (fail); refine wpQuiet_nil ?_) | (refine wpI_skip rfl rfl ?_; try simp only [pts]))
            try simp only [pts]
            refine wpI_st rfl rfl rfl (w' := w9.setCell ⟨wc.heap.size, 0, none⟩ (.slice o9 (n + 1) c9)) (by simp [go_sem, Oc, Of]) ?_
            try simp only [pts]
            refine wpI_nil ?_
            try simp only [pts]
            go_wp2_with fail
            go_roundw
            case rel => exact ⟨k + 1, hlt2, by go_num, o9, n + 1, c9, _, R.fr wc.heap.size 0 (by omega) _, O.st 0 _, NEW.far (by simp) (O.c 0) (by nofun) _, by go_grown, E.out, by omega, by simp; omega⟩
            case measure => simp [intOf]; omega
          | true =>
            have E := Hd (ET.out rfl)
            clear EA ET
            go_wp2_with fail
            refine wp_region_ord [0, 1, 2, 3, 4, 5, 6, 7, 8, 9, 10, 11, 12, 13, 14, 15, 16] (by kernel_rfl) (by kernel_rfl) ?_
            have B6 : Below wc.heap.size wc w5.drew := by go_grown
            have q6 : w5.heap.size ≤ w5.drew.heap.size := by simp only [World.size_drew]; omega
            replace OUT := Hd (OUT.out.bl (Below.refl _ _).drew)
            replace R := R.drew
            replace O := O.drew
            replace HL2 := Hd (HL2.out.below (B := w5.heap.size) (w' := w5.drew) (by go_grown) hglt nle)
            replace hglt := (show g < (w5.drew).heap.size from hglt)
            clear Rc Rf Rl Oc Of Ol
            generalize w5.drew = w6 at *
            have s6 : wc.heap.size ≤ w6.heap.size := B6.size
            have ⟨Rc, Rf, Rl⟩ := R
            have ⟨Oc, Of, Ol⟩ := O
            obtain ⟨e0, e1, e2, e3, e4, e5, e6, e7, e8, VA, VB⟩ := HI.out.below B6 hltb nle
            clear VA VB
            obtain ⟨l0, l1, l2, l3, l4, l5, l6, l7, l8, LA, LB⟩ := HL2.out
            replace LA := Hd LA
            replace LB := Hd LB
            repeat (first | (refine wpI_rd rfl rfl ?_; go_big_quiet_step (fail); refine wpQuiet_nil ?_) | (refine wpI_skip rfl rfl ?_; try simp only [pts]))
            try simp only [pts]
            refine wpI_call (f := 118) rfl rfl rfl (by simp [go_sem]; rfl) ?_
            refine (CJ.out (fun b => 0 ≤ b ∧ some b ≠ some g) _ LA.out LB.out (HI.out.below B6 hltb nle).lo (HI.out.below B6 hltb nle).hi QH.out ((SlQ.off OUT.out rfl (Nat.le_succ _) QB.out).mono fun b h => h)).mono ?_
            rintro e w7 ⟨b', d', rfl, VJ, QJ, hb⟩
            replace VJ := Hd (VJ.bl hb)
            replace QJ := Hd QJ
            replace LA := Hd (LA.out.bl hb)
            replace HL2 := Hd (HL2.out.below hb hglt nle)
            replace hglt := Nat.lt_of_lt_of_le hglt hb.size
            refine ⟨_, rfl, hb, ?_⟩
            skip
            have B7 : Below wc.heap.size wc w7 := bcl hb
            have q7 : w6.heap.size ≤ w7.heap.size := qle hb
            replace OUT := Hd (OUT.out.bl hb)
            replace R := R.bw hb
            replace O := O.bw hb
            clear hb
            have s7 : wc.heap.size ≤ w7.heap.size := B7.size
            clear Rc Rf Rl Oc Of Ol
            have ⟨Rc, Rf, Rl⟩ := R
            have ⟨Oc, Of, Ol⟩ := O
            try simp only [pts]
            clear CJ l0 l1 l2 l3 l4 l5 l6 l7 l8 LB e0 e1 e2 e3 e4 e5 e6 e7 e8
            obtain ⟨l0, l1, l2, l3, l4, l5, l6, l7, l8, -, -⟩ := HL2.out
            have FZ := own_frozen OUT.out
            repeat (first | (refine wpI_rd rfl rfl ?_; go_big_quiet_step (fail); refine wpQuiet_nil ?_) | (refine wpI_skip rfl rfl ?_; try simp only [pts]))
            try simp only [pts]
            have EL := Pl.joinI_lo l y
            generalize Pl.joinI l y = j at *
            have QJY : IvQ w7 (fun b => 0 ≤ b ∧ some b ≠ some g) j [.int .i64 j.lo.maj, .int .i64 j.lo.min, .int .i64 j.lo.pat, .slice a2 j.lo.pre.length c2, .int .i64 j.hi.maj, .int .i64 j.hi.min, .int .i64 j.hi.pat, .slice b' j.hi.pre.length d', .bool j.un] := ⟨a2, b', c2, d', rfl, by rw [EL]; exact LA.out, VJ.out, by rw [EL]; exact QL.out, QJ.out⟩
            have NEW := ROwn.setIv OUT.out QJY
            refine wpI_st rfl rfl rfl (w' := setCs w7 g ((n - 1) * 9) [.int .i64 j.lo.maj, .int .i64 j.lo.min, .int .i64 j.lo.pat, .slice a2 j.lo.pre.length c2, .int .i64 j.hi.maj, .int .i64 j.hi.min, .int .i64 j.hi.pat, .slice b' j.hi.pre.length d', .bool j.un]) (by simp [go_sem, setCs, l0, l1, l2, l3, l4, l5, l6, l7, l8, FZ]) ?_
            try simp only [pts]
            refine wpI_nil ?_
            try simp only [pts]
            replace O := O.setCs (g := g) (by omega) [.int .i64 j.lo.maj, .int .i64 j.lo.min, .int .i64 j.lo.pat, .slice a2 j.lo.pre.length c2, .int .i64 j.hi.maj, .int .i64 j.hi.min, .int .i64 j.hi.pat, .slice b' j.hi.pre.length d', .bool j.un] _ ((n - 1) * 9)
            replace R := R.setCs (g := g) (by omega) [.int .i64 j.lo.maj, .int .i64 j.lo.min, .int .i64 j.lo.pat, .slice a2 j.lo.pre.length c2, .int .i64 j.hi.maj, .int .i64 j.hi.min, .int .i64 j.hi.pat, .slice b' j.hi.pre.length d', .bool j.un] _ ((n - 1) * 9)
            have B9 : Below wc.heap.size wc (setCs w7 g ((n - 1) * 9) [.int .i64 j.lo.maj, .int .i64 j.lo.min, .int .i64 j.lo.pat, .slice a2 j.lo.pre.length c2, .int .i64 j.hi.maj, .int .i64 j.hi.min, .int .i64 j.hi.pat, .slice b' j.hi.pre.length d', .bool j.un]) := Below.setCs (by omega) _ _ _ B7
            have q9 : wc.heap.size + 1 ≤ (setCs w7 g ((n - 1) * 9) [.int .i64 j.lo.maj, .int .i64 j.lo.min, .int .i64 j.lo.pat, .slice a2 j.lo.pre.length c2, .int .i64 j.hi.maj, .int .i64 j.hi.min, .int .i64 j.hi.pat, .slice b' j.hi.pre.length d', .bool j.un]).heap.size := by rw [size_setCs]; omega
            clear l0 l1 l2 l3 l4 l5 l6 l7 l8 FZ OUT QJY LA VJ QJ HL2 Rc Rf Rl Oc Of Ol
            generalize setCs w7 g ((n - 1) * 9) [.int .i64 j.lo.maj, .int .i64 j.lo.min, .int .i64 j.lo.pat, .slice a2 j.lo.pre.length c2, .int .i64 j.hi.maj, .int .i64 j.hi.min, .int .i64 j.hi.pat, .slice b' j.hi.pre.length d', .bool j.un] = w9 at *
            go_wp2_with fail
            go_roundw
            case rel => exact ⟨k + 1, hlt2, by go_num, _, n, c2', _, R, O, NEW, B9, E.out, by omega, q9⟩
            case measure => simp [intOf]; omega
      · have t5 : decide ((k : Int) < (s.length : Int)) = false := decF (by omega)
        go_wp2_with fail
        have RN := R.st 0 (.slice o n c2')
        obtain ⟨RNc, RNf, RNl⟩ := RN
        have hfin : out = Pl.withR r x := by rw [← FIN.out, ← EQ.out, List.take_of_length_le (by omega)]
        have hol := OUT.len
        subst hfin
        have FR := (OUT.far (p := ⟨w.heap.size + 1 + 1, 0, none⟩) (by dsimp only; omega) (R.c 0) (by nofun) (.slice o n c2')).rin
        refine bodyPost_ret (v := .agg #[.slice o n c2']) (by simp [results, Tryz.results75, go_sem, RNc]) rfl ⟨o, c2', by rw [hol], FR, by go_grown⟩
end Go.Proofs.YtolfgcoalihmgaaGreatDoor
