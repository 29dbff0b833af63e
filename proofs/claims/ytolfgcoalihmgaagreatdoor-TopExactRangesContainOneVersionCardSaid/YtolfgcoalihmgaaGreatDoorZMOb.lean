/- Texts joined. -/
import Derived.Test.YtolfgcoalihmgaaGreatDoorZDg
import Derived.Test.YtolfgcoalihmgaaGreatDoorZMKo
namespace Go.Proofs.YtolfgcoalihmgaaGreatDoor
section
open Go.RowKit
theorem field_rng (o : Option Addr) (n c : Nat) (w : World) : (Instr.field 33 (.agg #[.slice o n c]) 0).run Tryz.prog w = .ok (.slice o n c) w := by kernel_rfl
theorem Bk.grown {w w' : World} {r : Nat} {cs : List Value} {row : Option Nat} (h : Bk w r cs) (hg : w.grownBy w' row) (hne : ∀ g, row = some g → g ≠ r) : Bk w' r cs :=
 have hb : w'.heap[r]? = w.heap[r]? := hg.block r h.lt (fun e => hne r e.symm rfl)
 ⟨fun o => by rw [World.cell?_of_block hb]; exact h.a o, fun o => by rw [World.frozen?_of_block hb]; exact h.f o, Nat.lt_of_lt_of_le h.lt hg.size⟩
structure Kept (lo hi : Nat) (w w' : World) : Prop where
 size : w.heap.size ≤ w'.heap.size
 block : ∀ b, lo ≤ b → b < hi → w'.heap[b]? = w.heap[b]?
theorem Kept.refl (lo hi : Nat) (w : World) : Kept lo hi w w := ⟨nle, fun _ _ _ => rfl⟩
theorem Kept.below {lo hi : Nat} {w w' w2 : World} (h : Kept lo hi w w') {B : Nat} (hb : Below B w' w2) (hB : hi ≤ B) : Kept lo hi w w2 := ⟨Nat.le_trans h.size hb.size, fun b h1 h2 => (hb.block b (by omega)).trans (h.block b h1 h2)⟩
theorem Kept.bl {lo hi : Nat} {w w' w2 : World} (h : Kept lo hi w w') (hb : Below hi w' w2) : Kept lo hi w w2 := h.below hb nle
theorem Kept.set {lo hi : Nat} {w w' : World} (h : Kept lo hi w w') {p : Addr} (hp : p.block < lo) (v : Value) : Kept lo hi w (w'.setCell p v) := ⟨by rw [World.size_setCell]; exact h.size, fun b h1 h2 => (Below.heap_setCell _ _ _ _ (by omega)).trans (h.block b h1 h2)⟩
theorem VIn.kept {w w' : World} {v : Pl.Ver} {a : Option Addr} {c lo hi : Nat} (h : VIn w v a c) (hk : Kept lo hi w w') (hq : SlQ (fun b => lo ≤ b) a v.pre.length) (hs : w.heap.size ≤ hi) : VIn w' v a c := by
 refine ⟨⟨h.sl.hl, h.sl.hcap, h.sl.hmax, ?_⟩, h.ss⟩
 rcases h.sl.mem with h0 | ⟨b, off, rfl, hlt, hc⟩
 · exact .inl h0
 · rcases hq with h0 | ⟨b2, off2, e, hb⟩
   · left
     rw [List.length_eq_zero_iff.1 h0]; rfl
   · cases e
     refine .inr ⟨b, off, rfl, Nat.lt_of_lt_of_le hlt hk.size, fun j u hu => ?_⟩
     rw [World.cell?_of_block (hk.block b hb (by omega))]
     exact hc j u hu
theorem ROwn.kept {w w' : World} {B : Nat} {r : List Pl.Ivl} {v : Value} {n hi : Nat} (h : ROwn w B B r v n) (hk : Kept B hi w w') (hs : w.heap.size ≤ hi) : ROwn w' B B r v n := by
 obtain ⟨cs, h1, h2⟩ := h.mem
 refine ⟨⟨cs, ⟨h1.1, ?_⟩, h2.mono fun x c ⟨a, b, c1, d, e, g1, g2, g3, g4⟩ => ⟨a, b, c1, d, e, g1.kept hk (g3.mono fun _ h => h.1) hs, g2.kept hk (g4.mono fun _ h => h.1) hs, g3, g4⟩⟩, h.len⟩
 rcases h1.2 with hn | ⟨g, cap, cur, rfl, hbg, hgg, rest⟩
 · exact .inl hn
 · have hlt := (Array.getElem?_eq_some_iff.1 hgg).1
   exact .inr ⟨g, cap, cur, rfl, hbg, (hk.block g hbg (by omega)).trans hgg, rest⟩
theorem ROwn.at {w : World} {B B0 : Nat} {r : List Pl.Ivl} {a : Option Addr} {n c : Nat} (h : ROwn w B B0 r (.slice a n c) n) (h0 : 0 < n) :
 ∃ b off, a = some ⟨b, off, none⟩ ∧ b < w.heap.size ∧ ∀ k (hk : k < r.length), ∃ a1 b1 c1 d1, IvAt w b (off + k * 9) r[k] a1 b1 c1 d1 ∧ SlQ (fun b => B0 ≤ b ∧ b < w.heap.size) a1 r[k].lo.pre.length ∧ SlQ (fun b => B0 ≤ b ∧ b < w.heap.size) b1 r[k].hi.pre.length := by
 obtain ⟨cs, h1, h2⟩ := h.mem
 have hs := Sl.own h1
 rcases hs.mem with rfl | ⟨b, off, rfl, hlt, hc⟩
 · have e1 := h2.len
   have e2 := h.len
   simp at e1
   omega
 · refine ⟨b, off, rfl, hlt, fun k hk => ?_⟩
   obtain ⟨es, ⟨a1, b1, c1, d1, rfl, g1, g2, g3, g4⟩, g5⟩ := h2.cells hc k hk
   refine ⟨a1, b1, c1, d1, ⟨g5 0 _ rfl, g5 1 _ rfl, g5 2 _ rfl, g5 3 _ rfl, g5 4 _ rfl, g5 5 _ rfl, g5 6 _ rfl, g5 7 _ rfl, g5 8 _ rfl, g1, g2⟩, (g1.with g3).mono fun _ h => ⟨h.1.1, h.2⟩, (g2.with g4).mono fun _ h => ⟨h.1.1, h.2⟩⟩
theorem own_lt {w : World} {B B0 : Nat} {r : List Pl.Ivl} {v : Value} {n : Nat} (h : ROwn w B B0 r v n) : ∀ g, v.ownBlock = some g → B ≤ g ∧ g < w.heap.size := fun g hg => by
 obtain ⟨cs, h1, _⟩ := h.mem
 exact h1.lt g hg
theorem SlQ.off {w : World} {B B0 D : Nat} {r : List Pl.Ivl} {v : Value} {n : Nat} (h : ROwn w B B0 r v n) (h0 : B0 = 0) (hD : D ≤ B) {a : Option Addr} {m : Nat} (hq : SlQ (fun b => b < D) a m) : SlQ (fun b => B0 ≤ b ∧ some b ≠ v.ownBlock) a m :=
 hq.mono fun b hb => ⟨by omega, fun e => by have := own_lt h b e.symm; omega⟩
theorem ap1r {ops : Array Oper} {rest : List Oper} {o : Oper} {a : Act} {Q : Exit → Act → World → Prop} {w : World} (hgd : o.guard = none) {s x : Operand}
 (ho : o.op = .call { callee := .builtin .append, args := #[s, x], argTypes := #[31, 31] })
 {e' : TypeId} {B B0 : Nat} {v : Value} {n : Nat} {r : List Pl.Ivl} (hs : a.eval s = v) (hown : ROwn w B B0 r v n) {y : Pl.Ivl}
 {c : Nat} {C : List Value} (hx : a.eval x = .slice (some ⟨w.heap.size, 0, none⟩) 1 c) (hy : IvQ w (fun b => B0 ≤ b ∧ some b ≠ v.ownBlock) y C) (hn : n ≤ 1000001) (hbase : B ≤ w.heap.size)
 (h : ∀ v' w', ROwn w' B B0 (r ++ [y]) v' (n + 1) → w.grownBy w' v.ownBlock → Below B w w' → w.heap.size < w'.heap.size → wpList Tryz.prog ops Q rest (a.put o.dst v') w') : wpList Tryz.prog ops Q (o :: rest) a (w.alloc (.cells C.toArray e')) := by
 have hA := hown.alloc (.cells C.toArray e')
 obtain ⟨cs, own0, el0⟩ := hA.mem
 have hy' := hy.below (w' := w.alloc (.cells C.toArray e')) ((Below.refl w.heap.size w).alloc nle _) nle
 refine apx hgd ho Tryz.tIvl hs own0 (m := 1) (news := C) ?_ (by omega) (by simp; omega) fun v' w' h2 h3 h4 => h v' w' (ROwn.app hA.len el0 hy' h2 h3 h4) (grownBy_trans_alloc h3) ?_ (by have := h3.size; simp at this; omega)
 · rw [hx]
   exact Src.ofSlice _ Tryz.tIvl.ht _ _ _ _ hy.is.len (fun j u hu => by rw [addr_add]; simp [hu]) hy.is.one
 · obtain ⟨cs0, own1, _⟩ := hown.mem
   exact grown_below (grownBy_trans_alloc h3) own1 hbase
namespace Pl
theorem inv_step {r : List Ivl} {k : Nat} {low : Ver} {out R : List Ivl} (hk : k < r.length) (h : out ++ invAt low (r.drop k) = R) :
 (r[k].un = true → out ++ (if verCmp low r[k].lo < 0 then [⟨low, r[k].lo, false⟩] else []) = R) ∧ (r[k].un = false → (out ++ (if verCmp low r[k].lo < 0 then [⟨low, r[k].lo, false⟩] else [])) ++ invAt r[k].hi (r.drop (k + 1)) = R) := by
 rw [List.drop_eq_getElem_cons hk, invAt, ← List.append_assoc] at h
 refine ⟨fun e => ?_, fun e => ?_⟩
 · rw [if_pos e, List.append_nil] at h; exact h
 · rw [if_neg (show ¬ r[k].un = true by rw [e]; decide)] at h; exact h
theorem inv_end {r : List Ivl} {k : Nat} {low : Ver} {out R : List Ivl} (hk : r.length ≤ k) (h : out ++ invAt low (r.drop k) = R) : out ++ [⟨low, Ver.zero, true⟩] = R := by
 rw [List.drop_of_length_le hk] at h; exact h
end Pl
theorem own_base {w : World} {B B0 : Nat} {r : List Pl.Ivl} {n c : Nat} (b off : Nat) (h : ROwn w B B0 r (.slice (some ⟨b, off, none⟩) n c) n) : B ≤ b := by
 obtain ⟨cs, h1, _⟩ := h.mem
 exact own_ge h1 b off rfl
theorem rngCopy_n (r : List Pl.Ivl) (n : Nat) (hl : r.length = n) (a : Option Addr) (c : Nat) (w : World) (h : RIn w r a c) (ok : ∀ x ∈ r, x.Ok) (hn : n ≤ 1000002) :
 Calls Tryz.prog 106 #[.agg #[.slice a n c]] w (RRngO r w) := by
 subst hl
 exact rngCopy_any r a c w h ok hn
def InvInv (w w2 : World) (L : Nat) (r : List Pl.Ivl) (k : Nat) (wr : World) (o : Option Addr) (n c' : Nat) (low : Pl.Ver) (la : Option Addr) (lc : Nat) (out : List Pl.Ivl) : Prop :=
 Bk wr (w.heap.size + 1 + 1) [.slice o n c'] ∧ ROwn wr w2.heap.size 0 out (.slice o n c') n ∧ Bk wr L [.int .i64 low.maj, .int .i64 low.min, .int .i64 low.pat, .slice la low.pre.length lc] ∧ VIn wr low la lc ∧ SlQ (fun b => b < w2.heap.size) la low.pre.length ∧ low.Ok ∧
 Below w.heap.size w wr ∧ Bk wr (w.heap.size + 1) [.slice none 0 0] ∧ Kept (L + 1) w2.heap.size w2 wr ∧ out ++ Pl.invAt low (r.drop k) = Pl.invR r ∧ n ≤ k
def InvAt (w w2 : World) (L : Nat) (r : List Pl.Ivl) (k : Nat) (wr : World) : Prop := ∃ o n c' low la lc out, InvInv w w2 L r k wr o n c' low la lc out
set_option maxRecDepth 100000 in
set_option maxHeartbeats 8000000 in
theorem invert_any (r : List Pl.Ivl) (a : Option Addr) (c : Nat) (w : World) (h : RIn w r a c) (can : Pl.Can r) (hn : r.length ≤ 1000000) :
 Calls Tryz.prog 74 #[.agg #[.slice a r.length c]] w (RRng (Pl.invR r) w) := by
 have H := Hd h
 have OK := Hd can.ok
 have CR := Hd (Pl.invR_can can).1
 clear h can
 have fld := field_rng
 go_enter Tryz.func74, Tryz.ntmps74
 have B0 := brl w
 go_wp2_with fail
 refine (lowest_any _).mono ?_
 rintro e w1 ⟨la, lc, rfl, VL, hb⟩
 replace VL := Hd VL
 have B1 := bcm w hb
 have q1 : w.heap.size + 3 ≤ w1.heap.size := qle hb
 replace H := Hd ((((H.out.al _).al _).al _).bl hb)
 have X := ((((bkn w.heap.size [.slice a r.length c] 33).alloc _).alloc _)).bw hb
 have R := (((bkn (w.heap.size + 1) [.slice none 0 0] 33).alloc _)).bw hb
 have O := ((bkn (w.heap.size + 1 + 1) [.slice none 0 0] 33)).bw hb
 clear hb
 have s1 := B1.size
 have ⟨Xc, Xf, Xl⟩ := X
 have ⟨Rc, Rf, Rl⟩ := R
 have ⟨Oc, Of, Ol⟩ := O
 go_wp2_with fail
 have QL := Hd VL.out.at
 refine (rngCopy_any r a c _ (H.out.bl (by go_grown)) OK.out (by omega)).mono ?_
 rintro e w2 ⟨oc, nc, cc, rfl, OW, hb⟩
 have hnc := OW.len
 subst hnc
 simp only [World.size_alloc] at OW
 have HOW := Hd OW
 clear OW
 have B2 := bcm w hb
 have q2 : w1.heap.size + 1 ≤ w2.heap.size := qle hb
 replace H := Hd ((H.out.al _).bl hb)
 replace VL := Hd ((VL.out.al _).bl hb)
 replace X := ((X.alloc _)).bw hb
 replace R := ((R.alloc _)).bw hb
 replace O := ((O.alloc _)).bw hb
 have L := ((bkn w1.heap.size [.int .i64 Pl.lowV.maj, .int .i64 Pl.lowV.min, .int .i64 Pl.lowV.pat, .slice la Pl.lowV.pre.length lc] 24)).bw hb
 clear hb
 have s2 := B2.size
 clear Xc Xf Xl Rc Rf Rl Oc Of Ol
 have ⟨Xc, Xf, Xl⟩ := X
 have ⟨Rc, Rf, Rl⟩ := R
 have ⟨Oc, Of, Ol⟩ := O
 have ⟨Lc, Lf, Ll⟩ := L
 clear X
 go_wp2_with fail
 go_loopw [12] (fun i wr => ∃ k : Nat, k ≤ r.length ∧ i = .int .i64 k ∧ InvAt w w2 w1.heap.size r k wr) (fun i _ => r.length - (intOf i).toNat)
 case atStart => exact ⟨0, Nat.zero_le _, rfl, none, 0, 0, Pl.lowV, la, lc, [], O, ROwn.nil _ _ _, L, VL.out, QL.out.mono (fun b hb => by omega), Pl.lowV_ok, B2, R, Kept.refl _ _ _, rfl, nle⟩
 case round =>
  obtain ⟨k, hk, rfl, hinv⟩ := hrel
  clear O R L VL QL H B0 B1 B2
  obtain ⟨o, n, c', low, la, lc, out, O, OW, L, VL, QL, OKL, B1, R, KP, EQ, hnk⟩ := hinv
  replace VL := Hd VL
  replace QL := Hd QL
  replace OKL := Hd OKL
  replace EQ := Hd EQ
  have s3 := B1.size
  have s4 := KP.size
  by_cases hlt2 : k < r.length
  · obtain ⟨b, off, rfl, hlt, hat⟩ := (HOW.out.kept KP nle).at (by omega)
    obtain ⟨a1, b1, c1, d1, I, -, -⟩ := hat k hlt2
    have QQ : SlQ (fun b => b < w2.heap.size) a1 r[k].lo.pre.length ∧ SlQ (fun b => b < w2.heap.size) b1 r[k].hi.pre.length := by
     obtain ⟨b', off', e', hlt', hat'⟩ := HOW.out.at (by omega)
     cases e'
     obtain ⟨a2, b2, c2, d2, I2, QA2, QB2⟩ := hat' k hlt2
     have e3 : w2.cell? ⟨b, off + k * 9 + 3, none⟩ = wr.cell? ⟨b, off + k * 9 + 3, none⟩ := (World.cell?_of_block (KP.block b (own_base b off HOW.out) hlt')).symm
     have e7 : w2.cell? ⟨b, off + k * 9 + 7, none⟩ = wr.cell? ⟨b, off + k * 9 + 7, none⟩ := (World.cell?_of_block (KP.block b (own_base b off HOW.out) hlt')).symm
     rw [I2.e3, I.e3] at e3
     rw [I2.e7, I.e7] at e7
     injection e3 with e3
     injection e7 with e7
     injection e3 with e3 _ _
     injection e7 with e7 _ _
     subst e3 e7
     exact ⟨QA2.mono fun _ h => h.2, QB2.mono fun _ h => h.2⟩
    obtain ⟨QA, QB⟩ := QQ
    replace QA := Hd QA
    replace QB := Hd QB
    have OX := Hd (OK.out _ (List.getElem_mem hlt2))
    have ST := Hd (Pl.inv_step hlt2 EQ.out)
    have HGW := Hd (fun g hg => (own_lt OW g hg).2)
    clear hat EQ
    obtain ⟨e0, e1, e2, e3, e4, e5, e6, e7, e8, VA, VB⟩ := I
    replace VA := Hd VA
    replace VB := Hd VB
    have CO := Hd (fun (W : World) (g1 : VIn W low la lc) (g2 : VIn W r[k].lo a1 c1) => Order_any low r[k].lo la a1 lc c1 W (VOk.of g1 OKL.out) (VOk.of g2 OX.out.lo))
    obtain ⟨K, hK⟩ : ∃ K, Pl.verCmp low r[k].lo = K := ⟨_, rfl⟩
    rw [hK] at CO ST
    generalize r[k] = x at *
    cases hu : x.un with
    | true =>
      rw [hu] at e8
      have E := Hd (ST.out.1 hu)
      clear ST
      by_cases k0 : K < 0
      · have t1 := decT k0
        rw [if_pos k0] at E
        clear k0 hu hK
        have ⟨Oc, Of, Ol⟩ := O
        have ⟨Rc, Rf, Rl⟩ := R
        have ⟨Lc, Lf, Ll⟩ := L
        go_wp2_with fail
        refine (CO.out _ (VL.out.bl (by go_grown)) (VA.out.bl (by go_grown))).mono ?_
        rintro e w5 ⟨rfl, hb⟩
        replace OW := (OW.alloc _).bl hb
        replace KP := (KP.below (w2 := w5) (bcall (B := wr.heap.size) (by go_grown) hb (by simp)) (by omega))
        have B5 := bcm w hb
        have q5 : wr.heap.size + 1 ≤ w5.heap.size := qle hb
        replace VL := Hd ((VL.out.al _).bl hb)
        replace VA := Hd ((VA.out.al _).bl hb)
        replace VB := Hd ((VB.out.al _).bl hb)
        replace O := ((O.alloc _)).bw hb
        replace R := ((R.alloc _)).bw hb
        replace L := ((L.alloc _)).bw hb
        have Y := ((bkn wr.heap.size [.int .i64 x.lo.maj, .int .i64 x.lo.min, .int .i64 x.lo.pat, .slice a1 x.lo.pre.length c1, .int .i64 x.hi.maj, .int .i64 x.hi.min, .int .i64 x.hi.pat, .slice b1 x.hi.pre.length d1, .bool true] 101)).bw hb
        clear hb
        have s5 := B5.size
        clear Oc Of Ol Rc Rf Rl Lc Lf Ll
        have ⟨Oc, Of, Ol⟩ := O
        have ⟨Rc, Rf, Rl⟩ := R
        have ⟨Lc, Lf, Ll⟩ := L
        have ⟨Yc, Yf, Yl⟩ := Y
        clear CO e0 e1 e2 e3 e4 e5 e6 e7 e8
        have QY : IvQ w5 (fun b => 0 ≤ b ∧ some b ≠ (Value.slice o n c').ownBlock) ⟨low, x.lo, false⟩ [.int .i64 low.maj, .int .i64 low.min, .int .i64 low.pat, .slice la low.pre.length lc, .int .i64 x.lo.maj, .int .i64 x.lo.min, .int .i64 x.lo.pat, .slice a1 x.lo.pre.length c1, .bool false] := ⟨la, a1, lc, c1, rfl, VL.out, VA.out, SlQ.off OW rfl nle QL.out, SlQ.off OW rfl nle QA.out⟩
        have hlt6 : ∀ g, (Value.slice o n c').ownBlock = some g → g < wr.heap.size := HGW.out
        go_wp2_with (at_builtin; go_loud (refine ap1r (by rfl) (by rfl) (by rfl) OW (c := 1) (C := [.int .i64 low.maj, .int .i64 low.min, .int .i64 low.pat, .slice la low.pre.length lc, .int .i64 x.lo.maj, .int .i64 x.lo.min, .int .i64 x.lo.pat, .slice a1 x.lo.pre.length c1, .bool false]) (by rfl) QY (by omega) (by omega) ?_); intro v6 w6 NEW hg6 hb6 hs6; have hlt5 := own_lt OW; replace VL := Hd (VL.out.grown hg6 ((SlQ.off OW rfl nle QL.out).mono fun _ h => h.2)); replace VA := Hd (VA.out.grown hg6 ((SlQ.off OW rfl nle QA.out).mono fun _ h => h.2)); replace VB := Hd (VB.out.grown hg6 ((SlQ.off OW rfl nle QB.out).mono fun _ h => h.2)); replace O := O.below hb6 (by omega); replace R := R.below hb6 (by omega); replace L := L.below hb6 (by omega); replace Y := Y.grown hg6 (fun g hg => by have := hlt6 g hg; omega); replace KP := KP.bl hb6; have B6 : Below w.heap.size w w6 := bcall B5 hb6 (by omega); obtain ⟨o6, c6, rfl⟩ := NEW.slice; clear hg6 hb6 OW QY hlt5 hlt6 Oc Of Ol Rc Rf Rl Lc Lf Ll Yc Yf Yl; obtain ⟨Oc, Of, Ol⟩ := id O; obtain ⟨Yc, Yf, Yl⟩ := id Y; obtain ⟨Lc, Lf, Ll⟩ := id L; obtain ⟨Rc, Rf, Rl⟩ := id R)
        have RN := ((R.fr (w.heap.size + 1 + 1) 0 (by omega) (.slice o6 (n + 1) c6)).st 0 (.slice o6 (n + 1) c6))
        obtain ⟨RNc, RNf, RNl⟩ := RN
        have FIN := (NEW.far (by simp; omega) (O.c 0) (by nofun) (.slice o6 (n + 1) c6)).far (p := ⟨w.heap.size + 1, 0, none⟩) (by dsimp only; omega) ((R.fr (w.heap.size + 1 + 1) 0 (by omega) (.slice o6 (n + 1) c6)).c 0) (by nofun) (.slice o6 (n + 1) c6)
        have hfl := FIN.len
        rw [E.out] at hfl FIN
        have FIR := FIN.rin
        refine bodyPost_ret (v := .agg #[.slice o6 (n + 1) c6]) (by simp [results, Tryz.results74, go_sem, RNc]) rfl ⟨o6, c6, by rw [hfl], FIR, by go_grown⟩
      · have t1 := decF k0
        rw [if_neg k0, List.append_nil] at E
        clear k0 hu hK
        have ⟨Oc, Of, Ol⟩ := O
        have ⟨Rc, Rf, Rl⟩ := R
        have ⟨Lc, Lf, Ll⟩ := L
        go_wp2_with fail
        refine (CO.out _ (VL.out.bl (by go_grown)) (VA.out.bl (by go_grown))).mono ?_
        rintro e w5 ⟨rfl, hb⟩
        replace OW := (OW.alloc _).bl hb
        replace KP := (KP.below (w2 := w5) (bcall (B := wr.heap.size) (by go_grown) hb (by simp)) (by omega))
        have B5 := bcm w hb
        have q5 : wr.heap.size + 1 ≤ w5.heap.size := qle hb
        replace VL := Hd ((VL.out.al _).bl hb)
        replace VA := Hd ((VA.out.al _).bl hb)
        replace VB := Hd ((VB.out.al _).bl hb)
        replace O := ((O.alloc _)).bw hb
        replace R := ((R.alloc _)).bw hb
        replace L := ((L.alloc _)).bw hb
        have Y := ((bkn wr.heap.size [.int .i64 x.lo.maj, .int .i64 x.lo.min, .int .i64 x.lo.pat, .slice a1 x.lo.pre.length c1, .int .i64 x.hi.maj, .int .i64 x.hi.min, .int .i64 x.hi.pat, .slice b1 x.hi.pre.length d1, .bool true] 101)).bw hb
        clear hb
        have s5 := B5.size
        clear Oc Of Ol Rc Rf Rl Lc Lf Ll
        have ⟨Oc, Of, Ol⟩ := O
        have ⟨Rc, Rf, Rl⟩ := R
        have ⟨Lc, Lf, Ll⟩ := L
        have ⟨Yc, Yf, Yl⟩ := Y
        clear CO e0 e1 e2 e3 e4 e5 e6 e7 e8
        go_wp2_with fail
        have RN := (R.st 0 (.slice o (n) c'))
        obtain ⟨RNc, RNf, RNl⟩ := RN
        have FIN := OW.far (p := ⟨w.heap.size + 1, 0, none⟩) (by dsimp only; omega) (R.c 0) (by nofun) (.slice o (n) c')
        have hfl := FIN.len
        rw [E.out] at hfl FIN
        have FIR := FIN.rin
        refine bodyPost_ret (v := .agg #[.slice o (n) c']) (by simp [results, Tryz.results74, go_sem, RNc]) rfl ⟨o, c', by rw [hfl], FIR, by go_grown⟩
    | false =>
      rw [hu] at e8
      have E := Hd (ST.out.2 hu)
      clear ST
      by_cases k0 : K < 0
      · have t1 := decT k0
        rw [if_pos k0] at E
        clear k0 hu hK
        have ⟨Oc, Of, Ol⟩ := O
        have ⟨Rc, Rf, Rl⟩ := R
        have ⟨Lc, Lf, Ll⟩ := L
        go_wp2_with fail
        refine (CO.out _ (VL.out.bl (by go_grown)) (VA.out.bl (by go_grown))).mono ?_
        rintro e w5 ⟨rfl, hb⟩
        replace OW := (OW.alloc _).bl hb
        replace KP := (KP.below (w2 := w5) (bcall (B := wr.heap.size) (by go_grown) hb (by simp)) (by omega))
        have B5 := bcm w hb
        have q5 : wr.heap.size + 1 ≤ w5.heap.size := qle hb
        replace VL := Hd ((VL.out.al _).bl hb)
        replace VA := Hd ((VA.out.al _).bl hb)
        replace VB := Hd ((VB.out.al _).bl hb)
        replace O := ((O.alloc _)).bw hb
        replace R := ((R.alloc _)).bw hb
        replace L := ((L.alloc _)).bw hb
        have Y := ((bkn wr.heap.size [.int .i64 x.lo.maj, .int .i64 x.lo.min, .int .i64 x.lo.pat, .slice a1 x.lo.pre.length c1, .int .i64 x.hi.maj, .int .i64 x.hi.min, .int .i64 x.hi.pat, .slice b1 x.hi.pre.length d1, .bool false] 101)).bw hb
        clear hb
        have s5 := B5.size
        clear Oc Of Ol Rc Rf Rl Lc Lf Ll
        have ⟨Oc, Of, Ol⟩ := O
        have ⟨Rc, Rf, Rl⟩ := R
        have ⟨Lc, Lf, Ll⟩ := L
        have ⟨Yc, Yf, Yl⟩ := Y
        clear CO e0 e1 e2 e3 e4 e5 e6 e7 e8
        have QY : IvQ w5 (fun b => 0 ≤ b ∧ some b ≠ (Value.slice o n c').ownBlock) ⟨low, x.lo, false⟩ [.int .i64 low.maj, .int .i64 low.min, .int .i64 low.pat, .slice la low.pre.length lc, .int .i64 x.lo.maj, .int .i64 x.lo.min, .int .i64 x.lo.pat, .slice a1 x.lo.pre.length c1, .bool false] := ⟨la, a1, lc, c1, rfl, VL.out, VA.out, SlQ.off OW rfl nle QL.out, SlQ.off OW rfl nle QA.out⟩
        have hlt6 : ∀ g, (Value.slice o n c').ownBlock = some g → g < wr.heap.size := HGW.out
        go_wp2_with (at_builtin; go_loud (refine ap1r (by rfl) (by rfl) (by rfl) OW (c := 1) (C := [.int .i64 low.maj, .int .i64 low.min, .int .i64 low.pat, .slice la low.pre.length lc, .int .i64 x.lo.maj, .int .i64 x.lo.min, .int .i64 x.lo.pat, .slice a1 x.lo.pre.length c1, .bool false]) (by rfl) QY (by omega) (by omega) ?_); intro v6 w6 NEW hg6 hb6 hs6; have hlt5 := own_lt OW; replace VL := Hd (VL.out.grown hg6 ((SlQ.off OW rfl nle QL.out).mono fun _ h => h.2)); replace VA := Hd (VA.out.grown hg6 ((SlQ.off OW rfl nle QA.out).mono fun _ h => h.2)); replace VB := Hd (VB.out.grown hg6 ((SlQ.off OW rfl nle QB.out).mono fun _ h => h.2)); replace O := O.below hb6 (by omega); replace R := R.below hb6 (by omega); replace L := L.below hb6 (by omega); replace Y := Y.grown hg6 (fun g hg => by have := hlt6 g hg; omega); replace KP := KP.bl hb6; have B6 : Below w.heap.size w w6 := bcall B5 hb6 (by omega); obtain ⟨o6, c6, rfl⟩ := NEW.slice; clear hg6 hb6 OW QY hlt5 hlt6 Oc Of Ol Rc Rf Rl Lc Lf Ll Yc Yf Yl; obtain ⟨Oc, Of, Ol⟩ := id O; obtain ⟨Yc, Yf, Yl⟩ := id Y; obtain ⟨Lc, Lf, Ll⟩ := id L; obtain ⟨Rc, Rf, Rl⟩ := id R)
        have FO := (((((O.st 0 (.slice o6 (n + 1) c6)).fr w1.heap.size 0 (by omega) (.int .i64 x.hi.maj)).fr w1.heap.size 1 (by omega) (.int .i64 x.hi.min)).fr w1.heap.size 2 (by omega) (.int .i64 x.hi.pat)).fr w1.heap.size 3 (by omega) (.slice b1 x.hi.pre.length d1))
        have FL := (((((L.fr (w.heap.size + 1 + 1) 0 (by omega) (.slice o6 (n + 1) c6)).st 0 (.int .i64 x.hi.maj)).st 1 (.int .i64 x.hi.min)).st 2 (.int .i64 x.hi.pat)).st 3 (.slice b1 x.hi.pre.length d1))
        have FR := (((((R.fr (w.heap.size + 1 + 1) 0 (by omega) (.slice o6 (n + 1) c6)).fr w1.heap.size 0 (by omega) (.int .i64 x.hi.maj)).fr w1.heap.size 1 (by omega) (.int .i64 x.hi.min)).fr w1.heap.size 2 (by omega) (.int .i64 x.hi.pat)).fr w1.heap.size 3 (by omega) (.slice b1 x.hi.pre.length d1))
        have FV := (((((VB.out.setNS (O.c 0) (by nofun) (.slice o6 (n + 1) c6)).setNS ((L.fr (w.heap.size + 1 + 1) 0 (by omega) (.slice o6 (n + 1) c6)).c 0) (by nofun) (.int .i64 x.hi.maj)).setNS (((L.fr (w.heap.size + 1 + 1) 0 (by omega) (.slice o6 (n + 1) c6)).st 0 (.int .i64 x.hi.maj)).c 1) (by nofun) (.int .i64 x.hi.min)).setNS ((((L.fr (w.heap.size + 1 + 1) 0 (by omega) (.slice o6 (n + 1) c6)).st 0 (.int .i64 x.hi.maj)).st 1 (.int .i64 x.hi.min)).c 2) (by nofun) (.int .i64 x.hi.pat)).setNS (((((L.fr (w.heap.size + 1 + 1) 0 (by omega) (.slice o6 (n + 1) c6)).st 0 (.int .i64 x.hi.maj)).st 1 (.int .i64 x.hi.min)).st 2 (.int .i64 x.hi.pat)).c 3) (by nofun) (.slice b1 x.hi.pre.length d1))
        have FOW := (((((NEW.far (by simp; omega) (O.c 0) (by nofun) (.slice o6 (n + 1) c6)).far (p := ⟨w1.heap.size, 0, none⟩) (by dsimp only; omega) ((L.fr (w.heap.size + 1 + 1) 0 (by omega) (.slice o6 (n + 1) c6)).c 0) (by nofun) (.int .i64 x.hi.maj)).far (p := ⟨w1.heap.size, 1, none⟩) (by dsimp only; omega) (((L.fr (w.heap.size + 1 + 1) 0 (by omega) (.slice o6 (n + 1) c6)).st 0 (.int .i64 x.hi.maj)).c 1) (by nofun) (.int .i64 x.hi.min)).far (p := ⟨w1.heap.size, 2, none⟩) (by dsimp only; omega) ((((L.fr (w.heap.size + 1 + 1) 0 (by omega) (.slice o6 (n + 1) c6)).st 0 (.int .i64 x.hi.maj)).st 1 (.int .i64 x.hi.min)).c 2) (by nofun) (.int .i64 x.hi.pat)).far (p := ⟨w1.heap.size, 3, none⟩) (by dsimp only; omega) (((((L.fr (w.heap.size + 1 + 1) 0 (by omega) (.slice o6 (n + 1) c6)).st 0 (.int .i64 x.hi.maj)).st 1 (.int .i64 x.hi.min)).st 2 (.int .i64 x.hi.pat)).c 3) (by nofun) (.slice b1 x.hi.pre.length d1))
        have FK := (((((KP.set (p := ⟨w.heap.size + 1 + 1, 0, none⟩) (by dsimp only; omega) (.slice o6 (n + 1) c6)).set (p := ⟨w1.heap.size, 0, none⟩) (by dsimp only; omega) (.int .i64 x.hi.maj)).set (p := ⟨w1.heap.size, 1, none⟩) (by dsimp only; omega) (.int .i64 x.hi.min)).set (p := ⟨w1.heap.size, 2, none⟩) (by dsimp only; omega) (.int .i64 x.hi.pat)).set (p := ⟨w1.heap.size, 3, none⟩) (by dsimp only; omega) (.slice b1 x.hi.pre.length d1))
        go_roundw
        case rel => exact ⟨k + 1, hlt2, by go_num, o6, n + 1, c6, x.hi, b1, d1, _, FO, FOW, FL, FV, QB.out, OX.out.hi, by go_grown, FR, FK, E.out, by omega⟩
        case measure => simp [intOf]; omega
      · have t1 := decF k0
        rw [if_neg k0, List.append_nil] at E
        clear k0 hu hK
        have ⟨Oc, Of, Ol⟩ := O
        have ⟨Rc, Rf, Rl⟩ := R
        have ⟨Lc, Lf, Ll⟩ := L
        go_wp2_with fail
        refine (CO.out _ (VL.out.bl (by go_grown)) (VA.out.bl (by go_grown))).mono ?_
        rintro e w5 ⟨rfl, hb⟩
        replace OW := (OW.alloc _).bl hb
        replace KP := (KP.below (w2 := w5) (bcall (B := wr.heap.size) (by go_grown) hb (by simp)) (by omega))
        have B5 := bcm w hb
        have q5 : wr.heap.size + 1 ≤ w5.heap.size := qle hb
        replace VL := Hd ((VL.out.al _).bl hb)
        replace VA := Hd ((VA.out.al _).bl hb)
        replace VB := Hd ((VB.out.al _).bl hb)
        replace O := ((O.alloc _)).bw hb
        replace R := ((R.alloc _)).bw hb
        replace L := ((L.alloc _)).bw hb
        have Y := ((bkn wr.heap.size [.int .i64 x.lo.maj, .int .i64 x.lo.min, .int .i64 x.lo.pat, .slice a1 x.lo.pre.length c1, .int .i64 x.hi.maj, .int .i64 x.hi.min, .int .i64 x.hi.pat, .slice b1 x.hi.pre.length d1, .bool false] 101)).bw hb
        clear hb
        have s5 := B5.size
        clear Oc Of Ol Rc Rf Rl Lc Lf Ll
        have ⟨Oc, Of, Ol⟩ := O
        have ⟨Rc, Rf, Rl⟩ := R
        have ⟨Lc, Lf, Ll⟩ := L
        have ⟨Yc, Yf, Yl⟩ := Y
        clear CO e0 e1 e2 e3 e4 e5 e6 e7 e8
        go_wp2_with fail
        have FO := (Bk.frs w1.heap.size [(0, .int .i64 x.hi.maj), (1, .int .i64 x.hi.min), (2, .int .i64 x.hi.pat), (3, .slice b1 x.hi.pre.length d1)] O)
        have FL := ((((L.st 0 (.int .i64 x.hi.maj)).st 1 (.int .i64 x.hi.min)).st 2 (.int .i64 x.hi.pat)).st 3 (.slice b1 x.hi.pre.length d1))
        have FR := (Bk.frs w1.heap.size [(0, .int .i64 x.hi.maj), (1, .int .i64 x.hi.min), (2, .int .i64 x.hi.pat), (3, .slice b1 x.hi.pre.length d1)] R)
        have FV := (VIn.sets [(0, .int .i64 x.hi.maj), (1, .int .i64 x.hi.min), (2, .int .i64 x.hi.pat), (3, .slice b1 x.hi.pre.length d1)] VB.out L)
        have FOW := ((((OW.far (p := ⟨w1.heap.size, 0, none⟩) (by dsimp only; omega) (L.c 0) (by nofun) (.int .i64 x.hi.maj)).far (p := ⟨w1.heap.size, 1, none⟩) (by dsimp only; omega) ((L.st 0 (.int .i64 x.hi.maj)).c 1) (by nofun) (.int .i64 x.hi.min)).far (p := ⟨w1.heap.size, 2, none⟩) (by dsimp only; omega) (((L.st 0 (.int .i64 x.hi.maj)).st 1 (.int .i64 x.hi.min)).c 2) (by nofun) (.int .i64 x.hi.pat)).far (p := ⟨w1.heap.size, 3, none⟩) (by dsimp only; omega) ((((L.st 0 (.int .i64 x.hi.maj)).st 1 (.int .i64 x.hi.min)).st 2 (.int .i64 x.hi.pat)).c 3) (by nofun) (.slice b1 x.hi.pre.length d1))
        have FK := ((((KP.set (p := ⟨w1.heap.size, 0, none⟩) (by dsimp only; omega) (.int .i64 x.hi.maj)).set (p := ⟨w1.heap.size, 1, none⟩) (by dsimp only; omega) (.int .i64 x.hi.min)).set (p := ⟨w1.heap.size, 2, none⟩) (by dsimp only; omega) (.int .i64 x.hi.pat)).set (p := ⟨w1.heap.size, 3, none⟩) (by dsimp only; omega) (.slice b1 x.hi.pre.length d1))
        go_roundw
        case rel => exact ⟨k + 1, hlt2, by go_num, o, n, c', x.hi, b1, d1, _, FO, FOW, FL, FV, QB.out, OX.out.hi, by go_grown, FR, FK, E.out, by omega⟩
        case measure => simp [intOf]; omega
  · skip
    have E := Hd (Pl.inv_end (by omega) EQ.out)
    have t2 : decide ((k : Int) < (r.length : Int)) = false := by simp; omega
    have t3 : decide (k < r.length) = false := by simp; omega
    clear EQ
    have ⟨Oc, Of, Ol⟩ := O
    have ⟨Rc, Rf, Rl⟩ := R
    have ⟨Lc, Lf, Ll⟩ := L
    have QY : IvQ wr (fun b => 0 ≤ b ∧ some b ≠ (Value.slice o n c').ownBlock) ⟨low, Pl.Ver.zero, true⟩ [.int .i64 low.maj, .int .i64 low.min, .int .i64 low.pat, .slice la low.pre.length lc, .int .i64 0, .int .i64 0, .int .i64 0, .slice none 0 0, .bool true] := ⟨la, none, lc, 0, rfl, VL.out, VIn.zero _, SlQ.off OW rfl nle QL.out, .inl rfl⟩
    go_wp2_with (at_builtin; go_loud (refine ap1r (by rfl) (by rfl) (by rfl) OW (c := 1) (C := [.int .i64 low.maj, .int .i64 low.min, .int .i64 low.pat, .slice la low.pre.length lc, .int .i64 0, .int .i64 0, .int .i64 0, .slice none 0 0, .bool true]) (by rfl) QY (by omega) (by omega) ?_); intro v6 w6 NEW hg6 hb6 hs6; replace O := O.below hb6 (by omega); replace R := R.below hb6 (by omega); have B6 : Below w.heap.size w w6 := bcall B1 hb6 (by omega); obtain ⟨o6, c6, rfl⟩ := NEW.slice; clear hg6 hb6 OW QY Oc Of Ol Rc Rf Rl Lc Lf Ll; obtain ⟨Oc, Of, Ol⟩ := id O; obtain ⟨Rc, Rf, Rl⟩ := id R)
    have FIN := NEW.far (p := ⟨w.heap.size + 1 + 1, 0, none⟩) (by dsimp only; omega) (O.c 0) (by nofun) (.slice o6 (n + 1) c6)
    rw [E.out] at FIN
    have hfl := FIN.len
    have FIR := FIN.rin
    refine (rngCopy_n (Pl.invR r) (n + 1) hfl _ _ _ FIR CR.out.ok (by omega)).mono ?_
    rintro e w7 ⟨o7, n7, c7, rfl, OW7, hb7⟩
    have hn7 := OW7.len
    rw [hfl] at hn7
    subst hn7
    have B7 : Below w.heap.size w w7 := bcall (by go_grown) hb7 (by simp; omega)
    replace R := (R.fr (w.heap.size + 1 + 1) 0 (by omega) (.slice o6 (n + 1) c6)).below hb7 (by simp; omega)
    clear hb7 Rc Rf Rl Oc Of Ol
    have ⟨Rc, Rf, Rl⟩ := R
    go_wp2_with fail
    have RN := R.st 0 (.slice o7 (n + 1) c7)
    obtain ⟨RNc, RNf, RNl⟩ := RN
    refine bodyPost_ret (v := .agg #[.slice o7 (n + 1) c7]) (by simp [results, Tryz.results74, go_sem, RNc]) rfl ⟨o7, c7, by rw [hfl], (OW7.far (by simp; omega) (R.c 0) (by nofun) _).rin, by go_grown⟩
end
section
open Go.RowKit
structure Clo {α : Type} (sz : Nat) (P : World → (Nat → Prop) → α → List Value → Prop) : Prop where
 len : ∀ {w Q x cs}, P w Q x cs → cs.length = sz
 one : ∀ {w Q x cs}, P w Q x cs → ∀ u ∈ cs, u.oneCell' = true
 mono : ∀ {w} {Q R : Nat → Prop} {x cs}, P w Q x cs → (∀ b, Q b → b < w.heap.size → R b) → P w R x cs
 grown : ∀ {w w'} {Q : Nat → Prop} {x cs} {row : Option Nat}, P w Q x cs → w.grownBy w' row → (∀ b, Q b → some b ≠ row) → P w' Q x cs
theorem grown_of_below {w w' : World} {B : Nat} (hb : Below B w w') (hB : w.heap.size ≤ B) : w.grownBy w' none := ⟨hb.os, hb.tape, hb.output, hb.size, fun k hk _ => hb.block k (Nat.lt_of_lt_of_le hk hB)⟩
theorem grown_setCell (w : World) (b i : Nat) (v : Value) : w.grownBy (w.setCell ⟨b, i, none⟩ v) (some b) := ⟨rfl, rfl, rfl, by simp [World.setCell], fun k _ hk => Below.heap_setCell _ _ _ _ (fun e => hk (by simp [e]))⟩
theorem Clo.below {α : Type} {sz : Nat} {P : World → (Nat → Prop) → α → List Value → Prop} (C : Clo sz P) {w w' : World} {Q : Nat → Prop} {x : α} {cs : List Value} (h : P w Q x cs) {B : Nat} (hb : Below B w w') (hB : w.heap.size ≤ B) : P w' Q x cs := C.grown h (grown_of_below hb hB) (fun _ _ e => by cases e)
theorem Sl.grown {w w' : World} {a : Option Addr} {n c sz : Nat} {cs : List Value} {row : Option Nat} (h : Sl w a n c sz cs) (hg : w.grownBy w' row) (_ : 0 < sz) (hq : SlQ (fun b => some b ≠ row) a n) : Sl w' a n c sz cs := by
 refine ⟨h.hl, h.hcap, h.hmax, ?_⟩
 rcases h.mem with h0 | ⟨b, off, rfl, hlt, hc⟩
 · exact .inl h0
 · rcases hq with h0 | ⟨b2, off2, e, hb⟩
   · left
     have := h.hl
     rw [h0, Nat.zero_mul] at this
     exact List.length_eq_zero_iff.1 this
   · cases e
     exact .inr ⟨b, off, rfl, Nat.lt_of_lt_of_le hlt hg.size, fun j u hu => (World.cell?_of_block (hg.block b hlt (fun e => hb e))).trans (hc j u hu)⟩
theorem Sl.at {w : World} {a : Option Addr} {n c sz : Nat} {cs : List Value} (h : Sl w a n c sz cs) : n * sz = 0 ∨ ∃ b off, a = some ⟨b, off, none⟩ ∧ b < w.heap.size := by
 rcases h.mem with h0 | ⟨b, off, e, hlt, _⟩
 · left; rw [← h.hl, h0]; rfl
 · exact .inr ⟨b, off, e, hlt⟩
theorem SlQ.lt {w : World} {a : Option Addr} {n c sz : Nat} {cs : List Value} {Q : Nat → Prop} (hq : SlQ Q a n) (h : Sl w a n c sz cs) (hsz : 0 < sz) : SlQ (fun b => Q b ∧ b < w.heap.size) a n := by
 rcases hq with h0 | ⟨b, off, rfl, hb⟩
 · exact .inl h0
 · rcases h.at with h0 | ⟨b2, off2, e, hlt⟩
   · left; exact (Nat.mul_eq_zero.1 h0).resolve_right (by omega)
   · cases e; exact .inr ⟨b, off, rfl, hb, hlt⟩
structure LQ {α : Type} (sz : Nat) (P : World → (Nat → Prop) → α → List Value → Prop) (w : World) (Q : Nat → Prop) (xs : List α) (a : Option Addr) (c : Nat) : Prop where
 mem : ∃ cs, Sl w a xs.length c sz cs ∧ Elems (P w Q) sz xs cs
 at' : SlQ Q a xs.length
theorem LQ.grown {α : Type} {sz : Nat} {P : World → (Nat → Prop) → α → List Value → Prop} {w w' : World} {Q : Nat → Prop} {xs : List α} {a : Option Addr} {c : Nat} {row : Option Nat} (h : LQ sz P w Q xs a c) (C : Clo sz P) (hsz : 0 < sz) (hg : w.grownBy w' row) (hQ : ∀ b, Q b → some b ≠ row) : LQ sz P w' Q xs a c := by
 obtain ⟨cs, h1, h2⟩ := h.mem
 exact ⟨⟨cs, h1.grown hg hsz (h.at'.mono hQ), h2.mono fun _ _ k => C.grown k hg hQ⟩, h.at'⟩
theorem LQ.mono {α : Type} {sz : Nat} {P : World → (Nat → Prop) → α → List Value → Prop} {w : World} {Q R : Nat → Prop} {xs : List α} {a : Option Addr} {c : Nat} (h : LQ sz P w Q xs a c) (C : Clo sz P) (hsz : 0 < sz) (hQ : ∀ b, Q b → b < w.heap.size → R b) : LQ sz P w R xs a c := by
 obtain ⟨cs, h1, h2⟩ := h.mem
 exact ⟨⟨cs, h1, h2.mono fun _ _ k => C.mono k hQ⟩, (h.at'.lt h1 hsz).mono fun b hb => hQ b hb.1 hb.2⟩
theorem LQ.below {α : Type} {sz : Nat} {P : World → (Nat → Prop) → α → List Value → Prop} {w w' : World} {Q : Nat → Prop} {xs : List α} {a : Option Addr} {c : Nat} (h : LQ sz P w Q xs a c) (C : Clo sz P) (hsz : 0 < sz) {B : Nat} (hb : Below B w w') (hB : w.heap.size ≤ B) : LQ sz P w' Q xs a c := h.grown C hsz (grown_of_below hb hB) (fun _ _ e => by cases e)
theorem LQ.len {α : Type} {sz : Nat} {P : World → (Nat → Prop) → α → List Value → Prop} {w : World} {Q : Nat → Prop} {xs : List α} {a : Option Addr} {c : Nat} (h : LQ sz P w Q xs a c) : xs.length ≤ 9223372036854775807 := by
 obtain ⟨cs, h1, _⟩ := h.mem
 exact h1.len
theorem LQ.pos {α : Type} {sz : Nat} {P : World → (Nat → Prop) → α → List Value → Prop} {w : World} {Q : Nat → Prop} {xs : List α} {a : Option Addr} {c : Nat} (h : LQ sz P w Q xs a c) (hsz : 0 < sz) (h0 : 0 < xs.length) :
 ∃ b off, a = some ⟨b, off, none⟩ ∧ b < w.heap.size ∧ ∀ k (hk : k < xs.length), ∃ es, P w Q xs[k] es ∧ ∀ j u, es[j]? = some u → w.cell? ⟨b, off + k * sz + j, none⟩ = some u := by
 obtain ⟨cs, h1, h2⟩ := h.mem
 exact Sl.pos h1 h2 hsz h0
def cellL {α : Type} (sz : Nat) (P : World → (Nat → Prop) → α → List Value → Prop) (w : World) (Q : Nat → Prop) (xs : List α) (cs : List Value) : Prop := ∃ a c, cs = [.slice a xs.length c] ∧ LQ sz P w Q xs a c
theorem Clo.cell {α : Type} {sz : Nat} {P : World → (Nat → Prop) → α → List Value → Prop} (C : Clo sz P) (hsz : 0 < sz) : Clo 1 (cellL sz P) where
 len h := by obtain ⟨a, c, rfl, _⟩ := h; rfl
 one h := by
  obtain ⟨a, c, rfl, _⟩ := h
  intro u hu
  rw [List.mem_singleton.1 hu]; rfl
 mono h hQ := by obtain ⟨a, c, e, g⟩ := h; exact ⟨a, c, e, g.mono C hsz hQ⟩
 grown h hg hQ := by obtain ⟨a, c, e, g⟩ := h; exact ⟨a, c, e, g.grown C hsz hg hQ⟩
theorem ownsRow_grown {w w' : World} {base : Nat} {e : TypeId} {size : Nat} {v : Value} {n : Nat} {xs : List Value} {row : Option Nat} (h : w.ownsRow base e size v n xs) (hg : w.grownBy w' row) (hne : ∀ g, row = some g → v.ownBlock ≠ some g) : w'.ownsRow base e size v n xs := by
 refine ⟨h.1, ?_⟩
 rcases h.2 with hn | ⟨g, cap, cur, rfl, hbg, hgg, rest⟩
 · exact .inl hn
 · have hlt := (Array.getElem?_eq_some_iff.1 hgg).1
   exact .inr ⟨g, cap, cur, rfl, hbg, (hg.block g hlt (fun e => hne g e.symm rfl)).trans hgg, rest⟩
structure GOwn {α : Type} (e : TypeId) (sz : Nat) (P : World → (Nat → Prop) → α → List Value → Prop) (w : World) (B : Nat) (R : Nat → Prop) (xs : List α) (v : Value) (n : Nat) : Prop where
 mem : ∃ cs, w.ownsRow B e sz v n cs ∧ Elems (P w (fun b => R b ∧ some b ≠ v.ownBlock)) sz xs cs
 len : xs.length = n
section
variable {α : Type} {e : TypeId} {sz : Nat} {P : World → (Nat → Prop) → α → List Value → Prop} {w w' : World} {B : Nat} {R : Nat → Prop} {xs : List α} {v : Value} {n : Nat}
theorem GOwn.nil (w : World) (B : Nat) (R : Nat → Prop) : GOwn e sz P w B R ([] : List α) (.slice none 0 0) 0 := ⟨⟨[], World.ownsRow_nil _ _ _ _, Elems.nil⟩, rfl⟩
theorem GOwn.grown (h : GOwn e sz P w B R xs v n) (C : Clo sz P) {row : Option Nat} (hg : w.grownBy w' row) (hne : ∀ g, row = some g → v.ownBlock ≠ some g) (hR : ∀ b, R b → some b ≠ row) : GOwn e sz P w' B R xs v n := by
 obtain ⟨cs, h1, h2⟩ := h.mem
 exact ⟨⟨cs, ownsRow_grown h1 hg hne, h2.mono fun _ _ k => C.grown k hg fun b hb => hR b hb.1⟩, h.len⟩
theorem GOwn.below (h : GOwn e sz P w B R xs v n) (C : Clo sz P) {D : Nat} (hb : Below D w w') (hD : w.heap.size ≤ D) : GOwn e sz P w' B R xs v n := h.grown C (grown_of_below hb hD) (fun _ e => by cases e) (fun _ _ e => by cases e)
theorem GOwn.alloc (h : GOwn e sz P w B R xs v n) (C : Clo sz P) (o : Obj) : GOwn e sz P (w.alloc o) B R xs v n := h.below C ((Below.refl _ _).alloc nle _) nle
theorem GOwn.drew (h : GOwn e sz P w B R xs v n) (C : Clo sz P) : GOwn e sz P w.drew B R xs v n := h.below C (Below.refl _ _).drew nle
theorem GOwn.lt (h : GOwn e sz P w B R xs v n) : ∀ g, v.ownBlock = some g → B ≤ g ∧ g < w.heap.size := fun g hg => by
 obtain ⟨cs, h1, _⟩ := h.mem
 exact h1.lt g hg
theorem GOwn.far (h : GOwn e sz P w B R xs v n) (C : Clo sz P) {b i : Nat} (hb : b < B) (hR : ¬ R b) (u : Value) : GOwn e sz P (w.setCell ⟨b, i, none⟩ u) B R xs v n := h.grown C (grown_setCell w b i u) (fun g e k => by injection e with e; subst e; have := (h.lt _ k).1; omega) (fun g hg e => by injection e with e; subst e; exact hR hg)
theorem GOwn.slice (h : GOwn e sz P w B R xs v n) : ∃ oa c, v = .slice oa n c := by
 obtain ⟨cs, h1, _⟩ := h.mem
 exact own_slice h1
theorem GOwn.lq {a : Option Addr} {c : Nat} (h : GOwn e sz P w B R xs (.slice a n c) n) (C : Clo sz P) (hsz : 0 < sz) {Q : Nat → Prop} (hR : ∀ b, R b → b < w.heap.size → Q b) (hB : ∀ b, B ≤ b → b < w.heap.size → Q b) : LQ sz P w Q xs a c := by
 obtain ⟨cs, h1, h2⟩ := h.mem
 have h3 := Sl.own h1
 rw [← h.len] at h3
 refine ⟨⟨cs, h3, h2.mono fun _ _ k => C.mono k fun b hb => hR b hb.1⟩, ?_⟩
 rcases h3.mem with h0 | ⟨b, off, rfl, hlt, _⟩
 · left
   have := h3.hl
   rw [h0, List.length_nil] at this
   exact (Nat.mul_eq_zero.1 this.symm).resolve_right (by omega)
 · rcases h1.2 with ⟨k, _⟩ | ⟨g, cap, cur, k, hbg, hgg, _⟩
   · cases k
   · injection k with k1 _ _
     injection k1 with k1
     injection k1 with k1 k2
     subst k1 k2
     exact .inr ⟨_, _, rfl, hB _ hbg hlt⟩
theorem GOwn.app (C : Clo sz P) {v' : Value} {cs E : List Value} {x : α} (hl : xs.length = n) (h2 : Elems (P w (fun b => R b ∧ some b ≠ v.ownBlock)) sz xs cs)
 (hx : P w (fun b => R b ∧ some b ≠ v.ownBlock) x E) (own : w'.ownsRow B e sz v' (n + 1) (cs ++ E)) (hg : w.grownBy w' v.ownBlock) (hv : v'.ownBlock = v.ownBlock ∨ v'.ownBlock = some w.heap.size) :
 GOwn e sz P w' B R (xs ++ [x]) v' (n + 1) := by
 have key : ∀ y c, P w (fun b => R b ∧ some b ≠ v.ownBlock) y c → P w' (fun b => R b ∧ some b ≠ v'.ownBlock) y c := fun y c h => by
  refine C.mono (C.grown (C.mono h (R := fun b => (R b ∧ some b ≠ v'.ownBlock) ∧ some b ≠ v.ownBlock) fun b hb hlt => ⟨⟨hb.1, ?_⟩, hb.2⟩) hg (fun b hb => hb.2)) fun b hb _ => hb.1
  rcases hv with e | e
  · rw [e]; exact hb.2
  · rw [e]; intro e2; cases e2; omega
 exact ⟨⟨cs ++ E, own, (h2.mono key).append (Elems.one (key _ _ hx) (C.len hx))⟩, by simp [hl]⟩
end
theorem ap1g {α : Type} {e : TypeId} {sz bytes : Nat} {P : World → (Nat → Prop) → α → List Value → Prop} (C : Clo sz P) {t : TypeId} (T : ElemT Tryz.prog t e sz bytes)
 {ops : Array Oper} {rest : List Oper} {o : Oper} {a : Act} {Q : Exit → Act → World → Prop} {w : World} (hgd : o.guard = none) {s x : Operand}
 (ho : o.op = .call { callee := .builtin .append, args := #[s, x], argTypes := #[t, t] })
 {e' : TypeId} {B : Nat} {R : Nat → Prop} {v : Value} {n : Nat} {xs : List α} (hs : a.eval s = v) (hown : GOwn e sz P w B R xs v n) {y : α}
 {c : Nat} {E : List Value} (hx : a.eval x = .slice (some ⟨w.heap.size, 0, none⟩) 1 c) (hy : P w (fun b => R b ∧ some b ≠ v.ownBlock) y E) (hn : (n + 1) * bytes ≤ 140737488355328) (hbase : B ≤ w.heap.size)
 (h : ∀ v' w', GOwn e sz P w' B R (xs ++ [y]) v' (n + 1) → w.grownBy w' v.ownBlock → Below B w w' → w.heap.size < w'.heap.size → wpList Tryz.prog ops Q rest (a.put o.dst v') w') : wpList Tryz.prog ops Q (o :: rest) a (w.alloc (.cells E.toArray e')) := by
 have hA := hown.alloc C (.cells E.toArray e')
 obtain ⟨cs, own0, el0⟩ := hA.mem
 have hy' := C.below hy (w' := w.alloc (.cells E.toArray e')) ((Below.refl w.heap.size w).alloc nle _) nle
 refine apx hgd ho T hs own0 (m := 1) (news := E) ?_ hn (by simp; omega) fun v' w' h2 h3 h4 => h v' w' (GOwn.app C hA.len el0 hy' h2 h3 h4) (grownBy_trans_alloc h3) ?_ (by have := h3.size; simp at this; omega)
 · rw [hx]
   exact Src.ofSlice _ T.ht _ _ _ _ (by rw [C.len hy, Nat.one_mul]) (fun j u hu => by rw [addr_add]; simp [hu]) (C.one hy)
 · obtain ⟨cs0, own1, _⟩ := hown.mem
   exact grown_below (grownBy_trans_alloc h3) own1 hbase
end
end Go.Proofs.YtolfgcoalihmgaaGreatDoor
