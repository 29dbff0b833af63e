/- Contract: the complement of a range, by the program. -/
import Derived.Test.YtgngehfgcogceaaGreatDoorZDg
namespace Go.Proofs.YtgngehfgcogceaaGreatDoor
open Go.RowKit

theorem field_rng (o : Option Addr) (n c : Nat) (w : World) : (Instr.field 44 (.agg #[.slice o n c]) 0).run Tryz.prog w = .ok (.slice o n c) w := by kernel_rfl
theorem Bk.grown {w w' : World} {r : Nat} {cs : List Value} {row : Option Nat} (h : Bk w r cs) (hg : w.grownBy w' row) (hne : ∀ g, row = some g → g ≠ r) : Bk w' r cs :=
  have hb : w'.heap[r]? = w.heap[r]? := hg.block r h.lt (fun e => hne r e.symm rfl)
  ⟨fun o => by rw [World.cell?_of_block hb]; exact h.a o, fun o => by rw [World.frozen?_of_block hb]; exact h.f o, Nat.lt_of_lt_of_le h.lt hg.size⟩
/-- The blocks from lo up to hi are as they were. -/
structure Kept (lo hi : Nat) (w w' : World) : Prop where
  size : w.heap.size ≤ w'.heap.size
  block : ∀ b, lo ≤ b → b < hi → w'.heap[b]? = w.heap[b]?
theorem Kept.refl (lo hi : Nat) (w : World) : Kept lo hi w w := ⟨Nat.le_refl _, fun _ _ _ => rfl⟩
theorem Kept.below {lo hi : Nat} {w w' w2 : World} (h : Kept lo hi w w') {B : Nat} (hb : Below B w' w2) (hB : hi ≤ B) : Kept lo hi w w2 := ⟨Nat.le_trans h.size hb.size, fun b h1 h2 => (hb.block b (by omega)).trans (h.block b h1 h2)⟩
theorem Kept.set {lo hi : Nat} {w w' : World} (h : Kept lo hi w w') {p : Addr} (hp : p.block < lo) (v : Value) : Kept lo hi w (w'.setCell p v) := ⟨by rw [World.size_setCell]; exact h.size, fun b h1 h2 => (Below.heap_setCell _ _ _ _ (by omega)).trans (h.block b h1 h2)⟩
theorem VIn.kept {w w' : World} {v : Pl.Ver} {a : Option Addr} {c lo hi : Nat} (h : VIn w v a c) (hk : Kept lo hi w w') (hq : SlQ (fun b => lo ≤ b) a v.pre.length) (hs : w.heap.size ≤ hi) : VIn w' v a c := by
  refine ⟨⟨h.sl.hl, h.sl.hcap, h.sl.hmax, ?_⟩, h.ss⟩
  rcases h.sl.mem with h0 | ⟨b, off, rfl, hlt, hc⟩
  · exact .inl h0
  · rcases hq with h0 | ⟨b2, off2, e, hb⟩
    · left
      rw [List.length_eq_zero_iff.1 h0]; rfl
    · cases e
      refine .inr ⟨b, off, rfl, Nat.lt_of_lt_of_le hlt hk.size, fun j u hu => ?_⟩
      rw [World.cell?_of_block (hk.block b hb (by omega))]
      exact hc j u hu
theorem ROwn.kept {w w' : World} {B : Nat} {r : List Pl.Ivl} {v : Value} {n hi : Nat} (h : ROwn w B B r v n) (hk : Kept B hi w w') (hs : w.heap.size ≤ hi) : ROwn w' B B r v n := by
  obtain ⟨cs, h1, h2⟩ := h.mem
  refine ⟨⟨cs, ⟨h1.1, ?_⟩, h2.mono fun x c ⟨a, b, c1, d, e, g1, g2, g3, g4⟩ => ⟨a, b, c1, d, e, g1.kept hk (g3.mono fun _ h => h.1) hs, g2.kept hk (g4.mono fun _ h => h.1) hs, g3, g4⟩⟩, h.len⟩
  rcases h1.2 with hn | ⟨g, cap, cur, rfl, hbg, hgg, rest⟩
  · exact .inl hn
  · have hlt := (Array.getElem?_eq_some_iff.1 hgg).1
    exact .inr ⟨g, cap, cur, rfl, hbg, (hk.block g hbg (by omega)).trans hgg, rest⟩
/-- One interval of a row of one's own, and where its identifiers lie. -/
theorem ROwn.at {w : World} {B B0 : Nat} {r : List Pl.Ivl} {a : Option Addr} {n c : Nat} (h : ROwn w B B0 r (.slice a n c) n) (h0 : 0 < n) :
    ∃ b off, a = some ⟨b, off, none⟩ ∧ b < w.heap.size ∧ ∀ k (hk : k < r.length), ∃ a1 b1 c1 d1, IvAt w b (off + k * 9) r[k] a1 b1 c1 d1 ∧ SlQ (fun b => B0 ≤ b ∧ b < w.heap.size) a1 r[k].lo.pre.length ∧ SlQ (fun b => B0 ≤ b ∧ b < w.heap.size) b1 r[k].hi.pre.length := by
  obtain ⟨cs, h1, h2⟩ := h.mem
  have hs := Sl.own h1
  rcases hs.mem with rfl | ⟨b, off, rfl, hlt, hc⟩
  · have e1 := h2.len
    have e2 := h.len
    simp at e1
    omega
  · refine ⟨b, off, rfl, hlt, fun k hk => ?_⟩
    obtain ⟨es, ⟨a1, b1, c1, d1, rfl, g1, g2, g3, g4⟩, g5⟩ := h2.cells hc k hk
    refine ⟨a1, b1, c1, d1, ⟨g5 0 _ rfl, g5 1 _ rfl, g5 2 _ rfl, g5 3 _ rfl, g5 4 _ rfl, g5 5 _ rfl, g5 6 _ rfl, g5 7 _ rfl, g5 8 _ rfl, g1, g2⟩, (g1.with g3).mono fun _ h => ⟨h.1.1, h.2⟩, (g2.with g4).mono fun _ h => ⟨h.1.1, h.2⟩⟩
theorem own_lt {w : World} {B B0 : Nat} {r : List Pl.Ivl} {v : Value} {n : Nat} (h : ROwn w B B0 r v n) : ∀ g, v.ownBlock = some g → B ≤ g ∧ g < w.heap.size := fun g hg => by
  obtain ⟨cs, h1, _⟩ := h.mem
  exact h1.lt g hg
/-- What lies below a row's base does not lie in the row. -/
theorem SlQ.off {w : World} {B B0 D : Nat} {r : List Pl.Ivl} {v : Value} {n : Nat} (h : ROwn w B B0 r v n) (h0 : B0 = 0) (hD : D ≤ B) {a : Option Addr} {m : Nat} (hq : SlQ (fun b => b < D) a m) : SlQ (fun b => B0 ≤ b ∧ some b ≠ v.ownBlock) a m :=
  hq.mono fun b hb => ⟨by omega, fun e => by have := own_lt h b e.symm; omega⟩
/-- append of one interval that the statement itself has just laid. -/
theorem ap1r {ops : Array Oper} {rest : List Oper} {o : Oper} {a : Act} {Q : Exit → Act → World → Prop} {w : World} (hgd : o.guard = none) {s x : Operand}
    (ho : o.op = .call { callee := .builtin .append, args := #[s, x], argTypes := #[42, 42] })
    {e' : TypeId} {B B0 : Nat} {v : Value} {n : Nat} {r : List Pl.Ivl} (hs : a.eval s = v) (hown : ROwn w B B0 r v n) {y : Pl.Ivl}
    {c : Nat} {C : List Value} (hx : a.eval x = .slice (some ⟨w.heap.size, 0, none⟩) 1 c) (hy : IvQ w (fun b => B0 ≤ b ∧ some b ≠ v.ownBlock) y C) (hn : n ≤ 1000001) (hbase : B ≤ w.heap.size)
    (h : ∀ v' w', ROwn w' B B0 (r ++ [y]) v' (n + 1) → w.grownBy w' v.ownBlock → Below B w w' → w.heap.size < w'.heap.size → wpList Tryz.prog ops Q rest (a.put o.dst v') w') : wpList Tryz.prog ops Q (o :: rest) a (w.alloc (.cells C.toArray e')) := by
  have hA := hown.alloc (.cells C.toArray e')
  obtain ⟨cs, own0, el0⟩ := hA.mem
  have hy' := hy.below (w' := w.alloc (.cells C.toArray e')) ((Below.refl w.heap.size w).alloc (Nat.le_refl _) _) (Nat.le_refl _)
  refine apx hgd ho Tryz.tIvl hs own0 (m := 1) (news := C) ?_ (by omega) (by simp; omega) fun v' w' h2 h3 h4 => h v' w' (ROwn.app hA.len el0 hy' h2 h3 h4) (grownBy_trans_alloc h3) ?_ (by have := h3.size; simp at this; omega)
  · rw [hx]
    exact Src.ofSlice _ Tryz.tIvl.ht _ _ _ _ hy.is.len (fun j u hu => by rw [addr_add]; simp [hu]) hy.is.one
  · obtain ⟨cs0, own1, _⟩ := hown.mem
    exact grown_below (grownBy_trans_alloc h3) own1 hbase
namespace Pl
theorem inv_step {r : List Ivl} {k : Nat} {low : Ver} {out R : List Ivl} (hk : k < r.length) (h : out ++ invAt low (r.drop k) = R) :
    (r[k].un = true → out ++ (if verCmp low r[k].lo < 0 then [⟨low, r[k].lo, false⟩] else []) = R) ∧ (r[k].un = false → (out ++ (if verCmp low r[k].lo < 0 then [⟨low, r[k].lo, false⟩] else [])) ++ invAt r[k].hi (r.drop (k + 1)) = R) := by
  rw [List.drop_eq_getElem_cons hk, invAt, ← List.append_assoc] at h
  refine ⟨fun e => ?_, fun e => ?_⟩
  · rw [if_pos e, List.append_nil] at h; exact h
  · rw [if_neg (show ¬ r[k].un = true by rw [e]; decide)] at h; exact h
theorem inv_end {r : List Ivl} {k : Nat} {low : Ver} {out R : List Ivl} (hk : r.length ≤ k) (h : out ++ invAt low (r.drop k) = R) : out ++ [⟨low, Ver.zero, true⟩] = R := by
  rw [List.drop_of_length_le hk] at h; exact h
end Pl
theorem own_base {w : World} {B B0 : Nat} {r : List Pl.Ivl} {n c : Nat} (b off : Nat) (h : ROwn w B B0 r (.slice (some ⟨b, off, none⟩) n c) n) : B ≤ b := by
  obtain ⟨cs, h1, _⟩ := h.mem
  exact own_ge h1 b off rfl
theorem rngCopy_n (r : List Pl.Ivl) (n : Nat) (hl : r.length = n) (a : Option Addr) (c : Nat) (w : World) (h : RIn w r a c) (ok : ∀ x ∈ r, x.Ok) (hn : n ≤ 1000002) :
    Calls Tryz.prog 51 #[.agg #[.slice a n c]] w (RRngO r w) := by
  subst hl
  exact rngCopy_any r a c w h ok hn
/-- Where a complement stands after k rounds. -/
def InvInv (w w2 : World) (L : Nat) (r : List Pl.Ivl) (k : Nat) (wr : World) (o : Option Addr) (n c' : Nat) (low : Pl.Ver) (la : Option Addr) (lc : Nat) (out : List Pl.Ivl) : Prop :=
  Bk wr (w.heap.size + 1 + 1) [.slice o n c'] ∧ ROwn wr w2.heap.size 0 out (.slice o n c') n ∧ Bk wr L [.int .i64 low.maj, .int .i64 low.min, .int .i64 low.pat, .slice la low.pre.length lc] ∧ VIn wr low la lc ∧ SlQ (fun b => b < w2.heap.size) la low.pre.length ∧ low.Ok ∧
  Below w.heap.size w wr ∧ Bk wr (w.heap.size + 1) [.slice none 0 0] ∧ Kept (L + 1) w2.heap.size w2 wr ∧ out ++ Pl.invAt low (r.drop k) = Pl.invR r ∧ n ≤ k
def InvAt (w w2 : World) (L : Nat) (r : List Pl.Ivl) (k : Nat) (wr : World) : Prop := ∃ o n c' low la lc out, InvInv w w2 L r k wr o n c' low la lc out

set_option maxRecDepth 100000 in
set_option maxHeartbeats 8000000 in
theorem invert_any (r : List Pl.Ivl) (a : Option Addr) (c : Nat) (w : World) (h : RIn w r a c) (can : Pl.Can r) (hn : r.length ≤ 1000000) :
    Calls Tryz.prog 56 #[.agg #[.slice a r.length c]] w (RRng (Pl.invR r) w) := by
  have H := Lib.hid h
  have OK := Lib.hid can.ok
  have CR := Lib.hid (Pl.invR_can can).1
  clear h can
  have fld := field_rng
  go_enter Tryz.func56, Tryz.ntmps56
  have B0 : Below w.heap.size w w := Below.refl _ _
  go_wp2_with fail
  refine (lowest_any _).mono ?_
  rintro e w1 ⟨la, lc, rfl, VL, hb⟩
  replace VL := Lib.hid VL
  have B1 : Below w.heap.size w w1 := bcall (by go_grown) hb (by go_size)
  have q1 : w.heap.size + 3 ≤ w1.heap.size := by have z := hb.size; (try simp only [World.size_alloc] at z); omega
  replace H := Lib.hid ((((H.out.below (Below.refl _ _ |>.alloc (Nat.le_refl _) _) (Nat.le_refl _)).below (Below.refl _ _ |>.alloc (Nat.le_refl _) _) (Nat.le_refl _)).below (Below.refl _ _ |>.alloc (Nat.le_refl _) _) (Nat.le_refl _)).below hb (Nat.le_refl _))
  have X := ((((Bk.new (r := w.heap.size) (cs := [.slice a r.length c]) _ 44 (by simp)).alloc _).alloc _)).below hb (by go_size)
  have R := (((Bk.new (r := w.heap.size + 1) (cs := [.slice none 0 0]) _ 44 (by simp)).alloc _)).below hb (by go_size)
  have O := ((Bk.new (r := w.heap.size + 1 + 1) (cs := [.slice none 0 0]) _ 44 (by simp))).below hb (by go_size)
  clear hb
  have s1 : w.heap.size ≤ w1.heap.size := B1.size
  obtain ⟨X_c, X_f, X_l⟩ := id X
  obtain ⟨R_c, R_f, R_l⟩ := id R
  obtain ⟨O_c, O_f, O_l⟩ := id O
  go_wp2_with fail
  have QL := Lib.hid VL.out.at
  refine (rngCopy_any r a c _ (H.out.below (by go_grown) (Nat.le_refl _)) OK.out (by omega)).mono ?_
  rintro e w2 ⟨oc, nc, cc, rfl, OW, hb⟩
  have hnc := OW.len
  subst hnc
  simp only [World.size_alloc] at OW
  have HOW := Lib.hid OW
  clear OW
  have B2 : Below w.heap.size w w2 := bcall (by go_grown) hb (by go_size)
  have q2 : w1.heap.size + 1 ≤ w2.heap.size := by have z := hb.size; (try simp only [World.size_alloc] at z); omega
  replace H := Lib.hid ((H.out.below (Below.refl _ _ |>.alloc (Nat.le_refl _) _) (Nat.le_refl _)).below hb (Nat.le_refl _))
  replace VL := Lib.hid ((VL.out.below (Below.refl _ _ |>.alloc (Nat.le_refl _) _) (Nat.le_refl _)).below hb (Nat.le_refl _))
  replace X := ((X.alloc _)).below hb (by go_size)
  replace R := ((R.alloc _)).below hb (by go_size)
  replace O := ((O.alloc _)).below hb (by go_size)
  have L := ((Bk.new (r := w1.heap.size) (cs := [.int .i64 Pl.lowV.maj, .int .i64 Pl.lowV.min, .int .i64 Pl.lowV.pat, .slice la Pl.lowV.pre.length lc]) _ 48 (by simp))).below hb (by go_size)
  clear hb
  have s2 : w.heap.size ≤ w2.heap.size := B2.size
  clear X_c X_f X_l R_c R_f R_l O_c O_f O_l
  obtain ⟨X_c, X_f, X_l⟩ := id X
  obtain ⟨R_c, R_f, R_l⟩ := id R
  obtain ⟨O_c, O_f, O_l⟩ := id O
  obtain ⟨L_c, L_f, L_l⟩ := id L
  clear X
  go_wp2_with fail
  go_loopw [12] (fun i wr => ∃ k : Nat, k ≤ r.length ∧ i = .int .i64 k ∧ InvAt w w2 w1.heap.size r k wr) (fun i _ => r.length - (intOf i).toNat)
  case atStart => exact ⟨0, Nat.zero_le _, rfl, none, 0, 0, Pl.lowV, la, lc, [], O, ROwn.nil _ _ _, L, VL.out, QL.out.mono (fun b hb => by omega), Pl.lowV_ok, B2, R, Kept.refl _ _ _, rfl, Nat.le_refl _⟩
  case round =>
    obtain ⟨k, hk, rfl, hinv⟩ := hrel
    clear O R L VL QL H B0 B1 B2
    obtain ⟨o, n, c', low, la, lc, out, O, OW, L, VL, QL, OKL, B1, R, KP, EQ, hnk⟩ := hinv
    replace VL := Lib.hid VL
    replace QL := Lib.hid QL
    replace OKL := Lib.hid OKL
    replace EQ := Lib.hid EQ
    have s3 := B1.size
    have s4 := KP.size
    by_cases hlt2 : k < r.length
    · obtain ⟨b, off, rfl, hlt, hat⟩ := (HOW.out.kept KP (Nat.le_refl _)).at (by omega)
      obtain ⟨a1, b1, c1, d1, I, -, -⟩ := hat k hlt2
      have QQ : SlQ (fun b => b < w2.heap.size) a1 r[k].lo.pre.length ∧ SlQ (fun b => b < w2.heap.size) b1 r[k].hi.pre.length := by
        obtain ⟨b', off', e', hlt', hat'⟩ := HOW.out.at (by omega)
        cases e'
        obtain ⟨a2, b2, c2, d2, I2, QA2, QB2⟩ := hat' k hlt2
        have e3 : w2.cell? ⟨b, off + k * 9 + 3, none⟩ = wr.cell? ⟨b, off + k * 9 + 3, none⟩ := (World.cell?_of_block (KP.block b (own_base b off HOW.out) hlt')).symm
        have e7 : w2.cell? ⟨b, off + k * 9 + 7, none⟩ = wr.cell? ⟨b, off + k * 9 + 7, none⟩ := (World.cell?_of_block (KP.block b (own_base b off HOW.out) hlt')).symm
        rw [I2.e3, I.e3] at e3
        rw [I2.e7, I.e7] at e7
        injection e3 with e3
        injection e7 with e7
        injection e3 with e3 _ _
        injection e7 with e7 _ _
        subst e3 e7
        exact ⟨QA2.mono fun _ h => h.2, QB2.mono fun _ h => h.2⟩
      obtain ⟨QA, QB⟩ := QQ
      replace QA := Lib.hid QA
      replace QB := Lib.hid QB
      have OX := Lib.hid (OK.out _ (List.getElem_mem hlt2))
      have ST := Lib.hid (Pl.inv_step hlt2 EQ.out)
      have HGW := Lib.hid (fun g hg => (own_lt OW g hg).2)
      clear hat EQ
      obtain ⟨e0, e1, e2, e3, e4, e5, e6, e7, e8, VA, VB⟩ := I
      replace VA := Lib.hid VA
      replace VB := Lib.hid VB
      have CO := Lib.hid (fun (W : World) (g1 : VIn W low la lc) (g2 : VIn W r[k].lo a1 c1) => Order_any low r[k].lo la a1 lc c1 W (VOk.of g1 OKL.out) (VOk.of g2 OX.out.lo))
      obtain ⟨K, hK⟩ : ∃ K, Pl.verCmp low r[k].lo = K := ⟨_, rfl⟩
      rw [hK] at CO ST
      generalize r[k] = x at *
      cases hu : x.un with
      | true =>
        rw [hu] at e8
        have E := Lib.hid (ST.out.1 hu)
        clear ST
        by_cases k0 : K < 0
        · have t1 := decT k0
          rw [if_pos k0] at E
          clear k0 hu hK
          obtain ⟨O_c, O_f, O_l⟩ := id O
          obtain ⟨R_c, R_f, R_l⟩ := id R
          obtain ⟨L_c, L_f, L_l⟩ := id L
          go_wp2_with fail
          refine (CO.out _ (VL.out.below (by go_grown) (Nat.le_refl _)) (VA.out.below (by go_grown) (Nat.le_refl _))).mono ?_
          rintro e w5 ⟨rfl, hb⟩
          replace OW := (OW.alloc _).below hb (Nat.le_refl _)
          replace KP := (KP.below (w2 := w5) (bcall (B := wr.heap.size) (by go_grown) hb (by simp)) (by omega))
          have B5 : Below w.heap.size w w5 := bcall (by go_grown) hb (by go_size)
          have q5 : wr.heap.size + 1 ≤ w5.heap.size := by have z := hb.size; (try simp only [World.size_alloc] at z); omega
          replace VL := Lib.hid ((VL.out.below (Below.refl _ _ |>.alloc (Nat.le_refl _) _) (Nat.le_refl _)).below hb (Nat.le_refl _))
          replace VA := Lib.hid ((VA.out.below (Below.refl _ _ |>.alloc (Nat.le_refl _) _) (Nat.le_refl _)).below hb (Nat.le_refl _))
          replace VB := Lib.hid ((VB.out.below (Below.refl _ _ |>.alloc (Nat.le_refl _) _) (Nat.le_refl _)).below hb (Nat.le_refl _))
          replace O := ((O.alloc _)).below hb (by go_size)
          replace R := ((R.alloc _)).below hb (by go_size)
          replace L := ((L.alloc _)).below hb (by go_size)
          have Y := ((Bk.new (r := wr.heap.size) (cs := [.int .i64 x.lo.maj, .int .i64 x.lo.min, .int .i64 x.lo.pat, .slice a1 x.lo.pre.length c1, .int .i64 x.hi.maj, .int .i64 x.hi.min, .int .i64 x.hi.pat, .slice b1 x.hi.pre.length d1, .bool true]) _ 103 (by simp))).below hb (by go_size)
          clear hb
          have s5 : w.heap.size ≤ w5.heap.size := B5.size
          clear O_c O_f O_l R_c R_f R_l L_c L_f L_l
          obtain ⟨O_c, O_f, O_l⟩ := id O
          obtain ⟨R_c, R_f, R_l⟩ := id R
          obtain ⟨L_c, L_f, L_l⟩ := id L
          obtain ⟨Y_c, Y_f, Y_l⟩ := id Y
          clear CO e0 e1 e2 e3 e4 e5 e6 e7 e8
          have QY : IvQ w5 (fun b => 0 ≤ b ∧ some b ≠ (Value.slice o n c').ownBlock) ⟨low, x.lo, false⟩ [.int .i64 low.maj, .int .i64 low.min, .int .i64 low.pat, .slice la low.pre.length lc, .int .i64 x.lo.maj, .int .i64 x.lo.min, .int .i64 x.lo.pat, .slice a1 x.lo.pre.length c1, .bool false] := ⟨la, a1, lc, c1, rfl, VL.out, VA.out, SlQ.off OW rfl (Nat.le_refl _) QL.out, SlQ.off OW rfl (Nat.le_refl _) QA.out⟩
          have hlt6 : ∀ g, (Value.slice o n c').ownBlock = some g → g < wr.heap.size := HGW.out
          go_wp2_with (at_builtin; go_loud (refine ap1r (by rfl) (by rfl) (by rfl) OW (c := 1) (C := [.int .i64 low.maj, .int .i64 low.min, .int .i64 low.pat, .slice la low.pre.length lc, .int .i64 x.lo.maj, .int .i64 x.lo.min, .int .i64 x.lo.pat, .slice a1 x.lo.pre.length c1, .bool false]) (by rfl) QY (by omega) (by omega) ?_); intro v6 w6 NEW hg6 hb6 hs6; have hlt5 := own_lt OW; replace VL := Lib.hid (VL.out.grown hg6 ((SlQ.off OW rfl (Nat.le_refl _) QL.out).mono fun _ h => h.2)); replace VA := Lib.hid (VA.out.grown hg6 ((SlQ.off OW rfl (Nat.le_refl _) QA.out).mono fun _ h => h.2)); replace VB := Lib.hid (VB.out.grown hg6 ((SlQ.off OW rfl (Nat.le_refl _) QB.out).mono fun _ h => h.2)); replace O := O.below hb6 (by omega); replace R := R.below hb6 (by omega); replace L := L.below hb6 (by omega); replace Y := Y.grown hg6 (fun g hg => by have := hlt6 g hg; omega); replace KP := KP.below hb6 (Nat.le_refl _); have B6 : Below w.heap.size w w6 := bcall B5 hb6 (by omega); obtain ⟨o6, c6, rfl⟩ := NEW.slice; clear hg6 hb6 OW QY hlt5 hlt6 O_c O_f O_l R_c R_f R_l L_c L_f L_l Y_c Y_f Y_l; obtain ⟨O_c, O_f, O_l⟩ := id O; obtain ⟨Y_c, Y_f, Y_l⟩ := id Y; obtain ⟨L_c, L_f, L_l⟩ := id L; obtain ⟨R_c, R_f, R_l⟩ := id R)
          have RN := ((R.far (a := ⟨w.heap.size + 1 + 1, 0, none⟩) (by dsimp only; omega) (.slice o6 (n + 1) c6)).set (k := 0) (by simp) (.slice o6 (n + 1) c6))
          obtain ⟨RN_c, RN_f, RN_l⟩ := RN
          have FIN := (NEW.far (by simp; omega) (O.c 0) (fun _ h => by cases h) (.slice o6 (n + 1) c6)).far (p := ⟨w.heap.size + 1, 0, none⟩) (by dsimp only; omega) ((R.far (a := ⟨w.heap.size + 1 + 1, 0, none⟩) (by dsimp only; omega) (.slice o6 (n + 1) c6)).c 0) (fun _ h => by cases h) (.slice o6 (n + 1) c6)
          have hfl := FIN.len
          rw [E.out] at hfl FIN
          have FIR := FIN.rin
          refine bodyPost_ret (v := .agg #[.slice o6 (n + 1) c6]) (by simp [results, Tryz.results56, go_sem, RN_c]) rfl ⟨o6, c6, by rw [hfl], FIR, by go_grown⟩
        · have t1 := decF k0
          rw [if_neg k0, List.append_nil] at E
          clear k0 hu hK
          obtain ⟨O_c, O_f, O_l⟩ := id O
          obtain ⟨R_c, R_f, R_l⟩ := id R
          obtain ⟨L_c, L_f, L_l⟩ := id L
          go_wp2_with fail
          refine (CO.out _ (VL.out.below (by go_grown) (Nat.le_refl _)) (VA.out.below (by go_grown) (Nat.le_refl _))).mono ?_
          rintro e w5 ⟨rfl, hb⟩
          replace OW := (OW.alloc _).below hb (Nat.le_refl _)
          replace KP := (KP.below (w2 := w5) (bcall (B := wr.heap.size) (by go_grown) hb (by simp)) (by omega))
          have B5 : Below w.heap.size w w5 := bcall (by go_grown) hb (by go_size)
          have q5 : wr.heap.size + 1 ≤ w5.heap.size := by have z := hb.size; (try simp only [World.size_alloc] at z); omega
          replace VL := Lib.hid ((VL.out.below (Below.refl _ _ |>.alloc (Nat.le_refl _) _) (Nat.le_refl _)).below hb (Nat.le_refl _))
          replace VA := Lib.hid ((VA.out.below (Below.refl _ _ |>.alloc (Nat.le_refl _) _) (Nat.le_refl _)).below hb (Nat.le_refl _))
          replace VB := Lib.hid ((VB.out.below (Below.refl _ _ |>.alloc (Nat.le_refl _) _) (Nat.le_refl _)).below hb (Nat.le_refl _))
          replace O := ((O.alloc _)).below hb (by go_size)
          replace R := ((R.alloc _)).below hb (by go_size)
          replace L := ((L.alloc _)).below hb (by go_size)
          have Y := ((Bk.new (r := wr.heap.size) (cs := [.int .i64 x.lo.maj, .int .i64 x.lo.min, .int .i64 x.lo.pat, .slice a1 x.lo.pre.length c1, .int .i64 x.hi.maj, .int .i64 x.hi.min, .int .i64 x.hi.pat, .slice b1 x.hi.pre.length d1, .bool true]) _ 103 (by simp))).below hb (by go_size)
          clear hb
          have s5 : w.heap.size ≤ w5.heap.size := B5.size
          clear O_c O_f O_l R_c R_f R_l L_c L_f L_l
          obtain ⟨O_c, O_f, O_l⟩ := id O
          obtain ⟨R_c, R_f, R_l⟩ := id R
          obtain ⟨L_c, L_f, L_l⟩ := id L
          obtain ⟨Y_c, Y_f, Y_l⟩ := id Y
          clear CO e0 e1 e2 e3 e4 e5 e6 e7 e8
          go_wp2_with fail
          have RN := (R.set (k := 0) (by simp) (.slice o (n) c'))
          obtain ⟨RN_c, RN_f, RN_l⟩ := RN
          have FIN := OW.far (p := ⟨w.heap.size + 1, 0, none⟩) (by dsimp only; omega) (R.c 0) (fun _ h => by cases h) (.slice o (n) c')
          have hfl := FIN.len
          rw [E.out] at hfl FIN
          have FIR := FIN.rin
          refine bodyPost_ret (v := .agg #[.slice o (n) c']) (by simp [results, Tryz.results56, go_sem, RN_c]) rfl ⟨o, c', by rw [hfl], FIR, by go_grown⟩
      | false =>
        rw [hu] at e8
        have E := Lib.hid (ST.out.2 hu)
        clear ST
        by_cases k0 : K < 0
        · have t1 := decT k0
          rw [if_pos k0] at E
          clear k0 hu hK
          obtain ⟨O_c, O_f, O_l⟩ := id O
          obtain ⟨R_c, R_f, R_l⟩ := id R
          obtain ⟨L_c, L_f, L_l⟩ := id L
          go_wp2_with fail
          refine (CO.out _ (VL.out.below (by go_grown) (Nat.le_refl _)) (VA.out.below (by go_grown) (Nat.le_refl _))).mono ?_
          rintro e w5 ⟨rfl, hb⟩
          replace OW := (OW.alloc _).below hb (Nat.le_refl _)
          replace KP := (KP.below (w2 := w5) (bcall (B := wr.heap.size) (by go_grown) hb (by simp)) (by omega))
          have B5 : Below w.heap.size w w5 := bcall (by go_grown) hb (by go_size)
          have q5 : wr.heap.size + 1 ≤ w5.heap.size := by have z := hb.size; (try simp only [World.size_alloc] at z); omega
          replace VL := Lib.hid ((VL.out.below (Below.refl _ _ |>.alloc (Nat.le_refl _) _) (Nat.le_refl _)).below hb (Nat.le_refl _))
          replace VA := Lib.hid ((VA.out.below (Below.refl _ _ |>.alloc (Nat.le_refl _) _) (Nat.le_refl _)).below hb (Nat.le_refl _))
          replace VB := Lib.hid ((VB.out.below (Below.refl _ _ |>.alloc (Nat.le_refl _) _) (Nat.le_refl _)).below hb (Nat.le_refl _))
          replace O := ((O.alloc _)).below hb (by go_size)
          replace R := ((R.alloc _)).below hb (by go_size)
          replace L := ((L.alloc _)).below hb (by go_size)
          have Y := ((Bk.new (r := wr.heap.size) (cs := [.int .i64 x.lo.maj, .int .i64 x.lo.min, .int .i64 x.lo.pat, .slice a1 x.lo.pre.length c1, .int .i64 x.hi.maj, .int .i64 x.hi.min, .int .i64 x.hi.pat, .slice b1 x.hi.pre.length d1, .bool false]) _ 103 (by simp))).below hb (by go_size)
          clear hb
          have s5 : w.heap.size ≤ w5.heap.size := B5.size
          clear O_c O_f O_l R_c R_f R_l L_c L_f L_l
          obtain ⟨O_c, O_f, O_l⟩ := id O
          obtain ⟨R_c, R_f, R_l⟩ := id R
          obtain ⟨L_c, L_f, L_l⟩ := id L
          obtain ⟨Y_c, Y_f, Y_l⟩ := id Y
          clear CO e0 e1 e2 e3 e4 e5 e6 e7 e8
          have QY : IvQ w5 (fun b => 0 ≤ b ∧ some b ≠ (Value.slice o n c').ownBlock) ⟨low, x.lo, false⟩ [.int .i64 low.maj, .int .i64 low.min, .int .i64 low.pat, .slice la low.pre.length lc, .int .i64 x.lo.maj, .int .i64 x.lo.min, .int .i64 x.lo.pat, .slice a1 x.lo.pre.length c1, .bool false] := ⟨la, a1, lc, c1, rfl, VL.out, VA.out, SlQ.off OW rfl (Nat.le_refl _) QL.out, SlQ.off OW rfl (Nat.le_refl _) QA.out⟩
          have hlt6 : ∀ g, (Value.slice o n c').ownBlock = some g → g < wr.heap.size := HGW.out
          go_wp2_with (at_builtin; go_loud (refine ap1r (by rfl) (by rfl) (by rfl) OW (c := 1) (C := [.int .i64 low.maj, .int .i64 low.min, .int .i64 low.pat, .slice la low.pre.length lc, .int .i64 x.lo.maj, .int .i64 x.lo.min, .int .i64 x.lo.pat, .slice a1 x.lo.pre.length c1, .bool false]) (by rfl) QY (by omega) (by omega) ?_); intro v6 w6 NEW hg6 hb6 hs6; have hlt5 := own_lt OW; replace VL := Lib.hid (VL.out.grown hg6 ((SlQ.off OW rfl (Nat.le_refl _) QL.out).mono fun _ h => h.2)); replace VA := Lib.hid (VA.out.grown hg6 ((SlQ.off OW rfl (Nat.le_refl _) QA.out).mono fun _ h => h.2)); replace VB := Lib.hid (VB.out.grown hg6 ((SlQ.off OW rfl (Nat.le_refl _) QB.out).mono fun _ h => h.2)); replace O := O.below hb6 (by omega); replace R := R.below hb6 (by omega); replace L := L.below hb6 (by omega); replace Y := Y.grown hg6 (fun g hg => by have := hlt6 g hg; omega); replace KP := KP.below hb6 (Nat.le_refl _); have B6 : Below w.heap.size w w6 := bcall B5 hb6 (by omega); obtain ⟨o6, c6, rfl⟩ := NEW.slice; clear hg6 hb6 OW QY hlt5 hlt6 O_c O_f O_l R_c R_f R_l L_c L_f L_l Y_c Y_f Y_l; obtain ⟨O_c, O_f, O_l⟩ := id O; obtain ⟨Y_c, Y_f, Y_l⟩ := id Y; obtain ⟨L_c, L_f, L_l⟩ := id L; obtain ⟨R_c, R_f, R_l⟩ := id R)
          have FO := (((((O.set (k := 0) (by simp) (.slice o6 (n + 1) c6)).far (a := ⟨w1.heap.size, 0, none⟩) (by dsimp only; omega) (.int .i64 x.hi.maj)).far (a := ⟨w1.heap.size, 1, none⟩) (by dsimp only; omega) (.int .i64 x.hi.min)).far (a := ⟨w1.heap.size, 2, none⟩) (by dsimp only; omega) (.int .i64 x.hi.pat)).far (a := ⟨w1.heap.size, 3, none⟩) (by dsimp only; omega) (.slice b1 x.hi.pre.length d1))
          have FL := (((((L.far (a := ⟨w.heap.size + 1 + 1, 0, none⟩) (by dsimp only; omega) (.slice o6 (n + 1) c6)).set (k := 0) (by simp) (.int .i64 x.hi.maj)).set (k := 1) (by simp) (.int .i64 x.hi.min)).set (k := 2) (by simp) (.int .i64 x.hi.pat)).set (k := 3) (by simp) (.slice b1 x.hi.pre.length d1))
          have FR := (((((R.far (a := ⟨w.heap.size + 1 + 1, 0, none⟩) (by dsimp only; omega) (.slice o6 (n + 1) c6)).far (a := ⟨w1.heap.size, 0, none⟩) (by dsimp only; omega) (.int .i64 x.hi.maj)).far (a := ⟨w1.heap.size, 1, none⟩) (by dsimp only; omega) (.int .i64 x.hi.min)).far (a := ⟨w1.heap.size, 2, none⟩) (by dsimp only; omega) (.int .i64 x.hi.pat)).far (a := ⟨w1.heap.size, 3, none⟩) (by dsimp only; omega) (.slice b1 x.hi.pre.length d1))
          have FV := (((((VB.out.setNS (O.c 0) (fun _ h => by cases h) (.slice o6 (n + 1) c6)).setNS ((L.far (a := ⟨w.heap.size + 1 + 1, 0, none⟩) (by dsimp only; omega) (.slice o6 (n + 1) c6)).c 0) (fun _ h => by cases h) (.int .i64 x.hi.maj)).setNS (((L.far (a := ⟨w.heap.size + 1 + 1, 0, none⟩) (by dsimp only; omega) (.slice o6 (n + 1) c6)).set (k := 0) (by simp) (.int .i64 x.hi.maj)).c 1) (fun _ h => by cases h) (.int .i64 x.hi.min)).setNS ((((L.far (a := ⟨w.heap.size + 1 + 1, 0, none⟩) (by dsimp only; omega) (.slice o6 (n + 1) c6)).set (k := 0) (by simp) (.int .i64 x.hi.maj)).set (k := 1) (by simp) (.int .i64 x.hi.min)).c 2) (fun _ h => by cases h) (.int .i64 x.hi.pat)).setNS (((((L.far (a := ⟨w.heap.size + 1 + 1, 0, none⟩) (by dsimp only; omega) (.slice o6 (n + 1) c6)).set (k := 0) (by simp) (.int .i64 x.hi.maj)).set (k := 1) (by simp) (.int .i64 x.hi.min)).set (k := 2) (by simp) (.int .i64 x.hi.pat)).c 3) (fun _ h => by cases h) (.slice b1 x.hi.pre.length d1))
          have FOW := (((((NEW.far (by simp; omega) (O.c 0) (fun _ h => by cases h) (.slice o6 (n + 1) c6)).far (p := ⟨w1.heap.size, 0, none⟩) (by dsimp only; omega) ((L.far (a := ⟨w.heap.size + 1 + 1, 0, none⟩) (by dsimp only; omega) (.slice o6 (n + 1) c6)).c 0) (fun _ h => by cases h) (.int .i64 x.hi.maj)).far (p := ⟨w1.heap.size, 1, none⟩) (by dsimp only; omega) (((L.far (a := ⟨w.heap.size + 1 + 1, 0, none⟩) (by dsimp only; omega) (.slice o6 (n + 1) c6)).set (k := 0) (by simp) (.int .i64 x.hi.maj)).c 1) (fun _ h => by cases h) (.int .i64 x.hi.min)).far (p := ⟨w1.heap.size, 2, none⟩) (by dsimp only; omega) ((((L.far (a := ⟨w.heap.size + 1 + 1, 0, none⟩) (by dsimp only; omega) (.slice o6 (n + 1) c6)).set (k := 0) (by simp) (.int .i64 x.hi.maj)).set (k := 1) (by simp) (.int .i64 x.hi.min)).c 2) (fun _ h => by cases h) (.int .i64 x.hi.pat)).far (p := ⟨w1.heap.size, 3, none⟩) (by dsimp only; omega) (((((L.far (a := ⟨w.heap.size + 1 + 1, 0, none⟩) (by dsimp only; omega) (.slice o6 (n + 1) c6)).set (k := 0) (by simp) (.int .i64 x.hi.maj)).set (k := 1) (by simp) (.int .i64 x.hi.min)).set (k := 2) (by simp) (.int .i64 x.hi.pat)).c 3) (fun _ h => by cases h) (.slice b1 x.hi.pre.length d1))
          have FK := (((((KP.set (p := ⟨w.heap.size + 1 + 1, 0, none⟩) (by dsimp only; omega) (.slice o6 (n + 1) c6)).set (p := ⟨w1.heap.size, 0, none⟩) (by dsimp only; omega) (.int .i64 x.hi.maj)).set (p := ⟨w1.heap.size, 1, none⟩) (by dsimp only; omega) (.int .i64 x.hi.min)).set (p := ⟨w1.heap.size, 2, none⟩) (by dsimp only; omega) (.int .i64 x.hi.pat)).set (p := ⟨w1.heap.size, 3, none⟩) (by dsimp only; omega) (.slice b1 x.hi.pre.length d1))
          go_roundw
          case rel => exact ⟨k + 1, hlt2, by go_num, o6, n + 1, c6, x.hi, b1, d1, _, FO, FOW, FL, FV, QB.out, OX.out.hi, by go_grown, FR, FK, E.out, by omega⟩
          case measure => simp [intOf]; omega
        · have t1 := decF k0
          rw [if_neg k0, List.append_nil] at E
          clear k0 hu hK
          obtain ⟨O_c, O_f, O_l⟩ := id O
          obtain ⟨R_c, R_f, R_l⟩ := id R
          obtain ⟨L_c, L_f, L_l⟩ := id L
          go_wp2_with fail
          refine (CO.out _ (VL.out.below (by go_grown) (Nat.le_refl _)) (VA.out.below (by go_grown) (Nat.le_refl _))).mono ?_
          rintro e w5 ⟨rfl, hb⟩
          replace OW := (OW.alloc _).below hb (Nat.le_refl _)
          replace KP := (KP.below (w2 := w5) (bcall (B := wr.heap.size) (by go_grown) hb (by simp)) (by omega))
          have B5 : Below w.heap.size w w5 := bcall (by go_grown) hb (by go_size)
          have q5 : wr.heap.size + 1 ≤ w5.heap.size := by have z := hb.size; (try simp only [World.size_alloc] at z); omega
          replace VL := Lib.hid ((VL.out.below (Below.refl _ _ |>.alloc (Nat.le_refl _) _) (Nat.le_refl _)).below hb (Nat.le_refl _))
          replace VA := Lib.hid ((VA.out.below (Below.refl _ _ |>.alloc (Nat.le_refl _) _) (Nat.le_refl _)).below hb (Nat.le_refl _))
          replace VB := Lib.hid ((VB.out.below (Below.refl _ _ |>.alloc (Nat.le_refl _) _) (Nat.le_refl _)).below hb (Nat.le_refl _))
          replace O := ((O.alloc _)).below hb (by go_size)
          replace R := ((R.alloc _)).below hb (by go_size)
          replace L := ((L.alloc _)).below hb (by go_size)
          have Y := ((Bk.new (r := wr.heap.size) (cs := [.int .i64 x.lo.maj, .int .i64 x.lo.min, .int .i64 x.lo.pat, .slice a1 x.lo.pre.length c1, .int .i64 x.hi.maj, .int .i64 x.hi.min, .int .i64 x.hi.pat, .slice b1 x.hi.pre.length d1, .bool false]) _ 103 (by simp))).below hb (by go_size)
          clear hb
          have s5 : w.heap.size ≤ w5.heap.size := B5.size
          clear O_c O_f O_l R_c R_f R_l L_c L_f L_l
          obtain ⟨O_c, O_f, O_l⟩ := id O
          obtain ⟨R_c, R_f, R_l⟩ := id R
          obtain ⟨L_c, L_f, L_l⟩ := id L
          obtain ⟨Y_c, Y_f, Y_l⟩ := id Y
          clear CO e0 e1 e2 e3 e4 e5 e6 e7 e8
          go_wp2_with fail
          have FO := ((((O.far (a := ⟨w1.heap.size, 0, none⟩) (by dsimp only; omega) (.int .i64 x.hi.maj)).far (a := ⟨w1.heap.size, 1, none⟩) (by dsimp only; omega) (.int .i64 x.hi.min)).far (a := ⟨w1.heap.size, 2, none⟩) (by dsimp only; omega) (.int .i64 x.hi.pat)).far (a := ⟨w1.heap.size, 3, none⟩) (by dsimp only; omega) (.slice b1 x.hi.pre.length d1))
          have FL := ((((L.set (k := 0) (by simp) (.int .i64 x.hi.maj)).set (k := 1) (by simp) (.int .i64 x.hi.min)).set (k := 2) (by simp) (.int .i64 x.hi.pat)).set (k := 3) (by simp) (.slice b1 x.hi.pre.length d1))
          have FR := ((((R.far (a := ⟨w1.heap.size, 0, none⟩) (by dsimp only; omega) (.int .i64 x.hi.maj)).far (a := ⟨w1.heap.size, 1, none⟩) (by dsimp only; omega) (.int .i64 x.hi.min)).far (a := ⟨w1.heap.size, 2, none⟩) (by dsimp only; omega) (.int .i64 x.hi.pat)).far (a := ⟨w1.heap.size, 3, none⟩) (by dsimp only; omega) (.slice b1 x.hi.pre.length d1))
          have FV := ((((VB.out.setNS (L.c 0) (fun _ h => by cases h) (.int .i64 x.hi.maj)).setNS ((L.set (k := 0) (by simp) (.int .i64 x.hi.maj)).c 1) (fun _ h => by cases h) (.int .i64 x.hi.min)).setNS (((L.set (k := 0) (by simp) (.int .i64 x.hi.maj)).set (k := 1) (by simp) (.int .i64 x.hi.min)).c 2) (fun _ h => by cases h) (.int .i64 x.hi.pat)).setNS ((((L.set (k := 0) (by simp) (.int .i64 x.hi.maj)).set (k := 1) (by simp) (.int .i64 x.hi.min)).set (k := 2) (by simp) (.int .i64 x.hi.pat)).c 3) (fun _ h => by cases h) (.slice b1 x.hi.pre.length d1))
          have FOW := ((((OW.far (p := ⟨w1.heap.size, 0, none⟩) (by dsimp only; omega) (L.c 0) (fun _ h => by cases h) (.int .i64 x.hi.maj)).far (p := ⟨w1.heap.size, 1, none⟩) (by dsimp only; omega) ((L.set (k := 0) (by simp) (.int .i64 x.hi.maj)).c 1) (fun _ h => by cases h) (.int .i64 x.hi.min)).far (p := ⟨w1.heap.size, 2, none⟩) (by dsimp only; omega) (((L.set (k := 0) (by simp) (.int .i64 x.hi.maj)).set (k := 1) (by simp) (.int .i64 x.hi.min)).c 2) (fun _ h => by cases h) (.int .i64 x.hi.pat)).far (p := ⟨w1.heap.size, 3, none⟩) (by dsimp only; omega) ((((L.set (k := 0) (by simp) (.int .i64 x.hi.maj)).set (k := 1) (by simp) (.int .i64 x.hi.min)).set (k := 2) (by simp) (.int .i64 x.hi.pat)).c 3) (fun _ h => by cases h) (.slice b1 x.hi.pre.length d1))
          have FK := ((((KP.set (p := ⟨w1.heap.size, 0, none⟩) (by dsimp only; omega) (.int .i64 x.hi.maj)).set (p := ⟨w1.heap.size, 1, none⟩) (by dsimp only; omega) (.int .i64 x.hi.min)).set (p := ⟨w1.heap.size, 2, none⟩) (by dsimp only; omega) (.int .i64 x.hi.pat)).set (p := ⟨w1.heap.size, 3, none⟩) (by dsimp only; omega) (.slice b1 x.hi.pre.length d1))
          go_roundw
          case rel => exact ⟨k + 1, hlt2, by go_num, o, n, c', x.hi, b1, d1, _, FO, FOW, FL, FV, QB.out, OX.out.hi, by go_grown, FR, FK, E.out, by omega⟩
          case measure => simp [intOf]; omega
    · skip
      have E := Lib.hid (Pl.inv_end (by omega) EQ.out)
      have t2 : decide ((k : Int) < (r.length : Int)) = false := by simp; omega
      have t3 : decide (k < r.length) = false := by simp; omega
      clear EQ
      obtain ⟨O_c, O_f, O_l⟩ := id O
      obtain ⟨R_c, R_f, R_l⟩ := id R
      obtain ⟨L_c, L_f, L_l⟩ := id L
      have QY : IvQ wr (fun b => 0 ≤ b ∧ some b ≠ (Value.slice o n c').ownBlock) ⟨low, Pl.Ver.zero, true⟩ [.int .i64 low.maj, .int .i64 low.min, .int .i64 low.pat, .slice la low.pre.length lc, .int .i64 0, .int .i64 0, .int .i64 0, .slice none 0 0, .bool true] := ⟨la, none, lc, 0, rfl, VL.out, VIn.zero _, SlQ.off OW rfl (Nat.le_refl _) QL.out, .inl rfl⟩
      go_wp2_with (at_builtin; go_loud (refine ap1r (by rfl) (by rfl) (by rfl) OW (c := 1) (C := [.int .i64 low.maj, .int .i64 low.min, .int .i64 low.pat, .slice la low.pre.length lc, .int .i64 0, .int .i64 0, .int .i64 0, .slice none 0 0, .bool true]) (by rfl) QY (by omega) (by omega) ?_); intro v6 w6 NEW hg6 hb6 hs6; replace O := O.below hb6 (by omega); replace R := R.below hb6 (by omega); have B6 : Below w.heap.size w w6 := bcall B1 hb6 (by omega); obtain ⟨o6, c6, rfl⟩ := NEW.slice; clear hg6 hb6 OW QY O_c O_f O_l R_c R_f R_l L_c L_f L_l; obtain ⟨O_c, O_f, O_l⟩ := id O; obtain ⟨R_c, R_f, R_l⟩ := id R)
      have FIN := NEW.far (p := ⟨w.heap.size + 1 + 1, 0, none⟩) (by dsimp only; omega) (O.c 0) (fun _ h => by cases h) (.slice o6 (n + 1) c6)
      rw [E.out] at FIN
      have hfl := FIN.len
      have FIR := FIN.rin
      refine (rngCopy_n (Pl.invR r) (n + 1) hfl _ _ _ FIR CR.out.ok (by omega)).mono ?_
      rintro e w7 ⟨o7, n7, c7, rfl, OW7, hb7⟩
      have hn7 := OW7.len
      rw [hfl] at hn7
      subst hn7
      have B7 : Below w.heap.size w w7 := bcall (by go_grown) hb7 (by simp; omega)
      replace R := (R.far (a := ⟨w.heap.size + 1 + 1, 0, none⟩) (by dsimp only; omega) (.slice o6 (n + 1) c6)).below hb7 (by simp; omega)
      clear hb7 R_c R_f R_l O_c O_f O_l
      obtain ⟨R_c, R_f, R_l⟩ := id R
      go_wp2_with fail
      have RN := R.set (k := 0) (by simp) (.slice o7 (n + 1) c7)
      obtain ⟨RN_c, RN_f, RN_l⟩ := RN
      refine bodyPost_ret (v := .agg #[.slice o7 (n + 1) c7]) (by simp [results, Tryz.results56, go_sem, RN_c]) rfl ⟨o7, c7, by rw [hfl], (OW7.far (by simp; omega) (R.c 0) (fun _ h => by cases h) _).rin, by go_grown⟩
end Go.Proofs.YtgngehfgcogceaaGreatDoor
