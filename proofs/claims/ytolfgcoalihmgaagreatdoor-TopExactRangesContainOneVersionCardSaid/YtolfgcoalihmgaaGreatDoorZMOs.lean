/- Texts joined. -/
import Derived.Test.YtolfgcoalihmgaaGreatDoorZMOq
import Derived.Test.YtolfgcoalihmgaaGreatDoorZMKo
import Derived.Test.YtolfgcoalihmgaaGreatDoorZMBf
import Derived.Test.YtolfgcoalihmgaaGreatDoorZMKd
namespace Go.Proofs.YtolfgcoalihmgaaGreatDoor
section
open Go.RowKit
def Lit (w : World) (r : Nat) (cs : List Value) : Prop := r < w.heap.size ∧ ∀ j u, cs[j]? = some u → w.cell? ⟨r, j, none⟩ = some u
theorem Lit.under {w w' : World} {r : Nat} {cs : List Value} (h : Lit w r cs) (hx : Ext w w') : Lit w' r cs := ⟨Nat.lt_of_lt_of_le h.1 hx.size, fun j u hu => hx.cell _ _ (h.2 j u hu)⟩
theorem Lit.new (w : World) (cs : List Value) (t : TypeId) : Lit (w.alloc (.cells cs.toArray t)) w.heap.size cs := by
 have h := Bk.new (r := w.heap.size) (cs := cs) w t rfl
 exact ⟨h.lt, fun j u hu => h.c j hu⟩
theorem Lit.alloc {w : World} {r : Nat} {cs : List Value} (h : Lit w r cs) (o : Obj) : Lit (w.alloc o) r cs := h.under (Below.ext ((Below.refl _ _).alloc nle _))
theorem Lit.far {w : World} {r : Nat} {cs : List Value} (h : Lit w r cs) {a : Addr} (hne : a.block < r) (v : Value) : Lit (w.setCell a v) r cs :=
 ⟨by simpa using h.1, fun j u hu => by
   rw [World.cell?_setCell_other _ _ _ _ (by intro e; have := congrArg Addr.block e; dsimp only at this; omega)]
   exact h.2 j u hu⟩
theorem Lit.fr {w : World} {r : Nat} {cs : List Value} (h : Lit w r cs) (b o : Nat) (hne : b < r) (v : Value) : Lit (w.setCell ⟨b, o, none⟩ v) r cs := h.far hne v
theorem Lit.sl {w : World} {r : Nat} {cs : List Value} (h : Lit w r cs) {n sz : Nat} (hn : cs.length = n * sz) (hm : n ≤ maxLen) : Sl w (some ⟨r, 0, none⟩) n n sz cs :=
 ⟨hn, nle, hm, .inr ⟨r, 0, rfl, h.1, fun j u hu => by rw [Nat.zero_add]; exact h.2 j u hu⟩⟩
def rl0 (x : Int) : List Value := [.int .i64 x, .int .i64 0, .int .i64 0, .slice none 0 0, .slice none 0 0]
def rl1 (g : Nat) : List Value := [.int .i64 1, .int .i64 0, .int .i64 0, .slice none 0 0, .slice none 0 0, .int .i64 2, .int .i64 0, .int .i64 0, .slice none 0 0, .slice (some ⟨g, 0, none⟩) 1 1]
def Hold.l (B : Nat) (n : Nat) (cs : List Value) : Hold := ⟨fun u w => ∃ r, u = .slice (some ⟨r, 0, none⟩) n n ∧ B ≤ r ∧ Lit w r cs, fun _ _ _ ⟨r, h1, h2, h3⟩ hb => ⟨r, h1, h2, h3.under hb⟩⟩
def Hold.r1 (B : Nat) (cs : List Value) : Hold := ⟨fun u w => ∃ r, u = .agg #[.int .i64 2, .int .i64 0, .int .i64 0, .slice none 0 0, .slice (some ⟨r, 0, none⟩) 1 1] ∧ B ≤ r ∧ Lit w r cs, fun _ _ _ ⟨r, h1, h2, h3⟩ hb => ⟨r, h1, h2, h3.under hb⟩⟩
def Hold.rs (B : Nat) (cs : List Value) : Hold := ⟨fun u w => ∃ r g, u = .slice (some ⟨r, 0, none⟩) 2 2 ∧ B ≤ r ∧ B ≤ g ∧ Lit w r (rl1 g) ∧ Lit w g cs, fun _ _ _ ⟨r, g, h1, h2, h3, h4, h5⟩ hb => ⟨r, g, h1, h2, h3, h4.under hb, h5.under hb⟩⟩
def UAll (w : World) (B : Nat) (cs : List Value) (p x g y : Nat) : Prop := B ≤ p ∧ B ≤ x ∧ B ≤ g ∧ B ≤ y ∧ Lit w p [.slice (some ⟨x, 0, none⟩) 2 2, .slice (some ⟨y, 0, none⟩) 1 1] ∧ Lit w x (rl1 g) ∧ Lit w g cs ∧ Lit w y (rl0 1)
theorem UAll.under {w w' : World} {B : Nat} {cs : List Value} {p x g y : Nat} (h : UAll w B cs p x g y) (hb : Ext w w') : UAll w' B cs p x g y := ⟨h.1, h.2.1, h.2.2.1, h.2.2.2.1, h.2.2.2.2.1.under hb, h.2.2.2.2.2.1.under hb, h.2.2.2.2.2.2.1.under hb, h.2.2.2.2.2.2.2.under hb⟩
def Hold.ps (B : Nat) (cs : List Value) : Hold := ⟨fun u w => ∃ p x g y, u = .slice (some ⟨p, 0, none⟩) 2 2 ∧ UAll w B cs p x g y, fun _ _ _ ⟨p, x, g, y, h1, h2⟩ hb => ⟨p, x, g, y, h1, h2.under hb⟩⟩
def Hold.un (B : Nat) (cs : List Value) : Hold := ⟨fun u w => ∃ p x g y, u = .agg #[.slice (some ⟨p, 0, none⟩) 2 2] ∧ UAll w B cs p x g y, fun _ _ _ ⟨p, x, g, y, h1, h2⟩ hb => ⟨p, x, g, y, h1, h2.under hb⟩⟩
def Pl.exU : Pl.Uni := [[⟨⟨1, 0, 0, []⟩, []⟩, ⟨⟨2, 0, 0, []⟩, [⟨1, [⟨⟨2, 0, 0, []⟩, ⟨3, 0, 0, []⟩, false⟩]⟩]⟩], [⟨⟨1, 0, 0, []⟩, []⟩]]
def RUni (u : Pl.Uni) (w : World) (e : Ending) (w' : World) : Prop := ∃ a c, e = .returned (.agg #[.slice a u.length c]) ∧ UIn w' u a c ∧ Below w.heap.size w w'
theorem UAll.uni {w : World} {B p x g y : Nat} {a : Option Addr} {c : Nat} (h : UAll w B [.int .i64 1, .slice a 1 c] p x g y) (hr : RIn w [⟨⟨2, 0, 0, []⟩, ⟨3, 0, 0, []⟩, false⟩] a c) : UIn w Pl.exU (some ⟨p, 0, none⟩) 2 := by
 obtain ⟨_, _, _, _, l1, l2, l3, l4⟩ := h
 have m1 : (1 : Nat) ≤ maxLen := by decide
 have m2 : (2 : Nat) ≤ maxLen := by decide
 have n0 : NsIn w [] none 0 := NsIn.nil w
 have n1 : NsIn w [⟨1, [⟨⟨2, 0, 0, []⟩, ⟨3, 0, 0, []⟩, false⟩]⟩] (some ⟨g, 0, none⟩) 1 := ⟨_, l3.sl (n := 1) (sz := 2) rfl m1, Elems.one ⟨a, c, rfl, hr⟩ rfl⟩
 have r0 : RlIs w ⟨⟨1, 0, 0, []⟩, []⟩ (rl0 1) := ⟨none, 0, none, 0, rfl, VIn.rel 1 0 0 w, n0⟩
 have r1 : RlIs w ⟨⟨2, 0, 0, []⟩, [⟨1, [⟨⟨2, 0, 0, []⟩, ⟨3, 0, 0, []⟩, false⟩]⟩]⟩ [.int .i64 2, .int .i64 0, .int .i64 0, .slice none 0 0, .slice (some ⟨g, 0, none⟩) 1 1] := ⟨none, 0, _, _, rfl, VIn.rel 2 0 0 w, n1⟩
 have q0 : RsIn w [⟨⟨1, 0, 0, []⟩, []⟩] (some ⟨y, 0, none⟩) 1 := ⟨_, l4.sl (n := 1) (sz := 5) rfl m1, Elems.one r0 rfl⟩
 have q1 : RsIn w [⟨⟨1, 0, 0, []⟩, []⟩, ⟨⟨2, 0, 0, []⟩, [⟨1, [⟨⟨2, 0, 0, []⟩, ⟨3, 0, 0, []⟩, false⟩]⟩]⟩] (some ⟨x, 0, none⟩) 2 := ⟨rl1 g, l2.sl (n := 2) (sz := 5) rfl m2, (Elems.one r0 rfl).append (Elems.one r1 rfl)⟩
 have p1 : PkIs w [⟨⟨1, 0, 0, []⟩, []⟩, ⟨⟨2, 0, 0, []⟩, [⟨1, [⟨⟨2, 0, 0, []⟩, ⟨3, 0, 0, []⟩, false⟩]⟩]⟩] [.slice (some ⟨x, 0, none⟩) 2 2] := ⟨_, _, rfl, q1⟩
 have p2 : PkIs w [⟨⟨1, 0, 0, []⟩, []⟩] [.slice (some ⟨y, 0, none⟩) 1 1] := ⟨_, _, rfl, q0⟩
 exact ⟨_, l1.sl (n := 2) (sz := 1) rfl m2, (Elems.one p1 rfl).append (Elems.one p2 rfl)⟩
set_option maxRecDepth 100000 in
set_option maxHeartbeats 8000000 in
theorem universe_any (w : World) : Calls Tryz.prog 82 #[] w (RUni Pl.exU w) := by
 go_enter Tryz.func82, Tryz.ntmps82
 have B0 := brl w
 go_wp2_with (first | (go_at_call 70; refine (ver_at _ _ _ _).mono ?_; rintro e w' ⟨rfl, rfl⟩))
 refine (lspan_any ⟨2, 0, 0, []⟩ ⟨3, 0, 0, []⟩ none none 0 0 _ (VIn.rel _ _ _ _) (VIn.rel _ _ _ _)).mono ?_
 rintro e w1 ⟨oL, cL, rfl, RL, hb⟩
 replace RL := Hd RL
 have B1 := bcm w hb
 have q1 : w.heap.size + 3 ≤ w1.heap.size := qle hb
 have R := ((((bkn w.heap.size [.slice none 0 0] 56).alloc _).alloc _)).bw hb
 clear hb
 have s1 := B1.size
 have ⟨Rc, Rf, Rl⟩ := R
 go_wp2_with (first | (go_at_call 70; refine (ver_at _ _ _ _).mono ?_; rintro e w' ⟨rfl, rfl⟩))
 have B2 : Below w.heap.size w (w1.alloc (.cells #[.int .i64 1, .slice oL 1 cL] 84)) := by go_grown
 have q2 : w1.heap.size + 1 ≤ (w1.alloc (.cells #[.int .i64 1, .slice oL 1 cL] 84)).heap.size := by simp only [World.size_alloc]; omega
 replace RL := Hd (RL.out.al (.cells #[.int .i64 1, .slice oL 1 cL] 84))
 replace R := (R.alloc (.cells #[.int .i64 1, .slice oL 1 cL] 84))
 have T := (Bk.new (r := w1.heap.size) (cs := [.int .i64 1, .slice oL 1 cL]) w1 84 (by simp))
 clear Rc Rf Rl
 generalize (w1.alloc (.cells #[.int .i64 1, .slice oL 1 cL] 84)) = w2 at *
 have s2 := B2.size
 have ⟨Rc, Rf, Rl⟩ := R
 have ⟨Tc, Tf, Tl⟩ := T
 have Td := T.drew
 have ⟨Tdc, _, Tdl⟩ := Td
 refine wp_region_free [0, 2, 4, 6, 7, 9, 10] [1, 3, 5, 8, 11] [12]
  (fun i => [Hold.eq (.agg #[.int .i64 1, .int .i64 0, .int .i64 0, .slice none 0 0]), Hold.eq (.agg #[.int .i64 1, .int .i64 0, .int .i64 0, .slice none 0 0, .slice none 0 0]), Hold.eq (.agg #[.int .i64 2, .int .i64 0, .int .i64 0, .slice none 0 0]), Hold.eq (.agg #[.int .i64 1, .slice oL 1 cL]), Hold.l (w2.drew.heap.size) 1 [.int .i64 1, .slice oL 1 cL], Hold.r1 (w2.drew.heap.size) [.int .i64 1, .slice oL 1 cL], Hold.rs (w2.drew.heap.size) [.int .i64 1, .slice oL 1 cL], Hold.eq (.agg #[.int .i64 1, .int .i64 0, .int .i64 0, .slice none 0 0]), Hold.eq (.agg #[.int .i64 1, .int .i64 0, .int .i64 0, .slice none 0 0, .slice none 0 0]), Hold.l (w2.drew.heap.size) 1 (rl0 1), Hold.ps (w2.drew.heap.size) [.int .i64 1, .slice oL 1 cL], Hold.un (w2.drew.heap.size) [.int .i64 1, .slice oL 1 cL]].getD i Hold.any) (by kernel_rfl) (by kernel_rfl) ?_ ?_
 · refine ⟨stepOb_ca (by kernel_rfl) (by kernel_rfl) ?_, stepOb_ca (by kernel_rfl) (by kernel_rfl) ?_, stepOb_mk (by kernel_rfl) (by kernel_rfl) ?_, stepOb_mk (by kernel_rfl) (by kernel_rfl) ?_, stepOb_ca (by kernel_rfl) (by kernel_rfl) ?_, stepOb_mk (by kernel_rfl) (by kernel_rfl) ?_, stepOb_mk (by kernel_rfl) (by kernel_rfl) ?_, stepOb_rd (by kernel_rfl) (by kernel_rfl) ?_, stepOb_rd (by kernel_rfl) (by kernel_rfl) ?_, stepOb_rd (by kernel_rfl) (by kernel_rfl) ?_, stepOb_rd (by kernel_rfl) (by kernel_rfl) ?_, stepOb_rd (by kernel_rfl) (by kernel_rfl) ?_, trivial⟩
   all_goals (intro A x wx F hbx hd; replace hbx := Hd hbx)
   · refine ⟨_, 70, #[.int .i64 1, .int .i64 0, .int .i64 0], rfl, by simp [go_sem], ?_⟩
     refine (ver_at _ _ _ _).mono ?_
     rintro e w' ⟨rfl, rfl⟩
     exact ⟨_, rfl, (Below.refl _ _).alloc nle _, rfl⟩
   · refine ⟨_, 70, #[.int .i64 2, .int .i64 0, .int .i64 0], rfl, by simp [go_sem], ?_⟩
     refine (ver_at _ _ _ _).mono ?_
     rintro e w' ⟨rfl, rfl⟩
     exact ⟨_, rfl, (Below.refl _ _).alloc nle _, rfl⟩
   · have e0 := F.get (d := 9) 3 rfl rfl (by simp) (hd 3 rfl)
     exact ⟨_, .slice (some ⟨wx.heap.size, 0, none⟩) 1 1, wx.alloc (.cells #[.int .i64 1, .slice oL 1 cL] 84), rfl, by simp [go_sem, e0.2], Below.ext ((Below.refl _ _).alloc nle _), hbx.out.alloc hbx.out.size _, wx.heap.size, rfl, by have := hbx.out.size; first | exact this | (simp at this ⊢; omega), Lit.new _ _ _⟩
   · have e0 := F.get (d := 7) 1 rfl rfl (by simp) (hd 1 rfl)
     obtain ⟨g, h5, hg, LG⟩ := hd 5 rfl
     have e1 := F.get (d := 11) 5 rfl rfl (by simp) h5
     exact ⟨_, .slice (some ⟨wx.heap.size, 0, none⟩) 2 2, wx.alloc (.cells #[.int .i64 1, .int .i64 0, .int .i64 0, .slice none 0 0, .slice none 0 0, .int .i64 2, .int .i64 0, .int .i64 0, .slice none 0 0, .slice (some ⟨g, 0, none⟩) 1 1] 75), rfl, by simp [go_sem, e0.2, e1.2], Below.ext ((Below.refl _ _).alloc nle _), hbx.out.alloc hbx.out.size _, wx.heap.size, g, rfl, by have := hbx.out.size; first | exact this | (simp at this ⊢; omega), hg, Lit.new _ (rl1 g) _, LG.alloc _⟩
   · refine ⟨_, 70, #[.int .i64 1, .int .i64 0, .int .i64 0], rfl, by simp [go_sem], ?_⟩
     refine (ver_at _ _ _ _).mono ?_
     rintro e w' ⟨rfl, rfl⟩
     exact ⟨_, rfl, (Below.refl _ _).alloc nle _, rfl⟩
   · have e0 := F.get (d := 14) 8 rfl rfl (by simp) (hd 8 rfl)
     exact ⟨_, .slice (some ⟨wx.heap.size, 0, none⟩) 1 1, wx.alloc (.cells #[.int .i64 1, .int .i64 0, .int .i64 0, .slice none 0 0, .slice none 0 0] 75), rfl, by simp [go_sem, e0.2], Below.ext ((Below.refl _ _).alloc nle _), hbx.out.alloc hbx.out.size _, wx.heap.size, rfl, by have := hbx.out.size; first | exact this | (simp at this ⊢; omega), Lit.new _ (rl0 1) _⟩
   · obtain ⟨x6, g, h6, hx6, hg, L6, LG⟩ := hd 6 rfl
     obtain ⟨y, h9, hy, L9⟩ := hd 9 rfl
     have e0 := F.get (d := 12) 6 rfl rfl (by simp) h6
     have e1 := F.get (d := 15) 9 rfl rfl (by simp) h9
     exact ⟨_, .slice (some ⟨wx.heap.size, 0, none⟩) 2 2, wx.alloc (.cells #[.slice (some ⟨x6, 0, none⟩) 2 2, .slice (some ⟨y, 0, none⟩) 1 1] 73), rfl, by simp [go_sem, e0.2, e1.2], Below.ext ((Below.refl _ _).alloc nle _), hbx.out.alloc hbx.out.size _, wx.heap.size, x6, g, y, rfl, by have := hbx.out.size; first | exact this | (simp at this ⊢; omega), hx6, hg, hy, Lit.new _ _ _, L6.alloc _, LG.alloc _, L9.alloc _⟩
   · have e0 := F.get (d := 6) 0 rfl rfl (by simp) (hd 0 rfl)
     exact ⟨_, _, rfl, fun w' hx => by simp [go_sem, e0.2], rfl⟩
   · have e0 := F.was (d := 1) (v := .pointer (some ⟨w1.heap.size, 0, none⟩)) rfl rfl
     have g0 := hbx.out
     refine ⟨_, _, rfl, fun w' hx => ?_, rfl⟩
     have r0 := hx.cell _ _ ((g0.cell (p := ⟨w1.heap.size, 0, none⟩) Tdl).trans (Tdc 0))
     have r1 := hx.cell _ _ ((g0.cell (p := ⟨w1.heap.size, 1, none⟩) Tdl).trans (Tdc 1))
     simp [go_sem, e0.1, r0, r1]
   · have e0 := F.get (d := 8) 2 rfl rfl (by simp) (hd 2 rfl)
     obtain ⟨g, h4, hg, LG⟩ := hd 4 rfl
     have e1 := F.get (d := 10) 4 rfl rfl (by simp) h4
     exact ⟨_, _, rfl, fun w' hx => by simp [go_sem, e0.2, e1.2], g, rfl, hg, LG⟩
   · have e0 := F.get (d := 13) 7 rfl rfl (by simp) (hd 7 rfl)
     exact ⟨_, _, rfl, fun w' hx => by simp [go_sem, e0.2], rfl⟩
   · obtain ⟨p, x6, g, y, h10, UA⟩ := hd 10 rfl
     have e0 := F.get (d := 16) 10 rfl rfl (by simp) h10
     exact ⟨_, _, rfl, fun w' hx => by simp [go_sem, e0.2], p, x6, g, y, rfl, UA⟩
 · intro x wx hbx hI
   obtain ⟨-, -, -, -, -, -, -, -, -, -, -, hU, -⟩ := hI
   obtain ⟨p, x6, g, y, hU, UA⟩ := hU
   have hU : x 11 = .agg #[.slice (some ⟨p, 0, none⟩) 2 2] := hU
   have B7 : Below w.heap.size w wx := bcall (B2.drew) hbx (by go_size)
   have s7 := hbx.size
   have R7 := (R.drew).bw hbx
   have RL7 := (RL.out.bl (Below.refl _ _).drew).bl hbx
   have ⟨R7c, R7f, R7l⟩ := R7
   clear Rc Rf Rl Tc Tf Tl
   simp only [actOf, Act.put, List.setIfInBounds_toArray, List.set_cons_succ, List.set_cons_zero, Nat.zero_add, Nat.reduceAdd, hU]
   refine wpI_st rfl rfl rfl (w' := wx.setCell ⟨w.heap.size, 0, none⟩ (.slice (some ⟨p, 0, none⟩) 2 2)) (by simp [go_sem, R7c, R7f]) ?_
   refine wpI_nil ?_
   try simp only [Act.put]
   have RN := R7.st 0 (.slice (some ⟨p, 0, none⟩) 2 2)
   obtain ⟨RNc, RNf, RNl⟩ := RN
   have hne : w.heap.size < w2.drew.heap.size := by go_size
   go_wp2_with fail
   refine bodyPost_ret (v := .agg #[.slice (some ⟨p, 0, none⟩) 2 2]) (by simp [results, Tryz.results82, go_sem, RNc]) rfl ⟨some ⟨p, 0, none⟩, 2, rfl, UAll.uni (B := w2.drew.heap.size) (x := x6) (g := g) (y := y) (a := oL) (c := cL) ?_ (RL7.setBk R7 (by simp) (j := 0) rfl (by nofun) _), by go_grown⟩
   obtain ⟨u1, u2, u3, u4, l1, l2, l3, l4⟩ := UA
   exact ⟨u1, u2, u3, u4, l1.fr w.heap.size 0 (by omega) _, l2.fr w.heap.size 0 (by omega) _, l3.fr w.heap.size 0 (by omega) _, l4.fr w.heap.size 0 (by omega) _⟩
def Pl.anyN (p : Int) : Pl.Need := ⟨p, [⟨⟨0, 0, 0, [⟨#[48]⟩]⟩, Pl.Ver.zero, true⟩]⟩
set_option maxHeartbeats 2000000 in
theorem anyVersion_any (p : Int) (w : World) : Calls Tryz.prog 83 #[.int .i64 p] w fun e w' => ∃ a, e = .returned (.agg #[.int .i64 p, .slice a 1 1]) ∧ RIn w' (Pl.anyN p).rg a 1 ∧ Below w.heap.size w w' := by
 go_enter Tryz.func83, Tryz.ntmps83
 have B0 := brl w
 go_wp2_with (first | (go_at_call 71; refine (pre_at _ _ _ _ _).mono ?_; rintro e w' ⟨rfl, rfl⟩))
 have R := ((((Bk.new (r := w.heap.size) (cs := [.int .i64 p, .slice (some ⟨w.heap.size + 1 + 1 + 1, 0, none⟩) 1 1]) w 84 (by simp)).alloc (.cells #[.int .i64 0, .int .i64 0, .int .i64 0, .slice (some ⟨w.heap.size + 1 + 1, 0, none⟩) 1 1] 24)).alloc (.cells #[.string ⟨#[48]⟩] 9)).alloc (.cells #[.int .i64 0, .int .i64 0, .int .i64 0, .slice (some ⟨w.heap.size + 1 + 1, 0, none⟩) 1 1, .int .i64 0, .int .i64 0, .int .i64 0, .slice none 0 0, .bool true] 101))
 have K := ((Bk.new (r := w.heap.size + 1 + 1) (cs := [.string ⟨#[48]⟩]) ((w.alloc (.cells #[.int .i64 p, .slice (some ⟨w.heap.size + 1 + 1 + 1, 0, none⟩) 1 1] 84)).alloc (.cells #[.int .i64 0, .int .i64 0, .int .i64 0, .slice (some ⟨w.heap.size + 1 + 1, 0, none⟩) 1 1] 24)) 9 (by simp)).alloc (.cells #[.int .i64 0, .int .i64 0, .int .i64 0, .slice (some ⟨w.heap.size + 1 + 1, 0, none⟩) 1 1, .int .i64 0, .int .i64 0, .int .i64 0, .slice none 0 0, .bool true] 101))
 have Z := (Bk.new (r := w.heap.size + 1 + 1 + 1) (cs := [.int .i64 0, .int .i64 0, .int .i64 0, .slice (some ⟨w.heap.size + 1 + 1, 0, none⟩) 1 1, .int .i64 0, .int .i64 0, .int .i64 0, .slice none 0 0, .bool true]) (((w.alloc (.cells #[.int .i64 p, .slice (some ⟨w.heap.size + 1 + 1 + 1, 0, none⟩) 1 1] 84)).alloc (.cells #[.int .i64 0, .int .i64 0, .int .i64 0, .slice (some ⟨w.heap.size + 1 + 1, 0, none⟩) 1 1] 24)).alloc (.cells #[.string ⟨#[48]⟩] 9)) 101 (by simp))
 obtain ⟨Rc, Rf, Rl⟩ := R
 refine bodyPost_ret (v := .agg #[.int .i64 p, .slice (some ⟨w.heap.size + 1 + 1 + 1, 0, none⟩) 1 1]) (by simp [results, Tryz.results83, go_sem, Rc]) rfl ⟨some ⟨w.heap.size + 1 + 1 + 1, 0, none⟩, rfl, RIn.lit Z ⟨some ⟨w.heap.size + 1 + 1, 0, none⟩, none, 1, 0, rfl, VIn.lit (by decide) K, VIn.zero _⟩, by go_grown⟩
end
section
open Go.RowKit
theorem NsIn.lit {w : World} {d : Pl.Need} {g : Nat} {a : Option Addr} {c : Nat} (h : Bk w g [.int .i64 d.pk, .slice a d.rg.length c]) (hr : RIn w d.rg a c) : NsIn w [d] (some ⟨g, 0, none⟩) 1 :=
 ⟨_, ⟨rfl, nle, by decide, .inr ⟨g, 0, rfl, h.lt, fun j u hu => by rw [Nat.zero_add]; exact h.c j hu⟩⟩, Elems.one ⟨a, c, rfl, hr⟩ rfl⟩
theorem ex_solve (W : World) (a b : Option Addr) (c : Nat) (h1 : UIn W Pl.exU a c) (h2 : NsIn W [Pl.anyN 0] b 1) : Calls Tryz.prog 43 #[.agg #[.slice a Pl.exU.length c], .slice b 1 1] W fun e w' => ∃ o m, e = .returned (.tuple #[.slice o 2 m, .bool true, .agg #[.int .i64 0, .int .i64 0]]) ∧ Sl w' o 2 m 1 (intVals [0, -1]) ∧ Below W.heap.size W w' := by
 have h := Solve_any Pl.exU [Pl.anyN 0] a b c 1 W h1 h2
 rw [show Pl.wantsF Pl.exU [Pl.anyN 0] = (0, 0) by decide +kernel, show Pl.slvR Pl.exU [Pl.anyN 0] = some [0, -1] by decide +kernel] at h
 exact h
theorem ex_check1 (W : World) (a b o : Option Addr) (c m : Nat) (h1 : UIn W Pl.exU a c) (h2 : NsIn W [Pl.anyN 0] b 1) (h3 : Sl W o 2 m 1 (intVals [0, -1])) : Calls Tryz.prog 41 #[.agg #[.slice a Pl.exU.length c], .slice b 1 1, .slice o 2 m] W fun e w' => e = .returned (.tuple #[.bool true, .agg #[.int .i64 0, .int .i64 0]]) ∧ Below W.heap.size W w' := by
 have h := Check_any Pl.exU [Pl.anyN 0] [0, -1] a b o c 1 m W h1 h2 h3
 rw [show Pl.chkB Pl.exU [Pl.anyN 0] [0, -1] = true by decide +kernel, show Pl.chkF Pl.exU [Pl.anyN 0] [0, -1] = (0, 0) by decide +kernel] at h
 exact h
theorem ex_check2 (W : World) (a b o : Option Addr) (c m : Nat) (h1 : UIn W Pl.exU a c) (h2 : NsIn W [Pl.anyN 0] b 1) (h3 : Sl W o 2 m 1 (intVals [0, 0])) : Calls Tryz.prog 41 #[.agg #[.slice a Pl.exU.length c], .slice b 1 1, .slice o 2 m] W fun e w' => e = .returned (.tuple #[.bool false, .agg #[.int .i64 0, .int .i64 0]]) ∧ Below W.heap.size W w' := by
 have h := Check_any Pl.exU [Pl.anyN 0] [0, 0] a b o c 1 m W h1 h2 h3
 rw [show Pl.chkB Pl.exU [Pl.anyN 0] [0, 0] = false by decide +kernel, show Pl.chkF Pl.exU [Pl.anyN 0] [0, 0] = (0, 0) by decide +kernel] at h
 exact h
theorem ex_valid (W : World) (a : Option Addr) (c : Nat) (h1 : UIn W Pl.exU a c) : Calls Tryz.prog 38 #[.agg #[.slice a Pl.exU.length c]] W fun e w' => e = .returned (.agg #[.int .i64 0, .int .i64 0]) ∧ Below W.heap.size W w' := by
 have h := sUni_any Pl.exU a c W h1
 rw [show Pl.uniF Pl.exU = (0, 0) by decide +kernel] at h
 exact h
theorem ex_ints (W : World) (a b : Option Addr) (c d : Nat) (h1 : Sl W a 2 c 1 (intVals [0, -1])) (h2 : Sl W b 2 d 1 (intVals [0, -1])) : Calls Tryz.prog 46 #[.slice a 2 c, .slice b 2 d] W fun e w' => e = .returned (.bool true) ∧ Below W.heap.size W w' := intsEq_any [0, -1] [0, -1] a b c d W h1 h2
def RangesHold : Prop := ∀ w : World, Env w → Calls Tryz.prog 19 #[] w fun e w' => e = .returned (.bool true) ∧ Below w.heap.size w w'
set_option maxRecDepth 100000 in
set_option maxHeartbeats 16000000 in
theorem solves_any (RG : RangesHold) (w : World) (E : Env w) : Calls Tryz.prog 35 #[] w fun e w' => e = .returned (.bool true) ∧ Below w.heap.size w w' := by
 have HE := Hd E
 have HR := Hd RG
 clear E RG
 go_enter Tryz.func35, Tryz.ntmps35
 have B0 := brl w
 go_wp2_with fail
 refine (universe_any _).mono ?_
 rintro e w1 ⟨oU, cU, rfl, UU, hb⟩
 replace UU := Hd UU
 have B1 := bcm w hb
 have q1 : w.heap.size ≤ w1.heap.size := qle hb
 clear hb
 have s1 := B1.size
 go_wp2_with fail
 refine (anyVersion_any 0 _).mono ?_
 rintro e w2 ⟨oN, rfl, RN, hb⟩
 replace RN := Hd RN
 have B2 := bcm w hb
 have q2 : w1.heap.size ≤ w2.heap.size := qle hb
 replace UU := Hd (UU.out.bl hb)
 clear hb
 have s2 := B2.size
 go_wp2_with fail
 refine (ex_solve _ _ _ _ ((UU.out.al (.cells #[.int .i64 0, .slice oN 1 1] 84))) (NsIn.lit (d := Pl.anyN 0) ((Bk.new (r := w2.heap.size) (cs := [.int .i64 0, .slice oN 1 1]) w2 84 (by simp))) ((RN.out.al (.cells #[.int .i64 0, .slice oN 1 1] 84))))).mono ?_
 rintro e w3 ⟨oS, mS, rfl, SS, hb⟩
 replace SS := Hd SS
 have B3 := bcm w hb
 have q3 : w2.heap.size + 1 ≤ w3.heap.size := qle hb
 replace UU := Hd ((UU.out.al _).bl hb)
 replace RN := Hd ((RN.out.al _).bl hb)
 have NB := ((bkn w2.heap.size [.int .i64 0, .slice oN 1 1] 84)).bw hb
 clear hb
 have s3 := B3.size
 have ⟨NBc, NBf, NBl⟩ := NB
 clear UU RN NB NBc NBf NBl
 go_wp2_with fail
 refine (universe_any _).mono ?_
 rintro e w4 ⟨oU, cU, rfl, UU, hb⟩
 replace UU := Hd UU
 have B4 := bcm w hb
 have q4 : w3.heap.size + 1 ≤ w4.heap.size := qle hb
 replace SS := Hd ((SS.out.al _).bl hb)
 have F1 := ((bkn w3.heap.size [.int .i64 0, .int .i64 0] 27)).bw hb
 clear hb
 have s4 := B4.size
 have ⟨F1c, F1f, F1l⟩ := F1
 go_wp2_with fail
 refine (anyVersion_any 0 _).mono ?_
 rintro e w5 ⟨oN, rfl, RN, hb⟩
 replace RN := Hd RN
 have B5 := bcm w hb
 have q5 : w4.heap.size ≤ w5.heap.size := qle hb
 replace SS := Hd (SS.out.bl hb)
 replace UU := Hd (UU.out.bl hb)
 replace F1 := F1.bw hb
 clear hb
 have s5 := B5.size
 clear F1c F1f F1l
 have ⟨F1c, F1f, F1l⟩ := F1
 go_wp2_with fail
 refine (ex_check1 _ _ _ _ _ _ (((UU.out.al (.cells #[.int .i64 0, .slice oN 1 1] 84)).al (.cells #[.int .i64 0, .int .i64 (-1)] 3))) (NsIn.lit (d := Pl.anyN 0) (((Bk.new (r := w5.heap.size) (cs := [.int .i64 0, .slice oN 1 1]) w5 84 (by simp)).alloc (.cells #[.int .i64 0, .int .i64 (-1)] 3))) (((RN.out.al (.cells #[.int .i64 0, .slice oN 1 1] 84)).al (.cells #[.int .i64 0, .int .i64 (-1)] 3)))) (Bk.sl (cs := [0, (-1)]) ((Bk.new (r := w5.heap.size + 1) (cs := [.int .i64 0, .int .i64 (-1)]) (w5.alloc (.cells #[.int .i64 0, .slice oN 1 1] 84)) 3 (by simp))) rfl (by decide))).mono ?_
 rintro e w6 ⟨rfl, hb⟩
 have B6 := bcm w hb
 have q6 : w5.heap.size + 2 ≤ w6.heap.size := qle hb
 replace SS := Hd (((SS.out.al _).al _).bl hb)
 replace UU := Hd (((UU.out.al _).al _).bl hb)
 replace RN := Hd (((RN.out.al _).al _).bl hb)
 replace F1 := (((F1.alloc _).alloc _)).bw hb
 have NB := (((bkn w5.heap.size [.int .i64 0, .slice oN 1 1] 84).alloc _)).bw hb
 have IL := ((bkn (w5.heap.size + 1) [.int .i64 0, .int .i64 (-1)] 3)).bw hb
 clear hb
 have s6 := B6.size
 clear F1c F1f F1l
 have ⟨F1c, F1f, F1l⟩ := F1
 have ⟨NBc, NBf, NBl⟩ := NB
 have ⟨ILc, ILf, ILl⟩ := IL
 clear UU RN NB NBc NBf NBl IL ILc ILf ILl
 go_wp2_with fail
 refine (universe_any _).mono ?_
 rintro e w7 ⟨oU, cU, rfl, UU, hb⟩
 replace UU := Hd UU
 have B7 := bcm w hb
 have q7 : w6.heap.size + 1 ≤ w7.heap.size := qle hb
 replace SS := Hd ((SS.out.al _).bl hb)
 replace F1 := ((F1.alloc _)).bw hb
 have F2 := ((bkn w6.heap.size [.int .i64 0, .int .i64 0] 27)).bw hb
 clear hb
 have s7 := B7.size
 clear F1c F1f F1l
 have ⟨F1c, F1f, F1l⟩ := F1
 have ⟨F2c, F2f, F2l⟩ := F2
 go_wp2_with fail
 refine (anyVersion_any 0 _).mono ?_
 rintro e w8 ⟨oN, rfl, RN, hb⟩
 replace RN := Hd RN
 have B8 := bcm w hb
 have q8 : w7.heap.size ≤ w8.heap.size := qle hb
 replace SS := Hd (SS.out.bl hb)
 replace UU := Hd (UU.out.bl hb)
 replace F1 := F1.bw hb
 replace F2 := F2.bw hb
 clear hb
 have s8 := B8.size
 clear F1c F1f F1l F2c F2f F2l
 have ⟨F1c, F1f, F1l⟩ := F1
 have ⟨F2c, F2f, F2l⟩ := F2
 go_wp2_with fail
 refine (ex_check2 _ _ _ _ _ _ (((UU.out.al (.cells #[.int .i64 0, .slice oN 1 1] 84)).al (.cells #[.int .i64 0, .int .i64 0] 3))) (NsIn.lit (d := Pl.anyN 0) (((Bk.new (r := w8.heap.size) (cs := [.int .i64 0, .slice oN 1 1]) w8 84 (by simp)).alloc (.cells #[.int .i64 0, .int .i64 0] 3))) (((RN.out.al (.cells #[.int .i64 0, .slice oN 1 1] 84)).al (.cells #[.int .i64 0, .int .i64 0] 3)))) (Bk.sl (cs := [0, 0]) ((Bk.new (r := w8.heap.size + 1) (cs := [.int .i64 0, .int .i64 0]) (w8.alloc (.cells #[.int .i64 0, .slice oN 1 1] 84)) 3 (by simp))) rfl (by decide))).mono ?_
 rintro e w9 ⟨rfl, hb⟩
 have B9 := bcm w hb
 have q9 : w8.heap.size + 2 ≤ w9.heap.size := qle hb
 replace SS := Hd (((SS.out.al _).al _).bl hb)
 replace UU := Hd (((UU.out.al _).al _).bl hb)
 replace RN := Hd (((RN.out.al _).al _).bl hb)
 replace F1 := (((F1.alloc _).alloc _)).bw hb
 replace F2 := (((F2.alloc _).alloc _)).bw hb
 have NB := (((bkn w8.heap.size [.int .i64 0, .slice oN 1 1] 84).alloc _)).bw hb
 have IL := ((bkn (w8.heap.size + 1) [.int .i64 0, .int .i64 0] 3)).bw hb
 clear hb
 have s9 := B9.size
 clear F1c F1f F1l F2c F2f F2l
 have ⟨F1c, F1f, F1l⟩ := F1
 have ⟨F2c, F2f, F2l⟩ := F2
 have ⟨NBc, NBf, NBl⟩ := NB
 have ⟨ILc, ILf, ILl⟩ := IL
 clear UU RN NB NBc NBf NBl IL ILc ILf ILl
 go_wp2_with fail
 have B10 : Below w.heap.size w (w9.alloc (.cells #[.int .i64 0, .int .i64 0] 27)) := by go_grown
 have q10 : w9.heap.size + 1 ≤ (w9.alloc (.cells #[.int .i64 0, .int .i64 0] 27)).heap.size := by simp only [World.size_alloc]; omega
 replace SS := Hd (SS.out.al (.cells #[.int .i64 0, .int .i64 0] 27))
 replace F1 := (F1.alloc (.cells #[.int .i64 0, .int .i64 0] 27))
 replace F2 := (F2.alloc (.cells #[.int .i64 0, .int .i64 0] 27))
 have F3 := (Bk.new (r := w9.heap.size) (cs := [.int .i64 0, .int .i64 0]) w9 27 (by simp))
 clear F1c F1f F1l F2c F2f F2l
 generalize (w9.alloc (.cells #[.int .i64 0, .int .i64 0] 27)) = w10 at *
 have s10 := B10.size
 have ⟨F1c, F1f, F1l⟩ := F1
 have ⟨F2c, F2f, F2l⟩ := F2
 have ⟨F3c, F3f, F3l⟩ := F3
 refine (HR.out _ (HE.out.bl B10)).mono ?_
 rintro e w11 ⟨rfl, hb⟩
 have B11 := bcm w hb
 have q11 : w10.heap.size ≤ w11.heap.size := qle hb
 replace SS := Hd (SS.out.bl hb)
 replace F1 := F1.bw hb
 replace F2 := F2.bw hb
 replace F3 := F3.bw hb
 clear hb
 have s11 := B11.size
 clear F1c F1f F1l F2c F2f F2l F3c F3f F3l
 have ⟨F1c, F1f, F1l⟩ := F1
 have ⟨F2c, F2f, F2l⟩ := F2
 have ⟨F3c, F3f, F3l⟩ := F3
 go_wp2_with fail
 refine (ex_ints _ _ _ _ _ ((SS.out.al (.cells #[.int .i64 0, .int .i64 (-1)] 3))) (Bk.sl (cs := [0, -1]) ((Bk.new (r := w11.heap.size) (cs := [.int .i64 0, .int .i64 (-1)]) w11 3 (by simp))) rfl (by decide))).mono ?_
 rintro e w12 ⟨rfl, hb⟩
 have B12 := bcm w hb
 have q12 : w11.heap.size + 1 ≤ w12.heap.size := qle hb
 replace SS := Hd ((SS.out.al _).bl hb)
 replace F1 := ((F1.alloc _)).bw hb
 replace F2 := ((F2.alloc _)).bw hb
 replace F3 := ((F3.alloc _)).bw hb
 have IL := ((bkn w11.heap.size [.int .i64 0, .int .i64 (-1)] 3)).bw hb
 clear hb
 have s12 := B12.size
 clear F1c F1f F1l F2c F2f F2l F3c F3f F3l
 have ⟨F1c, F1f, F1l⟩ := F1
 have ⟨F2c, F2f, F2l⟩ := F2
 have ⟨F3c, F3f, F3l⟩ := F3
 have ⟨ILc, ILf, ILl⟩ := IL
 go_wp2_with fail
 refine (universe_any _).mono ?_
 rintro e w13 ⟨oU, cU, rfl, UU, hb⟩
 replace UU := Hd UU
 have B13 := bcm w hb
 have q13 : w12.heap.size ≤ w13.heap.size := qle hb
 replace SS := Hd (SS.out.bl hb)
 replace F1 := F1.bw hb
 replace F2 := F2.bw hb
 replace F3 := F3.bw hb
 replace IL := IL.bw hb
 clear hb
 have s13 := B13.size
 clear F1c F1f F1l F2c F2f F2l F3c F3f F3l ILc ILf ILl
 have ⟨F1c, F1f, F1l⟩ := F1
 have ⟨F2c, F2f, F2l⟩ := F2
 have ⟨F3c, F3f, F3l⟩ := F3
 have ⟨ILc, ILf, ILl⟩ := IL
 go_wp2_with fail
 refine (ex_valid _ _ _ (UU.out)).mono ?_
 rintro e w14 ⟨rfl, hb⟩
 have B14 := bcm w hb
 have q14 : w13.heap.size ≤ w14.heap.size := qle hb
 replace SS := Hd (SS.out.bl hb)
 replace UU := Hd (UU.out.bl hb)
 replace F1 := F1.bw hb
 replace F2 := F2.bw hb
 replace F3 := F3.bw hb
 replace IL := IL.bw hb
 clear hb
 have s14 := B14.size
 clear F1c F1f F1l F2c F2f F2l F3c F3f F3l ILc ILf ILl
 have ⟨F1c, F1f, F1l⟩ := F1
 have ⟨F2c, F2f, F2l⟩ := F2
 have ⟨F3c, F3f, F3l⟩ := F3
 have ⟨ILc, ILf, ILl⟩ := IL
 go_wp2_with fail
 go_ret
 exact ⟨rfl, by go_grown⟩
end
end Go.Proofs.YtolfgcoalihmgaaGreatDoor
