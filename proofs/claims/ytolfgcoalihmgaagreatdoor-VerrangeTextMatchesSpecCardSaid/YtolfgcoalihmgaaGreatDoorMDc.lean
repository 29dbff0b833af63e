/- Texts joined. -/
import Derived.Test.YtolfgcoalihmgaaGreatDoorMKd
import Derived.Test.YtolfgcoalihmgaaGreatDoorMKk
import Derived.Test.YtolfgcoalihmgaaGreatDoorMQb
import Derived.Test.YtolfgcoalihmgaaGreatDoorMBe
namespace Go.Proofs.YtolfgcoalihmgaaGreatDoor
section
open Go.RowKit
abbrev ivC (x : Pl.Ivl) (a b : Option Addr) (c d : Nat) : List Value := [.int .i64 x.lo.maj, .int .i64 x.lo.min, .int .i64 x.lo.pat, .slice a x.lo.pre.length c, .int .i64 x.hi.maj, .int .i64 x.hi.min, .int .i64 x.hi.pat, .slice b x.hi.pre.length d, .bool x.un]
def IvIs (w : World) (x : Pl.Ivl) (cs : List Value) : Prop := ∃ a b c d, cs = ivC x a b c d ∧ VIn w x.lo a c ∧ VIn w x.hi b d
theorem IvIs.len {w : World} {x : Pl.Ivl} {cs : List Value} (h : IvIs w x cs) : cs.length = 9 := by obtain ⟨a, b, c, d, rfl, _⟩ := h; rfl
theorem IvIs.one {w : World} {x : Pl.Ivl} {cs : List Value} (h : IvIs w x cs) : ∀ u ∈ cs, u.oneCell' = true := by
 obtain ⟨a, b, c, d, rfl, _⟩ := h
 intro u hu
 simp only [List.mem_cons, List.not_mem_nil, or_false] at hu
 rcases hu with rfl | rfl | rfl | rfl | rfl | rfl | rfl | rfl | rfl <;> rfl
theorem IvIs.below {w w' : World} {x : Pl.Ivl} {cs : List Value} (h : IvIs w x cs) {B : Nat} (hb : Below B w w') (hB : w.heap.size ≤ B) : IvIs w' x cs := by
 obtain ⟨a, b, c, d, h1, h2, h3⟩ := h
 exact ⟨a, b, c, d, h1, h2.below hb hB, h3.below hb hB⟩
theorem IvIs.bl {w w' : World} {x : Pl.Ivl} {cs : List Value} (h : IvIs w x cs) (hb : Below w.heap.size w w') : IvIs w' x cs := h.below hb nle
theorem IvIs.al {w : World} {x : Pl.Ivl} {cs : List Value} (h : IvIs w x cs) (o : Obj) : IvIs (w.alloc o) x cs := h.below ((Below.refl _ _).alloc nle o) nle
theorem IvIs.mk {w : World} {x : Pl.Ivl} {a b : Option Addr} {c d : Nat} (h1 : VIn w x.lo a c) (h2 : VIn w x.hi b d) : IvIs w x (ivC x a b c d) := ⟨a, b, c, d, rfl, h1, h2⟩
structure RIn (w : World) (r : List Pl.Ivl) (a : Option Addr) (c : Nat) : Prop where
 mem : ∃ cs, Sl w a r.length c 9 cs ∧ Elems (IvIs w) 9 r cs
theorem RIn.below {w w' : World} {r : List Pl.Ivl} {a : Option Addr} {c : Nat} (h : RIn w r a c) {B : Nat} (hb : Below B w w') (hB : w.heap.size ≤ B) : RIn w' r a c := by
 obtain ⟨cs, h1, h2⟩ := h.mem
 exact ⟨cs, h1.below hb hB, h2.mono fun _ _ h => h.below hb hB⟩
theorem RIn.bl {w w' : World} {r : List Pl.Ivl} {a : Option Addr} {c : Nat} (h : RIn w r a c) (hb : Below w.heap.size w w') : RIn w' r a c := h.below hb nle
theorem RIn.al {w : World} {r : List Pl.Ivl} {a : Option Addr} {c : Nat} (h : RIn w r a c) (o : Obj) : RIn (w.alloc o) r a c := h.below ((Below.refl _ _).alloc nle o) nle
theorem RIn.len {w : World} {r : List Pl.Ivl} {a : Option Addr} {c : Nat} (h : RIn w r a c) : r.length ≤ 9223372036854775807 := by
 obtain ⟨cs, h1, _⟩ := h.mem
 have h2 := h1.hcap
 have h3 := h1.hmax
 simp only [maxLen] at h3
 omega
theorem RIn.nil (w : World) : RIn w [] none 0 := ⟨[], Sl.nil w 9, Elems.nil⟩
structure IvAt (w : World) (b o : Nat) (x : Pl.Ivl) (a1 b1 : Option Addr) (c1 d1 : Nat) : Prop where
 e0 : w.cell? ⟨b, o, none⟩ = some (.int .i64 x.lo.maj)
 e1 : w.cell? ⟨b, o + 1, none⟩ = some (.int .i64 x.lo.min)
 e2 : w.cell? ⟨b, o + 2, none⟩ = some (.int .i64 x.lo.pat)
 e3 : w.cell? ⟨b, o + 3, none⟩ = some (.slice a1 x.lo.pre.length c1)
 e4 : w.cell? ⟨b, o + 4, none⟩ = some (.int .i64 x.hi.maj)
 e5 : w.cell? ⟨b, o + 5, none⟩ = some (.int .i64 x.hi.min)
 e6 : w.cell? ⟨b, o + 6, none⟩ = some (.int .i64 x.hi.pat)
 e7 : w.cell? ⟨b, o + 7, none⟩ = some (.slice b1 x.hi.pre.length d1)
 e8 : w.cell? ⟨b, o + 8, none⟩ = some (.bool x.un)
 lo : VIn w x.lo a1 c1
 hi : VIn w x.hi b1 d1
theorem IvAt.of {w : World} {b o : Nat} {x : Pl.Ivl} {es : List Value} (h : IvIs w x es) (hc : ∀ j u, es[j]? = some u → w.cell? ⟨b, o + j, none⟩ = some u) : ∃ a1 b1 c1 d1, IvAt w b o x a1 b1 c1 d1 := by
 obtain ⟨a1, b1, c1, d1, rfl, h1, h2⟩ := h
 exact ⟨a1, b1, c1, d1, hc 0 _ rfl, hc 1 _ rfl, hc 2 _ rfl, hc 3 _ rfl, hc 4 _ rfl, hc 5 _ rfl, hc 6 _ rfl, hc 7 _ rfl, hc 8 _ rfl, h1, h2⟩
theorem IvAt.below {w w' : World} {b o : Nat} {x : Pl.Ivl} {a1 b1 : Option Addr} {c1 d1 : Nat} (h : IvAt w b o x a1 b1 c1 d1) {B : Nat} (hb : Below B w w') (hl : b < w.heap.size) (hB : w.heap.size ≤ B) : IvAt w' b o x a1 b1 c1 d1 :=
 have e : ∀ j, w'.cell? ⟨b, j, none⟩ = w.cell? ⟨b, j, none⟩ := fun j => hb.cell (p := ⟨b, j, none⟩) (Nat.lt_of_lt_of_le hl hB)
 ⟨(e _).trans h.e0, (e _).trans h.e1, (e _).trans h.e2, (e _).trans h.e3, (e _).trans h.e4, (e _).trans h.e5, (e _).trans h.e6, (e _).trans h.e7, (e _).trans h.e8, h.lo.below hb hB, h.hi.below hb hB⟩
theorem RIn.at {w : World} {r : List Pl.Ivl} {a : Option Addr} {c : Nat} (h : RIn w r a c) (h0 : 0 < r.length) : ∃ b off, a = some ⟨b, off, none⟩ ∧ b < w.heap.size ∧ ∀ k (hk : k < r.length), ∃ a1 b1 c1 d1, IvAt w b (off + k * 9) r[k] a1 b1 c1 d1 := by
 obtain ⟨cs, h1, h2⟩ := h.mem
 rcases h1.mem with rfl | ⟨b, off, rfl, hlt, hc⟩
 · have := h2.len
   simp at this
   omega
 · refine ⟨b, off, rfl, hlt, fun k hk => ?_⟩
   obtain ⟨es, g1, g2⟩ := h2.cells hc k hk
   exact IvAt.of g1 g2
theorem VIn.setNS {w : World} {v : Pl.Ver} {a : Option Addr} {c : Nat} (h : VIn w v a c) {p : Addr} {u : Value} (hp : w.cell? p = some u) (hu : ∀ s, u ≠ .string s) (x : Value) : VIn (w.setCell p x) v a c := by
 refine ⟨⟨h.sl.hl, h.sl.hcap, h.sl.hmax, ?_⟩, h.ss⟩
 rcases h.sl.mem with h0 | ⟨b, off, rfl, hlt, hc⟩
 · exact .inl h0
 · refine .inr ⟨b, off, rfl, by simpa using hlt, fun j y hy => ?_⟩
   have h1 := hc j y hy
   rw [World.cell?_setCell_other]
   · exact h1
   · intro e
     first | rw [← e] at hp | rw [e] at hp
     rw [hp] at h1
     obtain ⟨s, hs⟩ : ∃ s, y = .string s := by
      have := List.mem_of_getElem? hy
      unfold strVals at this
      obtain ⟨s, _, rfl⟩ := List.mem_map.1 this
      exact ⟨s, rfl⟩
     exact hu s ((Option.some.inj h1).trans hs)
def RRng (r : List Pl.Ivl) (w : World) (e : Ending) (w' : World) : Prop := ∃ a c, e = .returned (.agg #[.slice a r.length c]) ∧ RIn w' r a c ∧ Below w.heap.size w w'
def RRngF (r : List Pl.Ivl) (F : Int × Int) (w : World) (e : Ending) (w' : World) : Prop := ∃ a c, e = .returned (.tuple #[.agg #[.slice a r.length c], fltV F]) ∧ RIn w' r a c ∧ Below w.heap.size w w'
end
section
open Go.RowKit
namespace Sh
abbrev ivl : Sh := .cons ver (.cons ver (.cons .bool .nil))
abbrev rng : Sh := .cons (.sl ivl) .nil
def toIvl (x : ivl.T) : Pl.Ivl := ⟨toVer x.1, toVer x.2.1, x.2.2.1⟩
def toRng (x : rng.T) : List Pl.Ivl := (show List ivl.T from x.1).map toIvl
theorem ivl_is {w : World} {cs : List Value} {x : ivl.T} (h : Holds w ivl cs x) (hw : ivl.Wf x) : IvIs w (toIvl x) cs := by
 obtain ⟨a, b, u, k⟩ := x
 obtain ⟨c1, c2, rfl, _, h1, c3, c4, rfl, _, h2, c5, c6, rfl, _, h3, h4⟩ := h
 obtain ⟨w1, w2, _⟩ := hw
 have h3 : c5 = [.bool u] := h3
 have h4 : c6 = [] := h4
 obtain ⟨p, q, rfl, v1⟩ := ver_is (x := a) h1 w1
 obtain ⟨p2, q2, rfl, v2⟩ := ver_is (x := b) h2 w2
 subst h3 h4
 exact ⟨p, p2, q, q2, rfl, v1, v2⟩
theorem ivls_is {w : World} {v : Value} {l : List ivl.T} (h : Holds w (.sl ivl) [v] l) (hw : (Sh.sl ivl).Wf l) : ∃ a c, v = .slice a (l.map toIvl).length c ∧ RIn w (l.map toIvl) a c := by
 obtain ⟨oa, cap, h1, h2, h3, h4⟩ := h
 have h1 : [v] = [Value.slice oa l.length cap] := h1
 simp only [List.cons.injEq, and_true] at h1
 subst h1
 refine ⟨oa, cap, by rw [List.length_map], ?_⟩
 rcases h4 with h4 | ⟨b, off, rfl, g2, g3⟩
 · have h4 : l = [] := h4
   subst h4
   refine ⟨⟨[], ⟨rfl, h2, h3, .inl rfl⟩, Elems.nil⟩⟩
 · obtain ⟨cs, k1, k2⟩ := Elems.of (P := IvIs w) (sz := 9) (fun x cs h => h.len) (w := w) (b := b) (l.map toIvl) off fun i hi => by
    have hi' : i < l.length := by simpa using hi
    obtain ⟨es, m1, m2, m3⟩ := g3 i hi'
    refine ⟨es, ?_, m2⟩
    rw [List.getElem_map]
    exact ivl_is m3 (hw.2 _ (List.getElem_mem hi'))
   refine ⟨⟨cs, ⟨k1.len, by rw [List.length_map]; exact h2, h3, .inr ⟨b, off, rfl, g2, k2⟩⟩, k1⟩⟩
theorem rng_is {w : World} {cs : List Value} {x : rng.T} (h : Holds w rng cs x) (hw : rng.Wf x) : ∃ a c, cs = [.slice a (toRng x).length c] ∧ RIn w (toRng x) a c := by
 obtain ⟨l, k⟩ := x
 obtain ⟨c1, c2, rfl, _, h1, h2⟩ := h
 have h2 : c2 = [] := h2
 subst h2
 obtain ⟨w1, _⟩ := hw
 have k5 : ∃ v, c1 = [v] := by obtain ⟨oa, cap, h, _⟩ := h1; exact ⟨_, h⟩
 obtain ⟨v, rfl⟩ := k5
 obtain ⟨a, c, rfl, hr⟩ := ivls_is (l := l) h1 w1
 exact ⟨a, c, rfl, hr⟩
end Sh
end
section
open Go.RowKit
structure Bk (w : World) (r : Nat) (cs : List Value) : Prop where
 a : ∀ o, w.cell? ⟨r, o, none⟩ = cs[o]?
 f : ∀ o, w.frozen? ⟨r, o, none⟩ = false
 lt : r < w.heap.size
theorem Bk.c {w : World} {r : Nat} {cs : List Value} (h : Bk w r cs) (j : Nat) {u : Value} (hu : cs[j]? = some u := by rfl) : w.cell? ⟨r, j, none⟩ = some u := (h.a j).trans hu
theorem Bk.new {r : Nat} {cs : List Value} (w : World) (t : TypeId) (hg : r = w.heap.size) : Bk (w.alloc (.cells cs.toArray t)) r cs := by
 subst hg
 exact ⟨fun o => by simp, fun o => World.frozen?_alloc_at _ _ _ _ rfl, by simp⟩
theorem Bk.below {w w' : World} {r : Nat} {cs : List Value} (h : Bk w r cs) {B : Nat} (hb : Below B w w') (hr : r < B) : Bk w' r cs :=
 ⟨fun o => (hb.cell (p := ⟨r, o, none⟩) hr).trans (h.a o), fun o => (hb.frozen (p := ⟨r, o, none⟩) hr).trans (h.f o), Nat.lt_of_lt_of_le h.lt hb.size⟩
theorem Bk.alloc {w : World} {r : Nat} {cs : List Value} (h : Bk w r cs) (o : Obj) : Bk (w.alloc o) r cs := h.below (B := w.heap.size) ((Below.refl _ _).alloc nle _) h.lt
theorem Bk.drew {w : World} {r : Nat} {cs : List Value} (h : Bk w r cs) : Bk w.drew r cs := h.below (B := w.heap.size) ((Below.refl _ _).drew) h.lt
theorem Bk.drewN {w : World} {r : Nat} {cs : List Value} (h : Bk w r cs) (n : Nat) : Bk (w.drewN n) r cs := h.below (B := w.heap.size) (Go.below_drewN (Below.refl _ _) n) h.lt
theorem Bk.set {w : World} {r : Nat} {cs : List Value} (h : Bk w r cs) {k : Nat} (hk : k < cs.length) (v : Value) : Bk (w.setCell ⟨r, k, none⟩ v) r (cs.set k v) := by
 refine ⟨fun j => ?_, fun j => by rw [frozen_setCell]; exact h.f j, by simpa using h.lt⟩
 rw [List.getElem?_set]
 by_cases hjk : k = j
 · subst hjk
   rw [if_pos rfl, if_pos hk]
   exact World.cell?_setCell_same _ _ _ ((h.a k).trans (List.getElem?_eq_getElem hk))
 · rw [if_neg hjk, World.cell?_setCell_other _ _ _ _ (by intro h2; injection h2 with _ h3; exact hjk h3)]
   exact h.a j
theorem Bk.far {w : World} {r : Nat} {cs : List Value} (h : Bk w r cs) {a : Addr} (hne : a.block ≠ r) (v : Value) : Bk (w.setCell a v) r cs := by
 refine ⟨fun j => ?_, fun j => by rw [frozen_setCell]; exact h.f j, by simpa using h.lt⟩
 rw [World.cell?_setCell_other _ _ _ _ (by intro h2; apply hne; have := congrArg Addr.block h2; first | exact this | exact this.symm)]
 exact h.a j
theorem Bk.fr {w : World} {r : Nat} {cs : List Value} (h : Bk w r cs) (b o : Nat) (hne : b ≠ r) (v : Value) : Bk (w.setCell ⟨b, o, none⟩ v) r cs := h.far hne v
theorem Bk.st {w : World} {r : Nat} {cs : List Value} (h : Bk w r cs) (k : Nat) (v : Value) (hk : k < cs.length := by simp) : Bk (w.setCell ⟨r, k, none⟩ v) r (cs.set k v) := h.set hk v
theorem Bk.bw {w w' : World} {r B : Nat} {cs : List Value} (h : Bk w r cs) (hb : Below B w w') (hr : r < B := by go_size) : Bk w' r cs := h.below hb hr
theorem bkn {w : World} (r : Nat) (cs : List Value) (t : TypeId) (hg : r = w.heap.size := by simp) : Bk (w.alloc (.cells cs.toArray t)) r cs := Bk.new w t hg
end
section
open Go.RowKit
def nstr : Value → Bool
 | .string _ => false
 | _ => true
theorem nstr_ne {v : Value} (h : nstr v = true) : ∀ s, v ≠ .string s := fun s e => by subst e; cases h
theorem VIn.sets {v : Pl.Ver} {a : Option Addr} {c g : Nat} : ∀ (L : List (Nat × Value)) {w : World} {cs : List Value} (_ : VIn w v a c) (_ : Bk w g cs) (_ : cs.all nstr = true := by rfl) (_ : (L.all fun p => decide (p.1 < cs.length) && nstr p.2) = true := by rfl), VIn (L.foldl (fun w p => w.setCell ⟨g, p.1, none⟩ p.2) w) v a c
 | [], _, _, h, _, _, _ => h
 | (j, x) :: L, w, cs, h, O, h1, h2 => by
   rw [List.all_cons, Bool.and_eq_true, Bool.and_eq_true, decide_eq_true_eq] at h2
   obtain ⟨⟨hj, hx⟩, h3⟩ := h2
   have hj : j < cs.length := hj
   refine VIn.sets L (cs := cs.set j x) (h.setNS (O.c j (List.getElem?_eq_getElem hj)) (nstr_ne (List.all_eq_true.1 h1 _ (List.getElem_mem _))) x) (O.set hj x) ?_ (by simpa using h3)
   rw [List.all_eq_true] at h1 ⊢
   intro y hy
   rcases List.mem_or_eq_of_mem_set hy with h4 | h4
   · exact h1 y h4
   · rw [h4]; exact hx
theorem Bk.frs {r : Nat} {cs : List Value} (b : Nat) : ∀ (L : List (Nat × Value)) {w : World} (_ : Bk w r cs) (_ : b ≠ r := by omega), Bk (L.foldl (fun w p => w.setCell ⟨b, p.1, none⟩ p.2) w) r cs
 | [], _, h, _ => h
 | (j, x) :: L, _, h, hne => Bk.frs b L (h.far (a := ⟨b, j, none⟩) hne x) hne
abbrev ivV (x : Pl.Ivl) (a b : Option Addr) (c d : Nat) : Value := .agg #[.int .i64 x.lo.maj, .int .i64 x.lo.min, .int .i64 x.lo.pat, .slice a x.lo.pre.length c, .int .i64 x.hi.maj, .int .i64 x.hi.min, .int .i64 x.hi.pat, .slice b x.hi.pre.length d, .bool x.un]
theorem Zero_any (v : Pl.Ver) (a : Option Addr) (c : Nat) (w : World) :
 Calls Tryz.prog 147 #[verV v a c] w fun e w' => e = .returned (.bool (Pl.zeroB v)) ∧ Below w.heap.size w w' := by
 have key : ∀ b1 b2 b3 b4 : Bool, decide (v.maj = 0) = b1 → decide (v.min = 0) = b2 → decide (v.pat = 0) = b3 → decide (v.pre.length = 0) = b4 → Hid ((b1 && b2 && b3 && b4) = Pl.zeroB v) := fun b1 b2 b3 b4 e1 e2 e3 e4 => Hd (by subst e1 e2 e3 e4; rfl)
 by_cases h0 : v.maj = 0
 · by_cases h1 : v.min = 0
   · by_cases h2 : v.pat = 0
     · by_cases h3 : v.pre.length = 0
       · have E := key true true true true (decide_eq_true h0) (decide_eq_true h1) (decide_eq_true h2) (decide_eq_true h3)
         have t0 := beqT h0
         have t1 := beqT h1
         have t2 := beqT h2
         have t3 : ((v.pre.length : Int) == 0) = true := beqT (by omega)
         clear key h0 h1 h2 h3
         go_enter Tryz.func147, Tryz.ntmps147
         go_wp2_with fail
         go_ret
         exact ⟨ret_bool (by rw [← E.out]; simp), by go_grown⟩
       · have E := key true true true false (decide_eq_true h0) (decide_eq_true h1) (decide_eq_true h2) (decide_eq_false h3)
         have t0 := beqT h0
         have t1 := beqT h1
         have t2 := beqT h2
         have t3 : ((v.pre.length : Int) == 0) = false := beqF (by omega)
         clear key h0 h1 h2 h3
         go_enter Tryz.func147, Tryz.ntmps147
         go_wp2_with fail
         go_ret
         exact ⟨ret_bool (by rw [← E.out]; simp), by go_grown⟩
     · have E := key true true false _ (decide_eq_true h0) (decide_eq_true h1) (decide_eq_false h2) rfl
       have t0 := beqT h0
       have t1 := beqT h1
       have t2 := beqF h2
       clear key h0 h1 h2
       go_enter Tryz.func147, Tryz.ntmps147
       go_wp2_with fail
       go_ret
       exact ⟨ret_bool (by rw [← E.out]; simp), by go_grown⟩
   · have E := key true false _ _ (decide_eq_true h0) (decide_eq_false h1) rfl rfl
     have t0 := beqT h0
     have t1 := beqF h1
     clear key h0 h1
     go_enter Tryz.func147, Tryz.ntmps147
     go_wp2_with fail
     go_ret
     exact ⟨ret_bool (by rw [← E.out]; simp), by go_grown⟩
 · have E := key false _ _ _ (decide_eq_false h0) rfl rfl rfl
   have t0 := beqF h0
   clear key h0
   go_enter Tryz.func147, Tryz.ntmps147
   go_wp2_with fail
   go_ret
   exact ⟨ret_bool (by rw [← E.out]; simp), by go_grown⟩
set_option maxHeartbeats 1000000 in
theorem check_lo (x : Pl.Ivl) (a b : Option Addr) (c d : Nat) (w : World) (h1 : VIn w x.lo a c) (h2 : VIn w x.hi b d) (f1 f2 : Int) (hf : f1 ≠ 0) (e1 : Pl.vrF x.lo = (f1, f2)) :
 Calls Tryz.prog 114 #[ivV x a b c d] w fun e w' => e = .returned (.int .i64 (Pl.chkI x)) ∧ Below w.heap.size w w' := by
 have E : Hid (f1 = Pl.chkI x) := Hd (Eq.symm (by unfold Pl.chkI; rw [e1, if_pos hf]))
 have u1 := bneT hf
 have u2 := beqF hf
 clear hf
 have C1 := Hd (fun (W : World) (g : VIn W x.lo a c) => Validate_any x.lo a c W g)
 rw [e1] at C1
 simp only [fltV] at C1
 have L := Hd h1
 have R := Hd h2
 clear h1 h2 e1
 go_enter Tryz.func114, Tryz.ntmps114
 have B0 := brl w
 go_wp2_with fail
 refine (C1.out _ (L.out.bl (by go_grown))).mono ?_
 rintro e w1 ⟨rfl, hb⟩
 have B1 := bcm w hb
 have q1 : w.heap.size + 1 ≤ w1.heap.size := qle hb
 replace L := Hd ((L.out.al _).bl hb)
 replace R := Hd ((R.out.al _).bl hb)
 have X := ((bkn w.heap.size [.int .i64 x.lo.maj, .int .i64 x.lo.min, .int .i64 x.lo.pat, .slice a x.lo.pre.length c, .int .i64 x.hi.maj, .int .i64 x.hi.min, .int .i64 x.hi.pat, .slice b x.hi.pre.length d, .bool x.un] 101)).bw hb
 clear hb
 have s1 := B1.size
 have ⟨Xc, Xf, Xl⟩ := X
 go_wp2_with fail
 go_ret
 exact ⟨ret_int E.out, by go_grown⟩
set_option maxHeartbeats 1000000 in
theorem check_un (x : Pl.Ivl) (a b : Option Addr) (c d : Nat) (w : World) (h1 : VIn w x.lo a c) (h2 : VIn w x.hi b d) (e1 : Pl.vrF x.lo = (0, 0)) (hu : x.un = true) (z : Bool) (hz : Pl.zeroB x.hi = z) :
 Calls Tryz.prog 114 #[ivV x a b c d] w fun e w' => e = .returned (.int .i64 (Pl.chkI x)) ∧ Below w.heap.size w w' := by
 have E : Hid ((if z = true then 0 else 5) = Pl.chkI x) := Hd (Eq.symm (by unfold Pl.chkI; rw [e1, if_neg (by decide), if_pos hu, hz]))
 have C1 := Hd (fun (W : World) (g : VIn W x.lo a c) => Validate_any x.lo a c W g)
 rw [e1] at C1
 simp only [fltV] at C1
 have C2 := Hd (fun (W : World) => Zero_any x.hi b d W)
 rw [hz] at C2
 clear hz
 have L := Hd h1
 have R := Hd h2
 clear h1 h2 e1
 unfold ivV
 rw [hu]
 clear hu
 go_enter Tryz.func114, Tryz.ntmps114
 have B0 := brl w
 go_wp2_with fail
 refine (C1.out _ (L.out.bl (by go_grown))).mono ?_
 rintro e w1 ⟨rfl, hb⟩
 have B1 := bcm w hb
 have q1 : w.heap.size + 1 ≤ w1.heap.size := qle hb
 replace L := Hd ((L.out.al _).bl hb)
 replace R := Hd ((R.out.al _).bl hb)
 have X := ((bkn w.heap.size [.int .i64 x.lo.maj, .int .i64 x.lo.min, .int .i64 x.lo.pat, .slice a x.lo.pre.length c, .int .i64 x.hi.maj, .int .i64 x.hi.min, .int .i64 x.hi.pat, .slice b x.hi.pre.length d, .bool true] 101)).bw hb
 clear hb
 have s1 := B1.size
 have ⟨Xc, Xf, Xl⟩ := X
 go_wp2_with fail
 refine (C2.out _).mono ?_
 rintro e w2 ⟨rfl, hb⟩
 have B2 := bcm w hb
 have q2 : w1.heap.size + 1 ≤ w2.heap.size := qle hb
 replace L := Hd ((L.out.al _).bl hb)
 replace R := Hd ((R.out.al _).bl hb)
 replace X := ((X.alloc _)).bw hb
 clear hb
 have s2 := B2.size
 clear Xc Xf Xl
 have ⟨Xc, Xf, Xl⟩ := X
 cases z
 all_goals (go_wp2_with fail; go_ret; exact ⟨ret_int (by rw [← E.out]; rfl), by go_grown⟩)
set_option maxHeartbeats 1000000 in
theorem check_hi (x : Pl.Ivl) (a b : Option Addr) (c d : Nat) (w : World) (h1 : VIn w x.lo a c) (h2 : VIn w x.hi b d) (e1 : Pl.vrF x.lo = (0, 0)) (hu : x.un = false) (f1 f2 : Int) (hf : f1 ≠ 0) (e2 : Pl.vrF x.hi = (f1, f2)) :
 Calls Tryz.prog 114 #[ivV x a b c d] w fun e w' => e = .returned (.int .i64 (Pl.chkI x)) ∧ Below w.heap.size w w' := by
 have E : Hid (f1 = Pl.chkI x) := Hd (Eq.symm (by unfold Pl.chkI; rw [e1, if_neg (by decide), if_neg (by rw [hu]; decide), e2, if_pos hf]))
 have u1 := bneT hf
 have u2 := beqF hf
 clear hf
 have C1 := Hd (fun (W : World) (g : VIn W x.lo a c) => Validate_any x.lo a c W g)
 rw [e1] at C1
 simp only [fltV] at C1
 have C2 := Hd (fun (W : World) (g : VIn W x.hi b d) => Validate_any x.hi b d W g)
 rw [e2] at C2
 simp only [fltV] at C2
 clear e2
 have L := Hd h1
 have R := Hd h2
 clear h1 h2 e1
 unfold ivV
 rw [hu]
 clear hu
 go_enter Tryz.func114, Tryz.ntmps114
 have B0 := brl w
 go_wp2_with fail
 refine (C1.out _ (L.out.bl (by go_grown))).mono ?_
 rintro e w1 ⟨rfl, hb⟩
 have B1 := bcm w hb
 have q1 : w.heap.size + 1 ≤ w1.heap.size := qle hb
 replace L := Hd ((L.out.al _).bl hb)
 replace R := Hd ((R.out.al _).bl hb)
 have X := ((bkn w.heap.size [.int .i64 x.lo.maj, .int .i64 x.lo.min, .int .i64 x.lo.pat, .slice a x.lo.pre.length c, .int .i64 x.hi.maj, .int .i64 x.hi.min, .int .i64 x.hi.pat, .slice b x.hi.pre.length d, .bool false] 101)).bw hb
 clear hb
 have s1 := B1.size
 have ⟨Xc, Xf, Xl⟩ := X
 go_wp2_with fail
 refine (C2.out _ (R.out.bl (by go_grown))).mono ?_
 rintro e w2 ⟨rfl, hb⟩
 have B2 := bcm w hb
 have q2 : w1.heap.size + 1 ≤ w2.heap.size := qle hb
 replace L := Hd ((L.out.al _).bl hb)
 replace R := Hd ((R.out.al _).bl hb)
 replace X := ((X.alloc _)).bw hb
 clear hb
 have s2 := B2.size
 clear Xc Xf Xl
 have ⟨Xc, Xf, Xl⟩ := X
 go_wp2_with fail
 go_ret
 exact ⟨ret_int E.out, by go_grown⟩
set_option maxHeartbeats 1000000 in
theorem check_ok (x : Pl.Ivl) (a b : Option Addr) (c d : Nat) (w : World) (h1 : VIn w x.lo a c) (h2 : VIn w x.hi b d) (e1 : Pl.vrF x.lo = (0, 0)) (hu : x.un = false) (e2 : Pl.vrF x.hi = (0, 0)) (k : Int) (hk : Pl.verCmp x.lo x.hi = k) :
 Calls Tryz.prog 114 #[ivV x a b c d] w fun e w' => e = .returned (.int .i64 (Pl.chkI x)) ∧ Below w.heap.size w w' := by
 have E : Hid ((if 0 ≤ k then 5 else 0) = Pl.chkI x) := Hd (Eq.symm (by unfold Pl.chkI; rw [e1, if_neg (by decide), if_neg (by rw [hu]; decide), e2, if_neg (by decide), hk]))
 have CO := Hd (fun (W : World) (g1 : VIn W x.lo a c) (g2 : VIn W x.hi b d) => Order_any x.lo x.hi a b c d W (VOk.of g1 (Pl.vr_ok (by rw [e1]))) (VOk.of g2 (Pl.vr_ok (by rw [e2]))))
 rw [hk] at CO
 clear hk
 have C1 := Hd (fun (W : World) (g : VIn W x.lo a c) => Validate_any x.lo a c W g)
 rw [e1] at C1
 simp only [fltV] at C1
 have C2 := Hd (fun (W : World) (g : VIn W x.hi b d) => Validate_any x.hi b d W g)
 rw [e2] at C2
 simp only [fltV] at C2
 clear e2
 have L := Hd h1
 have R := Hd h2
 clear h1 h2 e1
 unfold ivV
 rw [hu]
 clear hu
 go_enter Tryz.func114, Tryz.ntmps114
 have B0 := brl w
 go_wp2_with fail
 refine (C1.out _ (L.out.bl (by go_grown))).mono ?_
 rintro e w1 ⟨rfl, hb⟩
 have B1 := bcm w hb
 have q1 : w.heap.size + 1 ≤ w1.heap.size := qle hb
 replace L := Hd ((L.out.al _).bl hb)
 replace R := Hd ((R.out.al _).bl hb)
 have X := ((bkn w.heap.size [.int .i64 x.lo.maj, .int .i64 x.lo.min, .int .i64 x.lo.pat, .slice a x.lo.pre.length c, .int .i64 x.hi.maj, .int .i64 x.hi.min, .int .i64 x.hi.pat, .slice b x.hi.pre.length d, .bool false] 101)).bw hb
 clear hb
 have s1 := B1.size
 have ⟨Xc, Xf, Xl⟩ := X
 go_wp2_with fail
 refine (C2.out _ (R.out.bl (by go_grown))).mono ?_
 rintro e w2 ⟨rfl, hb⟩
 have B2 := bcm w hb
 have q2 : w1.heap.size + 1 ≤ w2.heap.size := qle hb
 replace L := Hd ((L.out.al _).bl hb)
 replace R := Hd ((R.out.al _).bl hb)
 replace X := ((X.alloc _)).bw hb
 clear hb
 have s2 := B2.size
 clear Xc Xf Xl
 have ⟨Xc, Xf, Xl⟩ := X
 go_wp2_with fail
 refine (CO.out _ (L.out.bl (by go_grown)) (R.out.bl (by go_grown))).mono ?_
 rintro e w3 ⟨rfl, hb⟩
 have B3 := bcm w hb
 have q3 : w2.heap.size + 1 ≤ w3.heap.size := qle hb
 replace L := Hd ((L.out.al _).bl hb)
 replace R := Hd ((R.out.al _).bl hb)
 replace X := ((X.alloc _)).bw hb
 clear hb
 have s3 := B3.size
 clear Xc Xf Xl
 have ⟨Xc, Xf, Xl⟩ := X
 by_cases hk : 0 ≤ k
 · have t1 : decide ((0 : Int) ≤ k) = true := decide_eq_true hk
   replace E := Hd (E.out.symm.trans (if_pos hk)).symm
   clear hk
   go_wp2_with fail
   go_ret
   exact ⟨ret_int E.out, by go_grown⟩
 · have t1 : decide ((0 : Int) ≤ k) = false := decide_eq_false hk
   replace E := Hd (E.out.symm.trans (if_neg hk)).symm
   clear hk
   go_wp2_with fail
   go_ret
   exact ⟨ret_int E.out, by go_grown⟩
theorem check_any (x : Pl.Ivl) (a b : Option Addr) (c d : Nat) (w : World) (h1 : VIn w x.lo a c) (h2 : VIn w x.hi b d) :
 Calls Tryz.prog 114 #[ivV x a b c d] w fun e w' => e = .returned (.int .i64 (Pl.chkI x)) ∧ Below w.heap.size w w' := by
 by_cases f1 : (Pl.vrF x.lo).1 = 0
 · cases hu : x.un with
   | true => exact check_un x a b c d w h1 h2 (Pl.vr_zero f1) hu _ rfl
   | false =>
     by_cases f2 : (Pl.vrF x.hi).1 = 0
     · exact check_ok x a b c d w h1 h2 (Pl.vr_zero f1) hu (Pl.vr_zero f2) _ rfl
     · exact check_hi x a b c d w h1 h2 (Pl.vr_zero f1) hu _ _ f2 rfl
 · exact check_lo x a b c d w h1 h2 _ _ f1 rfl
end
end Go.Proofs.YtolfgcoalihmgaaGreatDoor
