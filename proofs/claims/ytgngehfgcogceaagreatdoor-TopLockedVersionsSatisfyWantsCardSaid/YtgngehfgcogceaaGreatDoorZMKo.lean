/- Texts joined: Da Ew Qe Oa Ox Ko. -/
import Derived.Test.YtgngehfgcogceaaGreatDoorZMKd
import Derived.Test.YtgngehfgcogceaaGreatDoorZMKk
import Derived.Test.YtgngehfgcogceaaGreatDoorZMQb
import Derived.Test.YtgngehfgcogceaaGreatDoorZMKl
section
/- Ranges of versions in memory. -/
namespace Go.Proofs.YtgngehfgcogceaaGreatDoor
open Go.RowKit

/-- The cells of an interval. -/
abbrev ivC (x : Pl.Ivl) (a b : Option Addr) (c d : Nat) : List Value := [.int .i64 x.lo.maj, .int .i64 x.lo.min, .int .i64 x.lo.pat, .slice a x.lo.pre.length c, .int .i64 x.hi.maj, .int .i64 x.hi.min, .int .i64 x.hi.pat, .slice b x.hi.pre.length d, .bool x.un]
/-- An interval's cells, its identifiers in memory. -/
def IvIs (w : World) (x : Pl.Ivl) (cs : List Value) : Prop := ∃ a b c d, cs = ivC x a b c d ∧ VIn w x.lo a c ∧ VIn w x.hi b d
theorem IvIs.len {w : World} {x : Pl.Ivl} {cs : List Value} (h : IvIs w x cs) : cs.length = 9 := by obtain ⟨a, b, c, d, rfl, _⟩ := h; rfl
theorem IvIs.one {w : World} {x : Pl.Ivl} {cs : List Value} (h : IvIs w x cs) : ∀ u ∈ cs, u.oneCell' = true := by
  obtain ⟨a, b, c, d, rfl, _⟩ := h
  intro u hu
  simp only [List.mem_cons, List.not_mem_nil, or_false] at hu
  rcases hu with rfl | rfl | rfl | rfl | rfl | rfl | rfl | rfl | rfl <;> rfl
theorem IvIs.below {w w' : World} {x : Pl.Ivl} {cs : List Value} (h : IvIs w x cs) {B : Nat} (hb : Below B w w') (hB : w.heap.size ≤ B) : IvIs w' x cs := by
  obtain ⟨a, b, c, d, h1, h2, h3⟩ := h
  exact ⟨a, b, c, d, h1, h2.below hb hB, h3.below hb hB⟩
theorem IvIs.mk {w : World} {x : Pl.Ivl} {a b : Option Addr} {c d : Nat} (h1 : VIn w x.lo a c) (h2 : VIn w x.hi b d) : IvIs w x (ivC x a b c d) := ⟨a, b, c, d, rfl, h1, h2⟩
/-- A list of intervals that lies in memory. -/
structure RIn (w : World) (r : List Pl.Ivl) (a : Option Addr) (c : Nat) : Prop where
  mem : ∃ cs, Sl w a r.length c 9 cs ∧ Elems (IvIs w) 9 r cs
theorem RIn.below {w w' : World} {r : List Pl.Ivl} {a : Option Addr} {c : Nat} (h : RIn w r a c) {B : Nat} (hb : Below B w w') (hB : w.heap.size ≤ B) : RIn w' r a c := by
  obtain ⟨cs, h1, h2⟩ := h.mem
  exact ⟨cs, h1.below hb hB, h2.mono fun _ _ h => h.below hb hB⟩
theorem RIn.len {w : World} {r : List Pl.Ivl} {a : Option Addr} {c : Nat} (h : RIn w r a c) : r.length ≤ 9223372036854775807 := by
  obtain ⟨cs, h1, _⟩ := h.mem
  have h2 := h1.hcap
  have h3 := h1.hmax
  simp only [maxLen] at h3
  omega
theorem RIn.nil (w : World) : RIn w [] none 0 := ⟨[], Sl.nil w 9, Elems.nil⟩
/-- One interval of a list. -/
structure IvAt (w : World) (b o : Nat) (x : Pl.Ivl) (a1 b1 : Option Addr) (c1 d1 : Nat) : Prop where
  e0 : w.cell? ⟨b, o, none⟩ = some (.int .i64 x.lo.maj)
  e1 : w.cell? ⟨b, o + 1, none⟩ = some (.int .i64 x.lo.min)
  e2 : w.cell? ⟨b, o + 2, none⟩ = some (.int .i64 x.lo.pat)
  e3 : w.cell? ⟨b, o + 3, none⟩ = some (.slice a1 x.lo.pre.length c1)
  e4 : w.cell? ⟨b, o + 4, none⟩ = some (.int .i64 x.hi.maj)
  e5 : w.cell? ⟨b, o + 5, none⟩ = some (.int .i64 x.hi.min)
  e6 : w.cell? ⟨b, o + 6, none⟩ = some (.int .i64 x.hi.pat)
  e7 : w.cell? ⟨b, o + 7, none⟩ = some (.slice b1 x.hi.pre.length d1)
  e8 : w.cell? ⟨b, o + 8, none⟩ = some (.bool x.un)
  lo : VIn w x.lo a1 c1
  hi : VIn w x.hi b1 d1
theorem IvAt.of {w : World} {b o : Nat} {x : Pl.Ivl} {es : List Value} (h : IvIs w x es) (hc : ∀ j u, es[j]? = some u → w.cell? ⟨b, o + j, none⟩ = some u) : ∃ a1 b1 c1 d1, IvAt w b o x a1 b1 c1 d1 := by
  obtain ⟨a1, b1, c1, d1, rfl, h1, h2⟩ := h
  exact ⟨a1, b1, c1, d1, hc 0 _ rfl, hc 1 _ rfl, hc 2 _ rfl, hc 3 _ rfl, hc 4 _ rfl, hc 5 _ rfl, hc 6 _ rfl, hc 7 _ rfl, hc 8 _ rfl, h1, h2⟩
theorem IvAt.below {w w' : World} {b o : Nat} {x : Pl.Ivl} {a1 b1 : Option Addr} {c1 d1 : Nat} (h : IvAt w b o x a1 b1 c1 d1) {B : Nat} (hb : Below B w w') (hl : b < w.heap.size) (hB : w.heap.size ≤ B) : IvAt w' b o x a1 b1 c1 d1 :=
  have e : ∀ j, w'.cell? ⟨b, j, none⟩ = w.cell? ⟨b, j, none⟩ := fun j => hb.cell (p := ⟨b, j, none⟩) (Nat.lt_of_lt_of_le hl hB)
  ⟨(e _).trans h.e0, (e _).trans h.e1, (e _).trans h.e2, (e _).trans h.e3, (e _).trans h.e4, (e _).trans h.e5, (e _).trans h.e6, (e _).trans h.e7, (e _).trans h.e8, h.lo.below hb hB, h.hi.below hb hB⟩
theorem RIn.at {w : World} {r : List Pl.Ivl} {a : Option Addr} {c : Nat} (h : RIn w r a c) (h0 : 0 < r.length) : ∃ b off, a = some ⟨b, off, none⟩ ∧ b < w.heap.size ∧ ∀ k (hk : k < r.length), ∃ a1 b1 c1 d1, IvAt w b (off + k * 9) r[k] a1 b1 c1 d1 := by
  obtain ⟨cs, h1, h2⟩ := h.mem
  rcases h1.mem with rfl | ⟨b, off, rfl, hlt, hc⟩
  · have := h2.len
    simp at this
    omega
  · refine ⟨b, off, rfl, hlt, fun k hk => ?_⟩
    obtain ⟨es, g1, g2⟩ := h2.cells hc k hk
    exact IvAt.of g1 g2

theorem VIn.setNS {w : World} {v : Pl.Ver} {a : Option Addr} {c : Nat} (h : VIn w v a c) {p : Addr} {u : Value} (hp : w.cell? p = some u) (hu : ∀ s, u ≠ .string s) (x : Value) : VIn (w.setCell p x) v a c := by
  refine ⟨⟨h.sl.hl, h.sl.hcap, h.sl.hmax, ?_⟩, h.ss⟩
  rcases h.sl.mem with h0 | ⟨b, off, rfl, hlt, hc⟩
  · exact .inl h0
  · refine .inr ⟨b, off, rfl, by simpa using hlt, fun j y hy => ?_⟩
    have h1 := hc j y hy
    rw [World.cell?_setCell_other]
    · exact h1
    · intro e
      first | rw [← e] at hp | rw [e] at hp
      rw [hp] at h1
      obtain ⟨s, hs⟩ : ∃ s, y = .string s := by
        have := List.mem_of_getElem? hy
        unfold strVals at this
        obtain ⟨s, _, rfl⟩ := List.mem_map.1 this
        exact ⟨s, rfl⟩
      exact hu s ((Option.some.inj h1).trans hs)
/-- A range is handed back. -/
def RRng (r : List Pl.Ivl) (w : World) (e : Ending) (w' : World) : Prop := ∃ a c, e = .returned (.agg #[.slice a r.length c]) ∧ RIn w' r a c ∧ Below w.heap.size w w'
def RRngF (r : List Pl.Ivl) (F : Int × Int) (w : World) (e : Ending) (w' : World) : Prop := ∃ a c, e = .returned (.tuple #[.agg #[.slice a r.length c], fltV F]) ∧ RIn w' r a c ∧ Below w.heap.size w w'
end Go.Proofs.YtgngehfgcogceaaGreatDoor

end
section
/- Ranges as they come in: their memory. -/
namespace Go.Proofs.YtgngehfgcogceaaGreatDoor
open Go.RowKit
namespace Sh
abbrev ivl : Sh := .cons ver (.cons ver (.cons .bool .nil))
abbrev rng : Sh := .cons (.sl ivl) .nil
def toIvl (x : ivl.T) : Pl.Ivl := ⟨toVer x.1, toVer x.2.1, x.2.2.1⟩
def toRng (x : rng.T) : List Pl.Ivl := (show List ivl.T from x.1).map toIvl
theorem ivl_is {w : World} {cs : List Value} {x : ivl.T} (h : Holds w ivl cs x) (hw : ivl.Wf x) : IvIs w (toIvl x) cs := by
  obtain ⟨a, b, u, k⟩ := x
  obtain ⟨c1, c2, rfl, _, h1, c3, c4, rfl, _, h2, c5, c6, rfl, _, h3, h4⟩ := h
  obtain ⟨w1, w2, _⟩ := hw
  have h3 : c5 = [.bool u] := h3
  have h4 : c6 = [] := h4
  obtain ⟨p, q, rfl, v1⟩ := ver_is (x := a) h1 w1
  obtain ⟨p2, q2, rfl, v2⟩ := ver_is (x := b) h2 w2
  subst h3 h4
  exact ⟨p, p2, q, q2, rfl, v1, v2⟩
theorem ivls_is {w : World} {v : Value} {l : List ivl.T} (h : Holds w (.sl ivl) [v] l) (hw : (Sh.sl ivl).Wf l) : ∃ a c, v = .slice a (l.map toIvl).length c ∧ RIn w (l.map toIvl) a c := by
  obtain ⟨oa, cap, h1, h2, h3, h4⟩ := h
  have h1 : [v] = [Value.slice oa l.length cap] := h1
  simp only [List.cons.injEq, and_true] at h1
  subst h1
  refine ⟨oa, cap, by rw [List.length_map], ?_⟩
  rcases h4 with h4 | ⟨b, off, rfl, g2, g3⟩
  · have h4 : l = [] := h4
    subst h4
    refine ⟨⟨[], ⟨rfl, h2, h3, .inl rfl⟩, Elems.nil⟩⟩
  · obtain ⟨cs, k1, k2⟩ := Elems.of (P := IvIs w) (sz := 9) (fun x cs h => h.len) (w := w) (b := b) (l.map toIvl) off fun i hi => by
      have hi' : i < l.length := by simpa using hi
      obtain ⟨es, m1, m2, m3⟩ := g3 i hi'
      refine ⟨es, ?_, m2⟩
      rw [List.getElem_map]
      exact ivl_is m3 (hw.2 _ (List.getElem_mem hi'))
    refine ⟨⟨cs, ⟨k1.len, by rw [List.length_map]; exact h2, h3, .inr ⟨b, off, rfl, g2, k2⟩⟩, k1⟩⟩
theorem rng_is {w : World} {cs : List Value} {x : rng.T} (h : Holds w rng cs x) (hw : rng.Wf x) : ∃ a c, cs = [.slice a (toRng x).length c] ∧ RIn w (toRng x) a c := by
  obtain ⟨l, k⟩ := x
  obtain ⟨c1, c2, rfl, _, h1, h2⟩ := h
  have h2 : c2 = [] := h2
  subst h2
  obtain ⟨w1, _⟩ := hw
  have k5 : ∃ v, c1 = [v] := by obtain ⟨oa, cap, h, _⟩ := h1; exact ⟨_, h⟩
  obtain ⟨v, rfl⟩ := k5
  obtain ⟨a, c, rfl, hr⟩ := ivls_is (l := l) h1 w1
  exact ⟨a, c, rfl, hr⟩
end Sh
end Go.Proofs.YtgngehfgcogceaaGreatDoor

end
section
/- Universes, needs and selections in plain words: the faults. No program in sight. -/
namespace Go.Proofs.YtgngehfgcogceaaGreatDoor
namespace Pl

/-- The first code that is not 0, with its place. -/
def codeAt (f : Nat → Int) (n k : Nat) : Int × Int := if k < n then (if f k = 0 then codeAt f n (k + 1) else (f k, (k : Int))) else (0, 0)
termination_by n - k
theorem codeAt_go {f : Nat → Int} {n k : Nat} {F : Int × Int} (h : k < n) (hF : codeAt f n k = F) : (f k = 0 → codeAt f n (k + 1) = F) ∧ (f k ≠ 0 → F = (f k, (k : Int))) := by
  rw [codeAt, if_pos h] at hF
  refine ⟨fun e => ?_, fun e => ?_⟩
  · rwa [if_pos e] at hF
  · rw [if_neg e] at hF; exact hF.symm
theorem codeAt_end {f : Nat → Int} {n k : Nat} {F : Int × Int} (h : n ≤ k) (hF : codeAt f n k = F) : F = (0, 0) := by
  rw [codeAt, if_neg (by omega)] at hF; exact hF.symm
theorem codeAt_cases (f : Nat → Int) (n : Nat) : ∀ (m k : Nat), m = n - k → (codeAt f n k = (0, 0) ∧ ∀ j, k ≤ j → j < n → f j = 0) ∨ (codeAt f n k).1 ≠ 0
  | 0, k, e => by
    rw [codeAt, if_neg (by omega)]
    exact .inl ⟨rfl, fun j h1 h2 => by omega⟩
  | m + 1, k, e => by
    rw [codeAt, if_pos (by omega)]
    by_cases h : f k = 0
    · rw [if_pos h]
      rcases codeAt_cases f n m (k + 1) (by omega) with ⟨h1, h2⟩ | h1
      · refine .inl ⟨h1, fun j hj hn => ?_⟩
        by_cases e : j = k
        · subst e; exact h
        · exact h2 j (by omega) hn
      · exact .inr h1
    · rw [if_neg h]; exact .inr h
theorem codeAt_zero {f : Nat → Int} {n : Nat} : ∀ (m k : Nat), m = n - k → (∀ j, k ≤ j → j < n → f j = 0) → codeAt f n k = (0, 0)
  | 0, k, e, _ => by rw [codeAt, if_neg (by omega)]
  | m + 1, k, e, h => by rw [codeAt, if_pos (by omega), if_pos (h k (Nat.le_refl _) (by omega)), codeAt_zero m (k + 1) (by omega) fun j h1 h2 => h j (by omega) h2]
theorem codeAt_ok {f : Nat → Int} {n : Nat} : (codeAt f n 0).1 = 0 ↔ ∀ j, j < n → f j = 0 := by
  refine ⟨fun h => ?_, fun h => by rw [codeAt_zero _ _ rfl fun j _ hj => h j hj]⟩
  rcases codeAt_cases f n _ 0 rfl with ⟨_, h2⟩ | h1
  · exact fun j hj => h2 j (Nat.zero_le _) hj
  · exact absurd h h1
theorem codeAt_fst {f : Nat → Int} {n : Nat} (h : (codeAt f n 0).1 = 0) : codeAt f n 0 = (0, 0) := by
  rcases codeAt_cases f n _ 0 rfl with ⟨h1, _⟩ | h1
  · exact h1
  · exact absurd h h1

/-- .. and the codes ahead of a place are 0. -/
def CodeTo (f : Nat → Int) (n k : Nat) (F : Int × Int) : Prop := codeAt f n k = F ∧ ∀ j, j < k → f j = 0
theorem CodeTo.zero {f : Nat → Int} {n : Nat} {F : Int × Int} (h : codeAt f n 0 = F) : CodeTo f n 0 F := ⟨h, fun _ h => absurd h (by omega)⟩
theorem CodeTo.go {f : Nat → Int} {n k : Nat} {F : Int × Int} (h : k < n) (H : CodeTo f n k F) : (f k = 0 → CodeTo f n (k + 1) F) ∧ (f k ≠ 0 → F = (f k, (k : Int))) := by
  obtain ⟨h1, h2⟩ := codeAt_go h H.1
  refine ⟨fun e => ⟨h1 e, fun j hj => ?_⟩, h2⟩
  by_cases c : j = k
  · subst c; exact e
  · exact H.2 j (by omega)
/-- A need: a package and the versions that will do. -/
structure Need where
  pk : Int
  rg : List Ivl
/-- A release. -/
structure Rel where
  v : Ver
  ns : List Need
abbrev Uni := List (List Rel)

theorem rngF_ne {r : List Ivl} (h : (rngF r).1 = 0) : rngF r = (0, 0) := by
  unfold rngF at h ⊢
  by_cases c : 12 < r.length
  · rw [if_pos c] at h; exact absurd h (by decide)
  · rw [if_neg c] at h ⊢
    rcases stepsF_cases r _ 0 rfl with ⟨h1, _⟩ | h1
    · exact h1
    · exact absurd h h1
/-- The code of the need at a place. -/
def needI (n : Int) (l : List Need) (k : Nat) : Int :=
  if h : k < l.length then
    (if l[k].pk < 0 ∨ n ≤ l[k].pk then 3 else if (rngF l[k].rg).1 ≠ 0 then (rngF l[k].rg).1
      else if h0 : 0 < k then (if l[k].pk ≤ (l[k - 1]'(by omega)).pk then 5 else 0) else 0) else 0
/-- The code of a list of needs among n packages. -/
def needsC (n : Int) (l : List Need) : Int := if 4 < l.length then 2 else (codeAt (needI n l) l.length 0).1
/-- The code of the release at a place. -/
def relI (n : Int) (l : List Rel) (k : Nat) : Int :=
  if h : k < l.length then
    (if (vrF l[k].v).1 ≠ 0 then (vrF l[k].v).1
      else if (if h0 : 0 < k then decide (0 ≤ verCmp (l[k - 1]'(by omega)).v l[k].v) else false) = true then 5
      else needsC n l[k].ns) else 0
def relsC (n : Int) (l : List Rel) : Int := if 4 < l.length then 2 else (codeAt (relI n l) l.length 0).1
def uniI (u : Uni) (k : Nat) : Int := if h : k < u.length then relsC u.length u[k] else 0
def uniF (u : Uni) : Int × Int := if 6 < u.length then (2, -1) else codeAt (uniI u) u.length 0
def wantsF (u : Uni) (ws : List Need) : Int × Int :=
  if (uniF u).1 ≠ 0 then uniF u else if needsC u.length ws ≠ 0 then (needsC u.length ws, -2) else (0, 0)
/-- The number at a place of a selection is one of the package's. -/
def chosI (u : Uni) (ch : List Int) (k : Nat) : Bool :=
  if h : k < ch.length then (if g : k < u.length then decide (-1 ≤ ch[k]) && decide (ch[k] < (u[k].length : Int)) else false) else true
def chosF (u : Uni) (ch : List Int) : Int × Int :=
  if ch.length ≠ u.length then (9, -3) else if ∀ k, k < ch.length → chosI u ch k = true then (0, 0) else (3, -4)

theorem uniF_ne {u : Uni} (h : (uniF u).1 = 0) : uniF u = (0, 0) := by
  unfold uniF at h ⊢
  by_cases c : 6 < u.length
  · rw [if_pos c] at h; exact absurd h (by decide)
  · rw [if_neg c] at h ⊢; exact codeAt_fst h
theorem wantsF_ne {u : Uni} {ws : List Need} (h : (wantsF u ws).1 = 0) : wantsF u ws = (0, 0) ∧ (uniF u).1 = 0 ∧ needsC u.length ws = 0 := by
  unfold wantsF at h ⊢
  by_cases c : (uniF u).1 = 0
  · rw [if_neg (fun e => e c)] at h ⊢
    by_cases d : needsC u.length ws = 0
    · rw [if_neg (fun e => e d)]; exact ⟨rfl, c, d⟩
    · rw [if_pos d] at h; exact absurd h d
  · rw [if_pos c] at h; exact absurd h c

theorem needI_low {n : Int} {l : List Need} {k : Nat} (h : k < l.length) (e : l[k].pk < 0) : needI n l k = 3 := by unfold needI; rw [dif_pos h, if_pos (.inl e)]
theorem needI_high {n : Int} {l : List Need} {k : Nat} (h : k < l.length) (e : n ≤ l[k].pk) : needI n l k = 3 := by unfold needI; rw [dif_pos h, if_pos (.inr e)]
theorem needI_rng {n : Int} {l : List Need} {k : Nat} (h : k < l.length) (e1 : 0 ≤ l[k].pk) (e2 : l[k].pk < n) (e : (rngF l[k].rg).1 ≠ 0) : needI n l k = (rngF l[k].rg).1 := by unfold needI; rw [dif_pos h, if_neg (by omega), if_pos e]
theorem needI_first {n : Int} {l : List Need} {k : Nat} (h : k < l.length) (e1 : 0 ≤ l[k].pk) (e2 : l[k].pk < n) (e : rngF l[k].rg = (0, 0)) (h0 : k = 0) : needI n l k = 0 := by unfold needI; rw [dif_pos h, if_neg (by omega), if_neg (by rw [e]; decide), dif_neg (by omega)]
theorem needI_bad {n : Int} {l : List Need} {k : Nat} (h : k < l.length) (e1 : 0 ≤ l[k].pk) (e2 : l[k].pk < n) (e : rngF l[k].rg = (0, 0)) (h0 : 0 < k) (e3 : l[k].pk ≤ (l[k - 1]'(by omega)).pk) : needI n l k = 5 := by unfold needI; rw [dif_pos h, if_neg (by omega), if_neg (by rw [e]; decide), dif_pos h0, if_pos e3]
theorem needI_good {n : Int} {l : List Need} {k : Nat} (h : k < l.length) (e1 : 0 ≤ l[k].pk) (e2 : l[k].pk < n) (e : rngF l[k].rg = (0, 0)) (h0 : 0 < k) (e3 : (l[k - 1]'(by omega)).pk < l[k].pk) : needI n l k = 0 := by unfold needI; rw [dif_pos h, if_neg (by omega), if_neg (by rw [e]; decide), dif_pos h0, if_neg (by omega)]
/-- What a good list of needs is. -/
structure NeedsOk (n : Int) (l : List Need) : Prop where
  len : l.length ≤ 4
  pk : ∀ x ∈ l, 0 ≤ x.pk ∧ x.pk < n
  rg : ∀ x ∈ l, rngF x.rg = (0, 0)
  inc : ∀ i (h : i + 1 < l.length), (l[i]'(by omega)).pk < l[i + 1].pk
theorem needI_ok {n : Int} {l : List Need} {k : Nat} (h : k < l.length) : needI n l k = 0 ↔ (0 ≤ l[k].pk ∧ l[k].pk < n) ∧ rngF l[k].rg = (0, 0) ∧ ∀ h0 : 0 < k, (l[k - 1]'(by omega)).pk < l[k].pk := by
  unfold needI
  rw [dif_pos h]
  by_cases c1 : l[k].pk < 0 ∨ n ≤ l[k].pk
  · rw [if_pos c1]; exact ⟨fun h => absurd h (by decide), fun h => by omega⟩
  · rw [if_neg c1]
    by_cases c2 : (rngF l[k].rg).1 = 0
    · rw [if_neg (fun e => e c2)]
      by_cases c3 : 0 < k
      · rw [dif_pos c3]
        by_cases c4 : l[k].pk ≤ (l[k - 1]'(by omega)).pk
        · rw [if_pos c4]; exact ⟨fun h => absurd h (by decide), fun h => by have := h.2.2 c3; omega⟩
        · rw [if_neg c4]; exact ⟨fun _ => ⟨by omega, rngF_ne c2, fun _ => by omega⟩, fun _ => rfl⟩
      · rw [dif_neg c3]; exact ⟨fun _ => ⟨by omega, rngF_ne c2, fun h => absurd h c3⟩, fun _ => rfl⟩
    · rw [if_pos c2]; exact ⟨fun h => absurd h c2, fun h => absurd (by rw [h.2.1]) c2⟩
theorem needsC_ok {n : Int} {l : List Need} : needsC n l = 0 ↔ NeedsOk n l := by
  unfold needsC
  by_cases c : 4 < l.length
  · rw [if_pos c]; exact ⟨fun h => absurd h (by decide), fun h => by have := h.len; omega⟩
  · rw [if_neg c, codeAt_ok]
    refine ⟨fun h => ⟨by omega, fun x hx => ?_, fun x hx => ?_, fun i hi => ?_⟩, fun h j hj => (needI_ok hj).2 ⟨h.pk _ (List.getElem_mem _), h.rg _ (List.getElem_mem _), fun h0 => ?_⟩⟩
    · obtain ⟨j, hj, rfl⟩ := List.mem_iff_getElem.1 hx; exact ((needI_ok hj).1 (h j hj)).1
    · obtain ⟨j, hj, rfl⟩ := List.mem_iff_getElem.1 hx; exact ((needI_ok hj).1 (h j hj)).2.1
    · exact ((needI_ok hi).1 (h _ hi)).2.2 (by omega)
    · have := h.inc (j - 1) (by omega)
      simpa only [Nat.sub_add_cancel h0] using this
structure RelsOk (n : Int) (l : List Rel) : Prop where
  len : l.length ≤ 4
  v : ∀ x ∈ l, x.v.Ok
  ns : ∀ x ∈ l, NeedsOk n x.ns
  inc : ∀ i (h : i + 1 < l.length), verCmp (l[i]'(by omega)).v l[i + 1].v < 0
theorem relI_ok {n : Int} {l : List Rel} {k : Nat} (h : k < l.length) : relI n l k = 0 ↔ l[k].v.Ok ∧ NeedsOk n l[k].ns ∧ ∀ h0 : 0 < k, verCmp (l[k - 1]'(by omega)).v l[k].v < 0 := by
  unfold relI
  rw [dif_pos h]
  by_cases c1 : (vrF l[k].v).1 = 0
  · rw [if_neg (fun e => e c1)]
    by_cases c3 : 0 < k
    · rw [dif_pos c3]
      by_cases c4 : 0 ≤ verCmp (l[k - 1]'(by omega)).v l[k].v
      · rw [decide_eq_true c4, if_pos rfl]; exact ⟨fun h => absurd h (by decide), fun h => by have := h.2.2 c3; omega⟩
      · rw [decide_eq_false c4, if_neg Bool.false_ne_true, needsC_ok]; exact ⟨fun h => ⟨vr_ok c1, h, fun _ => by omega⟩, fun h => h.2.1⟩
    · rw [dif_neg c3, if_neg Bool.false_ne_true, needsC_ok]; exact ⟨fun h => ⟨vr_ok c1, h, fun h => absurd h c3⟩, fun h => h.2.1⟩
  · rw [if_pos c1]; exact ⟨fun h => absurd h c1, fun h => absurd (vr_one h.1) c1⟩
theorem relI_v {n : Int} {l : List Rel} {k : Nat} (h : k < l.length) (e : (vrF l[k].v).1 ≠ 0) : relI n l k = (vrF l[k].v).1 := by unfold relI; rw [dif_pos h, if_pos e]
theorem relI_ord {n : Int} {l : List Rel} {k : Nat} (h : k < l.length) (e : vrF l[k].v = (0, 0)) (h0 : 0 < k) (c : 0 ≤ verCmp (l[k - 1]'(by omega)).v l[k].v) : relI n l k = 5 := by unfold relI; rw [dif_pos h, if_neg (by rw [e]; decide), dif_pos h0, decide_eq_true c, if_pos rfl]
theorem relI_n0 {n : Int} {l : List Rel} {k : Nat} (h : k < l.length) (e : vrF l[k].v = (0, 0)) (h0 : k = 0) : relI n l k = needsC n l[k].ns := by unfold relI; rw [dif_pos h, if_neg (by rw [e]; decide), dif_neg (by omega), if_neg Bool.false_ne_true]
theorem relI_n1 {n : Int} {l : List Rel} {k : Nat} (h : k < l.length) (e : vrF l[k].v = (0, 0)) (h0 : 0 < k) (c : ¬ 0 ≤ verCmp (l[k - 1]'(by omega)).v l[k].v) : relI n l k = needsC n l[k].ns := by unfold relI; rw [dif_pos h, if_neg (by rw [e]; decide), dif_pos h0, decide_eq_false c, if_neg Bool.false_ne_true]
theorem relsC_ok {n : Int} {l : List Rel} : relsC n l = 0 ↔ RelsOk n l := by
  unfold relsC
  by_cases c : 4 < l.length
  · rw [if_pos c]; exact ⟨fun h => absurd h (by decide), fun h => by have := h.len; omega⟩
  · rw [if_neg c, codeAt_ok]
    refine ⟨fun h => ⟨by omega, fun x hx => ?_, fun x hx => ?_, fun i hi => ?_⟩, fun h j hj => (relI_ok hj).2 ⟨h.v _ (List.getElem_mem _), h.ns _ (List.getElem_mem _), fun h0 => ?_⟩⟩
    · obtain ⟨j, hj, rfl⟩ := List.mem_iff_getElem.1 hx; exact ((relI_ok hj).1 (h j hj)).1
    · obtain ⟨j, hj, rfl⟩ := List.mem_iff_getElem.1 hx; exact ((relI_ok hj).1 (h j hj)).2.1
    · exact ((relI_ok hi).1 (h _ hi)).2.2 (by omega)
    · have := h.inc (j - 1) (by omega)
      simpa only [Nat.sub_add_cancel h0] using this
structure UniOk (u : Uni) : Prop where
  len : u.length ≤ 6
  rels : ∀ l ∈ u, RelsOk u.length l
theorem uniF_ok {u : Uni} : (uniF u).1 = 0 ↔ UniOk u := by
  unfold uniF
  by_cases c : 6 < u.length
  · rw [if_pos c]; exact ⟨fun h => absurd h (by decide), fun h => by have := h.len; omega⟩
  · rw [if_neg c, codeAt_ok]
    refine ⟨fun h => ⟨by omega, fun l hl => ?_⟩, fun h j hj => ?_⟩
    · obtain ⟨j, hj, rfl⟩ := List.mem_iff_getElem.1 hl
      have := h j hj
      unfold uniI at this
      rw [dif_pos hj] at this
      exact relsC_ok.1 this
    · unfold uniI
      rw [dif_pos hj]
      exact relsC_ok.2 (h.rels _ (List.getElem_mem _))
theorem wantsF_ok {u : Uni} {ws : List Need} : (wantsF u ws).1 = 0 ↔ UniOk u ∧ NeedsOk u.length ws := by
  refine ⟨fun h => ⟨uniF_ok.1 (wantsF_ne h).2.1, needsC_ok.1 (wantsF_ne h).2.2⟩, fun h => ?_⟩
  unfold wantsF
  rw [if_neg (fun e => e (uniF_ok.2 h.1)), if_neg (fun e => e (needsC_ok.2 h.2))]
structure ChOk (u : Uni) (ch : List Int) : Prop where
  len : ch.length = u.length
  at' : ∀ k (h : k < ch.length) (g : k < u.length), -1 ≤ ch[k] ∧ ch[k] < (u[k].length : Int)
theorem chosF_ok {u : Uni} {ch : List Int} : (chosF u ch).1 = 0 ↔ ChOk u ch := by
  unfold chosF
  by_cases c : ch.length = u.length
  · rw [if_neg (fun e => e c)]
    by_cases d : ∀ k, k < ch.length → chosI u ch k = true
    · rw [if_pos d]
      refine ⟨fun _ => ⟨c, fun k h g => ?_⟩, fun _ => rfl⟩
      have := d k h
      unfold chosI at this
      rw [dif_pos h, dif_pos g, Bool.and_eq_true, decide_eq_true_eq, decide_eq_true_eq] at this
      exact this
    · rw [if_neg d]
      refine ⟨fun h => absurd h (by decide), fun h => absurd (fun k hk => ?_) d⟩
      unfold chosI
      have := h.at' k hk (by omega)
      rw [dif_pos hk, dif_pos (by omega), Bool.and_eq_true, decide_eq_true_eq, decide_eq_true_eq]
      exact this
  · rw [if_pos c]; exact ⟨fun h => absurd h (by decide), fun h => absurd h.len c⟩
end Pl
end Go.Proofs.YtgngehfgcogceaaGreatDoor

end
section
/- Universes, needs and releases in memory. -/
namespace Go.Proofs.YtgngehfgcogceaaGreatDoor
open Go.RowKit

theorem Sl.len {w : World} {a : Option Addr} {n c sz : Nat} {cs : List Value} (h : Sl w a n c sz cs) : n ≤ 9223372036854775807 := by
  have h1 := h.hcap
  have h2 := h.hmax
  unfold maxLen at h2
  omega
/-- The block and the place of a list that is not empty. -/
theorem Sl.pos {α : Type} {P : α → List Value → Prop} {w : World} {a : Option Addr} {c sz : Nat} {xs : List α} {cs : List Value} (h1 : Sl w a xs.length c sz cs) (h2 : Elems P sz xs cs) (hsz : 0 < sz) (h0 : 0 < xs.length) :
    ∃ b off, a = some ⟨b, off, none⟩ ∧ b < w.heap.size ∧ ∀ k (hk : k < xs.length), ∃ es, P xs[k] es ∧ ∀ j u, es[j]? = some u → w.cell? ⟨b, off + k * sz + j, none⟩ = some u := by
  rcases h1.mem with rfl | ⟨b, off, rfl, hlt, hc⟩
  · have := h2.len
    have h3 : 0 < xs.length * sz := Nat.mul_pos h0 hsz
    rw [List.length_nil] at this
    omega
  · exact ⟨b, off, rfl, hlt, h2.cells hc⟩

/-- A need's cells. -/
def NdIs (w : World) (d : Pl.Need) (cs : List Value) : Prop := ∃ a c, cs = [.int .i64 d.pk, .slice a d.rg.length c] ∧ RIn w d.rg a c
theorem NdIs.below {w w' : World} {d : Pl.Need} {cs : List Value} (h : NdIs w d cs) {B : Nat} (hb : Below B w w') (hB : w.heap.size ≤ B) : NdIs w' d cs := by
  obtain ⟨a, c, h1, h2⟩ := h
  exact ⟨a, c, h1, h2.below hb hB⟩
/-- A list of needs that lies in memory. -/
structure NsIn (w : World) (l : List Pl.Need) (a : Option Addr) (c : Nat) : Prop where
  mem : ∃ cs, Sl w a l.length c 2 cs ∧ Elems (NdIs w) 2 l cs
theorem NsIn.below {w w' : World} {l : List Pl.Need} {a : Option Addr} {c : Nat} (h : NsIn w l a c) {B : Nat} (hb : Below B w w') (hB : w.heap.size ≤ B) : NsIn w' l a c := by
  obtain ⟨cs, h1, h2⟩ := h.mem
  exact ⟨cs, h1.below hb hB, h2.mono fun _ _ h => h.below hb hB⟩
theorem NsIn.len {w : World} {l : List Pl.Need} {a : Option Addr} {c : Nat} (h : NsIn w l a c) : l.length ≤ 9223372036854775807 := by
  obtain ⟨cs, h1, _⟩ := h.mem
  exact h1.len
theorem NsIn.nil (w : World) : NsIn w [] none 0 := ⟨[], Sl.nil w 2, Elems.nil⟩
/-- One need of a list. -/
structure NdAt (w : World) (b o : Nat) (d : Pl.Need) (a1 : Option Addr) (c1 : Nat) : Prop where
  e0 : w.cell? ⟨b, o, none⟩ = some (.int .i64 d.pk)
  e1 : w.cell? ⟨b, o + 1, none⟩ = some (.slice a1 d.rg.length c1)
  rg : RIn w d.rg a1 c1
theorem NdAt.below {w w' : World} {b o : Nat} {d : Pl.Need} {a1 : Option Addr} {c1 : Nat} (h : NdAt w b o d a1 c1) {B : Nat} (hb : Below B w w') (hl : b < w.heap.size) (hB : w.heap.size ≤ B) : NdAt w' b o d a1 c1 :=
  have e : ∀ j, w'.cell? ⟨b, j, none⟩ = w.cell? ⟨b, j, none⟩ := fun j => hb.cell (p := ⟨b, j, none⟩) (Nat.lt_of_lt_of_le hl hB)
  ⟨(e _).trans h.e0, (e _).trans h.e1, h.rg.below hb hB⟩
theorem NsIn.at {w : World} {l : List Pl.Need} {a : Option Addr} {c : Nat} (h : NsIn w l a c) (h0 : 0 < l.length) : ∃ b off, a = some ⟨b, off, none⟩ ∧ b < w.heap.size ∧ ∀ k (hk : k < l.length), ∃ a1 c1, NdAt w b (off + k * 2) l[k] a1 c1 := by
  obtain ⟨cs, h1, h2⟩ := h.mem
  obtain ⟨b, off, e, hlt, hat⟩ := Sl.pos h1 h2 (by omega) h0
  refine ⟨b, off, e, hlt, fun k hk => ?_⟩
  obtain ⟨es, ⟨a1, c1, rfl, g⟩, hc⟩ := hat k hk
  exact ⟨a1, c1, hc 0 _ rfl, hc 1 _ rfl, g⟩

/-- A release's cells. -/
def RlIs (w : World) (r : Pl.Rel) (cs : List Value) : Prop := ∃ a c a' c', cs = [.int .i64 r.v.maj, .int .i64 r.v.min, .int .i64 r.v.pat, .slice a r.v.pre.length c, .slice a' r.ns.length c'] ∧ VIn w r.v a c ∧ NsIn w r.ns a' c'
theorem RlIs.below {w w' : World} {r : Pl.Rel} {cs : List Value} (h : RlIs w r cs) {B : Nat} (hb : Below B w w') (hB : w.heap.size ≤ B) : RlIs w' r cs := by
  obtain ⟨a, c, a', c', h1, h2, h3⟩ := h
  exact ⟨a, c, a', c', h1, h2.below hb hB, h3.below hb hB⟩
structure RsIn (w : World) (l : List Pl.Rel) (a : Option Addr) (c : Nat) : Prop where
  mem : ∃ cs, Sl w a l.length c 5 cs ∧ Elems (RlIs w) 5 l cs
theorem RsIn.below {w w' : World} {l : List Pl.Rel} {a : Option Addr} {c : Nat} (h : RsIn w l a c) {B : Nat} (hb : Below B w w') (hB : w.heap.size ≤ B) : RsIn w' l a c := by
  obtain ⟨cs, h1, h2⟩ := h.mem
  exact ⟨cs, h1.below hb hB, h2.mono fun _ _ h => h.below hb hB⟩
theorem RsIn.len {w : World} {l : List Pl.Rel} {a : Option Addr} {c : Nat} (h : RsIn w l a c) : l.length ≤ 9223372036854775807 := by
  obtain ⟨cs, h1, _⟩ := h.mem
  exact h1.len
theorem RsIn.nil (w : World) : RsIn w [] none 0 := ⟨[], Sl.nil w 5, Elems.nil⟩
/-- One release of a list. -/
structure RlAt (w : World) (b o : Nat) (r : Pl.Rel) (a1 : Option Addr) (c1 : Nat) (a2 : Option Addr) (c2 : Nat) : Prop where
  e0 : w.cell? ⟨b, o, none⟩ = some (.int .i64 r.v.maj)
  e1 : w.cell? ⟨b, o + 1, none⟩ = some (.int .i64 r.v.min)
  e2 : w.cell? ⟨b, o + 2, none⟩ = some (.int .i64 r.v.pat)
  e3 : w.cell? ⟨b, o + 3, none⟩ = some (.slice a1 r.v.pre.length c1)
  e4 : w.cell? ⟨b, o + 4, none⟩ = some (.slice a2 r.ns.length c2)
  v : VIn w r.v a1 c1
  ns : NsIn w r.ns a2 c2
theorem RlAt.below {w w' : World} {b o : Nat} {r : Pl.Rel} {a1 a2 : Option Addr} {c1 c2 : Nat} (h : RlAt w b o r a1 c1 a2 c2) {B : Nat} (hb : Below B w w') (hl : b < w.heap.size) (hB : w.heap.size ≤ B) : RlAt w' b o r a1 c1 a2 c2 :=
  have e : ∀ j, w'.cell? ⟨b, j, none⟩ = w.cell? ⟨b, j, none⟩ := fun j => hb.cell (p := ⟨b, j, none⟩) (Nat.lt_of_lt_of_le hl hB)
  ⟨(e _).trans h.e0, (e _).trans h.e1, (e _).trans h.e2, (e _).trans h.e3, (e _).trans h.e4, h.v.below hb hB, h.ns.below hb hB⟩
theorem RsIn.at {w : World} {l : List Pl.Rel} {a : Option Addr} {c : Nat} (h : RsIn w l a c) (h0 : 0 < l.length) : ∃ b off, a = some ⟨b, off, none⟩ ∧ b < w.heap.size ∧ ∀ k (hk : k < l.length), ∃ a1 c1 a2 c2, RlAt w b (off + k * 5) l[k] a1 c1 a2 c2 := by
  obtain ⟨cs, h1, h2⟩ := h.mem
  obtain ⟨b, off, e, hlt, hat⟩ := Sl.pos h1 h2 (by omega) h0
  refine ⟨b, off, e, hlt, fun k hk => ?_⟩
  obtain ⟨es, ⟨a1, c1, a2, c2, rfl, g1, g2⟩, hc⟩ := hat k hk
  exact ⟨a1, c1, a2, c2, hc 0 _ rfl, hc 1 _ rfl, hc 2 _ rfl, hc 3 _ rfl, hc 4 _ rfl, g1, g2⟩

/-- A package's cell. -/
def PkIs (w : World) (l : List Pl.Rel) (cs : List Value) : Prop := ∃ a c, cs = [.slice a l.length c] ∧ RsIn w l a c
theorem PkIs.below {w w' : World} {l : List Pl.Rel} {cs : List Value} (h : PkIs w l cs) {B : Nat} (hb : Below B w w') (hB : w.heap.size ≤ B) : PkIs w' l cs := by
  obtain ⟨a, c, h1, h2⟩ := h
  exact ⟨a, c, h1, h2.below hb hB⟩
/-- A universe that lies in memory. -/
structure UIn (w : World) (u : Pl.Uni) (a : Option Addr) (c : Nat) : Prop where
  mem : ∃ cs, Sl w a u.length c 1 cs ∧ Elems (PkIs w) 1 u cs
theorem UIn.below {w w' : World} {u : Pl.Uni} {a : Option Addr} {c : Nat} (h : UIn w u a c) {B : Nat} (hb : Below B w w') (hB : w.heap.size ≤ B) : UIn w' u a c := by
  obtain ⟨cs, h1, h2⟩ := h.mem
  exact ⟨cs, h1.below hb hB, h2.mono fun _ _ h => h.below hb hB⟩
theorem UIn.len {w : World} {u : Pl.Uni} {a : Option Addr} {c : Nat} (h : UIn w u a c) : u.length ≤ 9223372036854775807 := by
  obtain ⟨cs, h1, _⟩ := h.mem
  exact h1.len
structure PkAt (w : World) (b o : Nat) (l : List Pl.Rel) (a1 : Option Addr) (c1 : Nat) : Prop where
  e0 : w.cell? ⟨b, o, none⟩ = some (.slice a1 l.length c1)
  rs : RsIn w l a1 c1
theorem PkAt.below {w w' : World} {b o : Nat} {l : List Pl.Rel} {a1 : Option Addr} {c1 : Nat} (h : PkAt w b o l a1 c1) {B : Nat} (hb : Below B w w') (hl : b < w.heap.size) (hB : w.heap.size ≤ B) : PkAt w' b o l a1 c1 :=
  ⟨(hb.cell (p := ⟨b, o, none⟩) (Nat.lt_of_lt_of_le hl hB)).trans h.e0, h.rs.below hb hB⟩
theorem UIn.at {w : World} {u : Pl.Uni} {a : Option Addr} {c : Nat} (h : UIn w u a c) (h0 : 0 < u.length) : ∃ b off, a = some ⟨b, off, none⟩ ∧ b < w.heap.size ∧ ∀ k (hk : k < u.length), ∃ a1 c1, PkAt w b (off + k) u[k] a1 c1 := by
  obtain ⟨cs, h1, h2⟩ := h.mem
  obtain ⟨b, off, e, hlt, hat⟩ := Sl.pos h1 h2 (by omega) h0
  refine ⟨b, off, e, hlt, fun k hk => ?_⟩
  obtain ⟨es, ⟨a1, c1, rfl, g⟩, hc⟩ := hat k hk
  have := hc 0 _ rfl
  rw [Nat.mul_one, Nat.add_zero] at this
  exact ⟨a1, c1, this, g⟩
end Go.Proofs.YtgngehfgcogceaaGreatDoor

end
section
/- Universes, needs and selections as they come in: their memory. -/
namespace Go.Proofs.YtgngehfgcogceaaGreatDoor
open Go.RowKit
namespace Sh
theorem sl_is {w : World} {e : Sh} {β : Type} {P : β → List Value → Prop} (f : e.T → β) (hlen : ∀ x cs, P x cs → cs.length = e.size) {v : Value} {l : List e.T} (h : Holds w (.sl e) [v] l) (hw : (Sh.sl e).Wf l) (hp : ∀ x es, Holds w e es x → e.Wf x → P (f x) es) :
    ∃ a c, v = .slice a (l.map f).length c ∧ ∃ cs, Sl w a (l.map f).length c e.size cs ∧ Elems P e.size (l.map f) cs := by
  obtain ⟨oa, cap, h1, h2, h3, h4⟩ := h
  have h1 : [v] = [Value.slice oa l.length cap] := h1
  simp only [List.cons.injEq, and_true] at h1
  subst h1
  refine ⟨oa, cap, by rw [List.length_map], ?_⟩
  rcases h4 with h4 | ⟨b, off, rfl, g2, g3⟩
  · have h4 : l = [] := h4
    subst h4
    exact ⟨[], ⟨by simp, h2, h3, .inl rfl⟩, Elems.nil⟩
  · obtain ⟨cs, k1, k2⟩ := Elems.of (P := P) (sz := e.size) hlen (w := w) (b := b) (l.map f) off fun i hi => by
      have hi' : i < l.length := by simpa using hi
      obtain ⟨es, m1, m2, m3⟩ := g3 i hi'
      refine ⟨es, ?_, m2⟩
      rw [List.getElem_map]
      exact hp _ _ m3 (hw.2 _ (List.getElem_mem hi'))
    exact ⟨cs, ⟨k1.len, by rw [List.length_map]; exact h2, h3, .inr ⟨b, off, rfl, g2, k2⟩⟩, k1⟩
theorem holds_one {w : World} {e : Sh} {cs : List Value} {l : List e.T} (h : Holds w (.sl e) cs l) : ∃ v, cs = [v] := by
  obtain ⟨oa, cap, h, _⟩ := h; exact ⟨_, h⟩
abbrev need : Sh := .cons .int (.cons rng .nil)
def toNeed (x : need.T) : Pl.Need := ⟨x.1, toRng x.2.1⟩
def toNeeds (l : List need.T) : List Pl.Need := l.map toNeed
theorem need_is {w : World} {cs : List Value} {x : need.T} (h : Holds w need cs x) (hw : need.Wf x) : NdIs w (toNeed x) cs := by
  obtain ⟨n, r, u⟩ := x
  obtain ⟨c1, c2, rfl, _, h1, c3, c4, rfl, _, h2, h3⟩ := h
  obtain ⟨_, w2, _⟩ := hw
  have h1 : c1 = [.int .i64 n] := h1
  have h3 : c4 = [] := h3
  obtain ⟨a, c, rfl, hr⟩ := rng_is (x := r) h2 w2
  subst h1 h3
  exact ⟨a, c, rfl, hr⟩
theorem nd_len {w : World} (d : Pl.Need) (cs : List Value) (h : NdIs w d cs) : cs.length = need.size := by
  obtain ⟨a, c, rfl, _⟩ := h; rfl
theorem needs_is {w : World} {v : Value} {l : List need.T} (h : Holds w (.sl need) [v] l) (hw : (Sh.sl need).Wf l) : ∃ a c, v = .slice a (toNeeds l).length c ∧ NsIn w (toNeeds l) a c := by
  obtain ⟨a, c, e, cs, h1, h2⟩ := sl_is (P := NdIs w) toNeed nd_len h hw (fun x es h1 h2 => need_is h1 h2)
  exact ⟨a, c, e, cs, h1, h2⟩
abbrev rel : Sh := .cons ver (.cons (.sl need) .nil)
def toRel (x : rel.T) : Pl.Rel := ⟨toVer x.1, toNeeds x.2.1⟩
theorem rel_is {w : World} {cs : List Value} {x : rel.T} (h : Holds w rel cs x) (hw : rel.Wf x) : RlIs w (toRel x) cs := by
  obtain ⟨n, r, u⟩ := x
  obtain ⟨c1, c2, rfl, _, h1, c3, c4, rfl, _, h2, h3⟩ := h
  obtain ⟨w1, w2, _⟩ := hw
  have h3 : c4 = [] := h3
  obtain ⟨v, rfl⟩ := holds_one h2
  obtain ⟨p, q, rfl, v1⟩ := ver_is (x := n) h1 w1
  obtain ⟨a, c, rfl, hr⟩ := needs_is (l := r) h2 w2
  subst h3
  exact ⟨p, q, a, c, rfl, v1, hr⟩
theorem rl_len {w : World} (d : Pl.Rel) (cs : List Value) (h : RlIs w d cs) : cs.length = rel.size := by
  obtain ⟨a, c, a', c', rfl, _⟩ := h; rfl
def toRels (l : List rel.T) : List Pl.Rel := l.map toRel
theorem rels_is {w : World} {v : Value} {l : List rel.T} (h : Holds w (.sl rel) [v] l) (hw : (Sh.sl rel).Wf l) : ∃ a c, v = .slice a (toRels l).length c ∧ RsIn w (toRels l) a c := by
  obtain ⟨a, c, e, cs, h1, h2⟩ := sl_is (P := RlIs w) toRel rl_len h hw (fun x es h1 h2 => rel_is h1 h2)
  exact ⟨a, c, e, cs, h1, h2⟩
theorem pk_is {w : World} {cs : List Value} {l : List rel.T} (h : Holds w (.sl rel) cs l) (hw : (Sh.sl rel).Wf l) : PkIs w (toRels l) cs := by
  obtain ⟨v, rfl⟩ := holds_one h
  obtain ⟨a, c, rfl, hr⟩ := rels_is h hw
  exact ⟨a, c, rfl, hr⟩
theorem pk_len {w : World} (d : List Pl.Rel) (cs : List Value) (h : PkIs w d cs) : cs.length = (Sh.sl rel).size := by
  obtain ⟨a, c, rfl, _⟩ := h; rfl
abbrev uni : Sh := .cons (.sl (.sl rel)) .nil
def toUni (x : uni.T) : Pl.Uni := (show List (List rel.T) from x.1).map toRels
theorem uni_is {w : World} {cs : List Value} {x : uni.T} (h : Holds w uni cs x) (hw : uni.Wf x) : ∃ a c, cs = [.slice a (toUni x).length c] ∧ UIn w (toUni x) a c := by
  obtain ⟨l, k⟩ := x
  obtain ⟨c1, c2, rfl, _, h1, h2⟩ := h
  have h2 : c2 = [] := h2
  subst h2
  obtain ⟨w1, _⟩ := hw
  obtain ⟨v, rfl⟩ := holds_one h1
  obtain ⟨a, c, rfl, cs, h3, h4⟩ := sl_is (e := .sl rel) (P := PkIs w) toRels pk_len h1 w1 (fun x es h1 h2 => pk_is h1 h2)
  exact ⟨a, c, rfl, cs, h3, h4⟩
end Sh
end Go.Proofs.YtgngehfgcogceaaGreatDoor

end
section
/- A block whose cells are told by one rule. No program in sight. -/
namespace Go.Proofs.YtgngehfgcogceaaGreatDoor
open Go.RowKit

/-- The block r holds just the cells cs; none of them is marked. -/
structure Bk (w : World) (r : Nat) (cs : List Value) : Prop where
  a : ∀ o, w.cell? ⟨r, o, none⟩ = cs[o]?
  f : ∀ o, w.frozen? ⟨r, o, none⟩ = false
  lt : r < w.heap.size
theorem Bk.c {w : World} {r : Nat} {cs : List Value} (h : Bk w r cs) (j : Nat) {u : Value} (hu : cs[j]? = some u := by rfl) : w.cell? ⟨r, j, none⟩ = some u := (h.a j).trans hu
theorem Bk.new {r : Nat} {cs : List Value} (w : World) (t : TypeId) (hg : r = w.heap.size) : Bk (w.alloc (.cells cs.toArray t)) r cs := by
  subst hg
  exact ⟨fun o => by simp, fun o => World.frozen?_alloc_at _ _ _ _ rfl, by simp⟩
theorem Bk.below {w w' : World} {r : Nat} {cs : List Value} (h : Bk w r cs) {B : Nat} (hb : Below B w w') (hr : r < B) : Bk w' r cs :=
  ⟨fun o => (hb.cell (p := ⟨r, o, none⟩) hr).trans (h.a o), fun o => (hb.frozen (p := ⟨r, o, none⟩) hr).trans (h.f o), Nat.lt_of_lt_of_le h.lt hb.size⟩
theorem Bk.alloc {w : World} {r : Nat} {cs : List Value} (h : Bk w r cs) (o : Obj) : Bk (w.alloc o) r cs := h.below (B := w.heap.size) ((Below.refl _ _).alloc (Nat.le_refl _) _) h.lt
theorem Bk.drew {w : World} {r : Nat} {cs : List Value} (h : Bk w r cs) : Bk w.drew r cs := h.below (B := w.heap.size) ((Below.refl _ _).drew) h.lt
theorem Bk.drewN {w : World} {r : Nat} {cs : List Value} (h : Bk w r cs) (n : Nat) : Bk (w.drewN n) r cs := h.below (B := w.heap.size) (Go.below_drewN (Below.refl _ _) n) h.lt
theorem Bk.set {w : World} {r : Nat} {cs : List Value} (h : Bk w r cs) {k : Nat} (hk : k < cs.length) (v : Value) : Bk (w.setCell ⟨r, k, none⟩ v) r (cs.set k v) := by
  refine ⟨fun j => ?_, fun j => by rw [frozen_setCell]; exact h.f j, by simpa using h.lt⟩
  rw [List.getElem?_set]
  by_cases hjk : k = j
  · subst hjk
    rw [if_pos rfl, if_pos hk]
    exact World.cell?_setCell_same _ _ _ ((h.a k).trans (List.getElem?_eq_getElem hk))
  · rw [if_neg hjk, World.cell?_setCell_other _ _ _ _ (by intro h2; injection h2 with _ h3; exact hjk h3)]
    exact h.a j
theorem Bk.far {w : World} {r : Nat} {cs : List Value} (h : Bk w r cs) {a : Addr} (hne : a.block ≠ r) (v : Value) : Bk (w.setCell a v) r cs := by
  refine ⟨fun j => ?_, fun j => by rw [frozen_setCell]; exact h.f j, by simpa using h.lt⟩
  rw [World.cell?_setCell_other _ _ _ _ (by intro h2; apply hne; have := congrArg Addr.block h2; first | exact this | exact this.symm)]
  exact h.a j
end Go.Proofs.YtgngehfgcogceaaGreatDoor

end
