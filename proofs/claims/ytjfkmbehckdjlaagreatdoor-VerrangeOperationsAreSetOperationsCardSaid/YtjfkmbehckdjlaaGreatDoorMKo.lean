/- Texts joined: Qb Da Ew Ko. -/
import Derived.Test.YtjfkmbehckdjlaaGreatDoorQa
import Derived.Test.YtjfkmbehckdjlaaGreatDoorMBl
import Derived.Test.YtjfkmbehckdjlaaGreatDoorKk
import Derived.Test.YtjfkmbehckdjlaaGreatDoorMCj
import Derived.Test.YtjfkmbehckdjlaaGreatDoorMKl
section
/- The faults of ranges in plain words. No program in sight. -/
namespace Go.Proofs.YtjfkmbehckdjlaaGreatDoor
namespace Pl

def zeroB (v : Ver) : Bool := decide (v.maj = 0) && decide (v.min = 0) && decide (v.pat = 0) && decide (v.pre.length = 0)
theorem zeroB_iff {v : Ver} : zeroB v = true ↔ v = Ver.zero := by
  unfold zeroB
  simp only [Bool.and_eq_true, decide_eq_true_eq, List.length_eq_zero_iff]
  exact ⟨fun ⟨⟨⟨h1, h2⟩, h3⟩, h4⟩ => Ver.ext' h1 h2 h3 h4, fun h => by subst h; exact ⟨⟨⟨rfl, rfl⟩, rfl⟩, rfl⟩⟩
/-- The code of an interval by itself. -/
def chkI (x : Ivl) : Int :=
  if (vrF x.lo).1 ≠ 0 then (vrF x.lo).1
  else if x.un = true then (if zeroB x.hi = true then 0 else 5)
  else if (vrF x.hi).1 ≠ 0 then (vrF x.hi).1
  else if 0 ≤ verCmp x.lo x.hi then 5 else 0
theorem vr_ok {v : Ver} (h : (vrF v).1 = 0) : v.Ok := by
  rcases vrF_cases v with h' | h'
  · exact h'.2
  · exact absurd h h'
theorem vr_zero {v : Ver} (h : (vrF v).1 = 0) : vrF v = (0, 0) := vrF_ok (vr_ok h)
theorem vr_one {v : Ver} (h : v.Ok) : (vrF v).1 = 0 := by rw [vrF_ok h]
theorem chkI_ok {x : Ivl} : chkI x = 0 ↔ x.Ok := by
  unfold chkI
  by_cases h1 : (vrF x.lo).1 = 0
  · rw [if_neg (fun h => h h1)]
    cases u : x.un with
    | true =>
      rw [if_pos rfl]
      cases z : zeroB x.hi with
      | true =>
        rw [if_pos rfl]
        refine ⟨fun _ => ⟨vr_ok h1, zeroB_iff.1 z ▸ zero_ok, fun _ => zeroB_iff.1 z, fun h => by rw [u] at h; cases h⟩, fun _ => rfl⟩
      | false =>
        rw [if_neg Bool.false_ne_true]
        exact ⟨fun h => absurd h (by decide), fun h => by rw [zeroB_iff.2 (h.un u)] at z; cases z⟩
    | false =>
      rw [if_neg Bool.false_ne_true]
      by_cases h2 : (vrF x.hi).1 = 0
      · rw [if_neg (fun h => h h2)]
        by_cases h3 : 0 ≤ verCmp x.lo x.hi
        · rw [if_pos h3]
          exact ⟨fun h => absurd h (by decide), fun h => by have := h.lt u; omega⟩
        · rw [if_neg h3]
          exact ⟨fun _ => ⟨vr_ok h1, vr_ok h2, fun h => (by rw [u] at h; cases h), fun _ => by omega⟩, fun _ => rfl⟩
      · rw [if_pos h2]
        exact ⟨fun h => absurd h h2, fun h => absurd (vr_one h.hi) h2⟩
  · rw [if_pos h1]
    exact ⟨fun h => absurd h h1, fun h => absurd (vr_one h.lo) h1⟩

/-- Does an interval touch the one ahead of it? -/
def badI (p x : Ivl) : Bool := p.un || decide (0 ≤ verCmp p.hi x.lo)
theorem badI_iff {p x : Ivl} : badI p x = false ↔ Sep p x := by
  unfold badI Sep
  rw [Bool.or_eq_false_iff, decide_eq_false_iff_not]
  exact and_congr_right fun _ => by omega
/-- The code of the interval at a place. -/
def stepI (r : List Ivl) (k : Nat) (h : k < r.length) : Int :=
  if chkI r[k] ≠ 0 then chkI r[k] else if h0 : 0 < k then (if badI (r[k - 1]'(by omega)) r[k] = true then 5 else 0) else 0
def stepsF (r : List Ivl) (k : Nat) : Int × Int :=
  if h : k < r.length then (if stepI r k h = 0 then stepsF r (k + 1) else (stepI r k h, (k : Int))) else (0, 0)
termination_by r.length - k
def rngF (r : List Ivl) : Int × Int := if 12 < r.length then (2, -1) else stepsF r 0

theorem stepsF_go {r : List Ivl} {k : Nat} {F : Int × Int} (h : k < r.length) (hF : stepsF r k = F) : (stepI r k h = 0 → stepsF r (k + 1) = F) ∧ (stepI r k h ≠ 0 → F = (stepI r k h, (k : Int))) := by
  rw [stepsF, dif_pos h] at hF
  refine ⟨fun e => ?_, fun e => ?_⟩
  · rwa [if_pos e] at hF
  · rw [if_neg e] at hF; exact hF.symm
theorem stepsF_end {r : List Ivl} {k : Nat} {F : Int × Int} (h : r.length ≤ k) (hF : stepsF r k = F) : F = (0, 0) := by
  rw [stepsF, dif_neg (by omega)] at hF; exact hF.symm
theorem rngF_big {r : List Ivl} {F : Int × Int} (h : 12 < r.length) (hF : rngF r = F) : F = (2, -1) := by
  rw [rngF, if_pos h] at hF; exact hF.symm
theorem rngF_small {r : List Ivl} {F : Int × Int} (h : r.length ≤ 12) (hF : rngF r = F) : stepsF r 0 = F := by
  rwa [rngF, if_neg (by omega)] at hF

theorem stepsF_cases (r : List Ivl) : ∀ (n k : Nat), n = r.length - k → stepsF r k = (0, 0) ∧ (∀ j (h : j < r.length), k ≤ j → stepI r j h = 0) ∨ (stepsF r k).1 ≠ 0
  | 0, k, e => by
    rw [stepsF, dif_neg (by omega)]
    exact .inl ⟨rfl, fun j h hj => by omega⟩
  | n + 1, k, e => by
    rw [stepsF, dif_pos (by omega)]
    by_cases h : stepI r k (by omega) = 0
    · rw [if_pos h]
      rcases stepsF_cases r n (k + 1) (by omega) with ⟨h1, h2⟩ | h1
      · refine .inl ⟨h1, fun j hj hk => ?_⟩
        by_cases e : j = k
        · subst e; exact h
        · exact h2 j hj (by omega)
      · exact .inr h1
    · rw [if_neg h]; exact .inr h
theorem stepI_ok {r : List Ivl} {k : Nat} {h : k < r.length} (e : stepI r k h = 0) : r[k].Ok ∧ ∀ h0 : 0 < k, Sep (r[k - 1]'(by omega)) r[k] := by
  unfold stepI at e
  by_cases h1 : chkI r[k] = 0
  · rw [if_neg (fun h => h h1)] at e
    refine ⟨chkI_ok.1 h1, fun h0 => ?_⟩
    rw [dif_pos h0] at e
    cases hb : badI (r[k - 1]'(by omega)) r[k] with
    | true => rw [hb, if_pos rfl] at e; cases e
    | false => exact badI_iff.1 hb
  · rw [if_pos h1] at e; exact absurd e h1
theorem stepI_zero {r : List Ivl} {k : Nat} {h : k < r.length} (h1 : r[k].Ok) (h2 : ∀ h0 : 0 < k, Sep (r[k - 1]'(by omega)) r[k]) : stepI r k h = 0 := by
  unfold stepI
  rw [if_neg (fun e => e (chkI_ok.2 h1))]
  by_cases h0 : 0 < k
  · rw [dif_pos h0, badI_iff.2 (h2 h0), if_neg Bool.false_ne_true]
  · rw [dif_neg h0]
theorem can_of_steps {r : List Ivl} (h : ∀ j (hj : j < r.length), stepI r j hj = 0) : Can r := by
  have ok : ∀ j (hj : j < r.length), r[j].Ok := fun j hj => (stepI_ok (h j hj)).1
  have ad : ∀ j (hj : j + 1 < r.length), Sep (r[j]'(by omega)) r[j + 1] := fun j hj => (stepI_ok (h (j + 1) hj)).2 (by omega)
  refine ⟨fun x hx => ?_, List.pairwise_iff_getElem.2 ?_⟩
  · obtain ⟨j, hj, rfl⟩ := List.mem_iff_getElem.1 hx
    exact ok j hj
  · intro i j hi hj hij
    induction j with
    | zero => omega
    | succ j ih =>
      have a := ad j hj
      by_cases e : i = j
      · subst e; exact a
      · have b := ih (by omega) (by omega)
        have c := a.lo (ok j (by omega))
        exact ⟨b.1, vc_lt b.2 (by omega)⟩
theorem steps_of_can {r : List Ivl} (h : Can r) : ∀ j (hj : j < r.length), stepI r j hj = 0 := fun j hj =>
  stepI_zero (h.ok _ (List.getElem_mem hj)) fun h0 => List.pairwise_iff_getElem.1 h.sep (j - 1) j (by omega) hj (by omega)
theorem rngF_cases (r : List Ivl) : rngF r = (0, 0) ∧ r.length ≤ 12 ∧ Can r ∨ (rngF r).1 ≠ 0 := by
  unfold rngF
  by_cases h : 12 < r.length
  · rw [if_pos h]; exact .inr (by decide)
  · rw [if_neg h]
    rcases stepsF_cases r _ 0 rfl with ⟨h1, h2⟩ | h1
    · exact .inl ⟨h1, by omega, can_of_steps fun j hj => h2 j hj (Nat.zero_le _)⟩
    · exact .inr h1
theorem rng_ok {r : List Ivl} (h : (rngF r).1 = 0) : r.length ≤ 12 ∧ Can r := by
  rcases rngF_cases r with h' | h'
  · exact h'.2
  · exact absurd h h'
theorem rng_zero {r : List Ivl} (h : (rngF r).1 = 0) : rngF r = (0, 0) := by
  rcases rngF_cases r with h' | h'
  · exact h'.1
  · exact absurd h h'
theorem rng_can {r : List Ivl} (h : r.length ≤ 12) (hc : Can r) : rngF r = (0, 0) := by
  unfold rngF
  rw [if_neg (by omega)]
  rcases stepsF_cases r _ 0 rfl with ⟨h1, -⟩ | h1
  · exact h1
  · refine absurd ?_ h1
    have key : ∀ n k, n = r.length - k → stepsF r k = (0, 0) := by
      intro n
      induction n with
      | zero => intro k e; rw [stepsF, dif_neg (by omega)]
      | succ n ih => intro k e; rw [stepsF, dif_pos (by omega), if_pos (steps_of_can hc k (by omega)), ih (k + 1) (by omega)]
    rw [key _ 0 rfl]
/-- The fault of two ranges. -/
def pairF (a b : List Ivl) : Int × Int := if (rngF a).1 ≠ 0 then rngF a else if (rngF b).1 ≠ 0 then ((rngF b).1, -2) else (0, 0)
theorem pairF_a {a b : List Ivl} (h : (rngF a).1 ≠ 0) : pairF a b = rngF a := by unfold pairF; rw [if_pos h]
theorem pairF_b {a b : List Ivl} (h : (rngF a).1 = 0) (h2 : (rngF b).1 ≠ 0) : pairF a b = ((rngF b).1, -2) := by unfold pairF; rw [if_neg (fun e => e h), if_pos h2]
theorem pairF_ok {a b : List Ivl} (h : (rngF a).1 = 0) (h2 : (rngF b).1 = 0) : pairF a b = (0, 0) := by unfold pairF; rw [if_neg (fun e => e h), if_neg (fun e => e h2)]
/-- A range that must not be too large. -/
def limR (r : List Ivl) : List Ivl := if 12 < r.length then [] else r
def limF (r : List Ivl) : Int × Int := if 12 < r.length then (10, -3) else (0, 0)
end Pl
end Go.Proofs.YtjfkmbehckdjlaaGreatDoor

end
section
/- Ranges of versions in memory. -/
namespace Go.Proofs.YtjfkmbehckdjlaaGreatDoor
open Go.RowKit

/-- The cells of an interval. -/
abbrev ivC (x : Pl.Ivl) (a b : Option Addr) (c d : Nat) : List Value := [.int .i64 x.lo.maj, .int .i64 x.lo.min, .int .i64 x.lo.pat, .slice a x.lo.pre.length c, .int .i64 x.hi.maj, .int .i64 x.hi.min, .int .i64 x.hi.pat, .slice b x.hi.pre.length d, .bool x.un]
/-- An interval's cells, its identifiers in memory. -/
def IvIs (w : World) (x : Pl.Ivl) (cs : List Value) : Prop := ∃ a b c d, cs = ivC x a b c d ∧ VIn w x.lo a c ∧ VIn w x.hi b d
theorem IvIs.len {w : World} {x : Pl.Ivl} {cs : List Value} (h : IvIs w x cs) : cs.length = 9 := by obtain ⟨a, b, c, d, rfl, _⟩ := h; rfl
theorem IvIs.one {w : World} {x : Pl.Ivl} {cs : List Value} (h : IvIs w x cs) : ∀ u ∈ cs, u.oneCell' = true := by
  obtain ⟨a, b, c, d, rfl, _⟩ := h
  intro u hu
  simp only [List.mem_cons, List.not_mem_nil, or_false] at hu
  rcases hu with rfl | rfl | rfl | rfl | rfl | rfl | rfl | rfl | rfl <;> rfl
theorem IvIs.below {w w' : World} {x : Pl.Ivl} {cs : List Value} (h : IvIs w x cs) {B : Nat} (hb : Below B w w') (hB : w.heap.size ≤ B) : IvIs w' x cs := by
  obtain ⟨a, b, c, d, h1, h2, h3⟩ := h
  exact ⟨a, b, c, d, h1, h2.below hb hB, h3.below hb hB⟩
theorem IvIs.mk {w : World} {x : Pl.Ivl} {a b : Option Addr} {c d : Nat} (h1 : VIn w x.lo a c) (h2 : VIn w x.hi b d) : IvIs w x (ivC x a b c d) := ⟨a, b, c, d, rfl, h1, h2⟩
/-- A list of intervals that lies in memory. -/
structure RIn (w : World) (r : List Pl.Ivl) (a : Option Addr) (c : Nat) : Prop where
  mem : ∃ cs, Sl w a r.length c 9 cs ∧ Elems (IvIs w) 9 r cs
theorem RIn.below {w w' : World} {r : List Pl.Ivl} {a : Option Addr} {c : Nat} (h : RIn w r a c) {B : Nat} (hb : Below B w w') (hB : w.heap.size ≤ B) : RIn w' r a c := by
  obtain ⟨cs, h1, h2⟩ := h.mem
  exact ⟨cs, h1.below hb hB, h2.mono fun _ _ h => h.below hb hB⟩
theorem RIn.len {w : World} {r : List Pl.Ivl} {a : Option Addr} {c : Nat} (h : RIn w r a c) : r.length ≤ 9223372036854775807 := by
  obtain ⟨cs, h1, _⟩ := h.mem
  have h2 := h1.hcap
  have h3 := h1.hmax
  simp only [maxLen] at h3
  omega
theorem RIn.nil (w : World) : RIn w [] none 0 := ⟨[], Sl.nil w 9, Elems.nil⟩
/-- One interval of a list. -/
structure IvAt (w : World) (b o : Nat) (x : Pl.Ivl) (a1 b1 : Option Addr) (c1 d1 : Nat) : Prop where
  e0 : w.cell? ⟨b, o, none⟩ = some (.int .i64 x.lo.maj)
  e1 : w.cell? ⟨b, o + 1, none⟩ = some (.int .i64 x.lo.min)
  e2 : w.cell? ⟨b, o + 2, none⟩ = some (.int .i64 x.lo.pat)
  e3 : w.cell? ⟨b, o + 3, none⟩ = some (.slice a1 x.lo.pre.length c1)
  e4 : w.cell? ⟨b, o + 4, none⟩ = some (.int .i64 x.hi.maj)
  e5 : w.cell? ⟨b, o + 5, none⟩ = some (.int .i64 x.hi.min)
  e6 : w.cell? ⟨b, o + 6, none⟩ = some (.int .i64 x.hi.pat)
  e7 : w.cell? ⟨b, o + 7, none⟩ = some (.slice b1 x.hi.pre.length d1)
  e8 : w.cell? ⟨b, o + 8, none⟩ = some (.bool x.un)
  lo : VIn w x.lo a1 c1
  hi : VIn w x.hi b1 d1
theorem IvAt.of {w : World} {b o : Nat} {x : Pl.Ivl} {es : List Value} (h : IvIs w x es) (hc : ∀ j u, es[j]? = some u → w.cell? ⟨b, o + j, none⟩ = some u) : ∃ a1 b1 c1 d1, IvAt w b o x a1 b1 c1 d1 := by
  obtain ⟨a1, b1, c1, d1, rfl, h1, h2⟩ := h
  exact ⟨a1, b1, c1, d1, hc 0 _ rfl, hc 1 _ rfl, hc 2 _ rfl, hc 3 _ rfl, hc 4 _ rfl, hc 5 _ rfl, hc 6 _ rfl, hc 7 _ rfl, hc 8 _ rfl, h1, h2⟩
theorem IvAt.below {w w' : World} {b o : Nat} {x : Pl.Ivl} {a1 b1 : Option Addr} {c1 d1 : Nat} (h : IvAt w b o x a1 b1 c1 d1) {B : Nat} (hb : Below B w w') (hl : b < w.heap.size) (hB : w.heap.size ≤ B) : IvAt w' b o x a1 b1 c1 d1 :=
  have e : ∀ j, w'.cell? ⟨b, j, none⟩ = w.cell? ⟨b, j, none⟩ := fun j => hb.cell (p := ⟨b, j, none⟩) (Nat.lt_of_lt_of_le hl hB)
  ⟨(e _).trans h.e0, (e _).trans h.e1, (e _).trans h.e2, (e _).trans h.e3, (e _).trans h.e4, (e _).trans h.e5, (e _).trans h.e6, (e _).trans h.e7, (e _).trans h.e8, h.lo.below hb hB, h.hi.below hb hB⟩
theorem RIn.at {w : World} {r : List Pl.Ivl} {a : Option Addr} {c : Nat} (h : RIn w r a c) (h0 : 0 < r.length) : ∃ b off, a = some ⟨b, off, none⟩ ∧ b < w.heap.size ∧ ∀ k (hk : k < r.length), ∃ a1 b1 c1 d1, IvAt w b (off + k * 9) r[k] a1 b1 c1 d1 := by
  obtain ⟨cs, h1, h2⟩ := h.mem
  rcases h1.mem with rfl | ⟨b, off, rfl, hlt, hc⟩
  · have := h2.len
    simp at this
    omega
  · refine ⟨b, off, rfl, hlt, fun k hk => ?_⟩
    obtain ⟨es, g1, g2⟩ := h2.cells hc k hk
    exact IvAt.of g1 g2

theorem VIn.setNS {w : World} {v : Pl.Ver} {a : Option Addr} {c : Nat} (h : VIn w v a c) {p : Addr} {u : Value} (hp : w.cell? p = some u) (hu : ∀ s, u ≠ .string s) (x : Value) : VIn (w.setCell p x) v a c := by
  refine ⟨⟨h.sl.hl, h.sl.hcap, h.sl.hmax, ?_⟩, h.ss⟩
  rcases h.sl.mem with h0 | ⟨b, off, rfl, hlt, hc⟩
  · exact .inl h0
  · refine .inr ⟨b, off, rfl, by simpa using hlt, fun j y hy => ?_⟩
    have h1 := hc j y hy
    rw [World.cell?_setCell_other]
    · exact h1
    · intro e
      first | rw [← e] at hp | rw [e] at hp
      rw [hp] at h1
      obtain ⟨s, hs⟩ : ∃ s, y = .string s := by
        have := List.mem_of_getElem? hy
        unfold strVals at this
        obtain ⟨s, _, rfl⟩ := List.mem_map.1 this
        exact ⟨s, rfl⟩
      exact hu s ((Option.some.inj h1).trans hs)
/-- A range is handed back. -/
def RRng (r : List Pl.Ivl) (w : World) (e : Ending) (w' : World) : Prop := ∃ a c, e = .returned (.agg #[.slice a r.length c]) ∧ RIn w' r a c ∧ Below w.heap.size w w'
def RRngF (r : List Pl.Ivl) (F : Int × Int) (w : World) (e : Ending) (w' : World) : Prop := ∃ a c, e = .returned (.tuple #[.agg #[.slice a r.length c], fltV F]) ∧ RIn w' r a c ∧ Below w.heap.size w w'
end Go.Proofs.YtjfkmbehckdjlaaGreatDoor

end
section
/- Ranges as they come in: their memory. -/
namespace Go.Proofs.YtjfkmbehckdjlaaGreatDoor
open Go.RowKit
namespace Sh
abbrev ivl : Sh := .cons ver (.cons ver (.cons .bool .nil))
abbrev rng : Sh := .cons (.sl ivl) .nil
def toIvl (x : ivl.T) : Pl.Ivl := ⟨toVer x.1, toVer x.2.1, x.2.2.1⟩
def toRng (x : rng.T) : List Pl.Ivl := (show List ivl.T from x.1).map toIvl
theorem ivl_is {w : World} {cs : List Value} {x : ivl.T} (h : Holds w ivl cs x) (hw : ivl.Wf x) : IvIs w (toIvl x) cs := by
  obtain ⟨a, b, u, k⟩ := x
  obtain ⟨c1, c2, rfl, _, h1, c3, c4, rfl, _, h2, c5, c6, rfl, _, h3, h4⟩ := h
  obtain ⟨w1, w2, _⟩ := hw
  have h3 : c5 = [.bool u] := h3
  have h4 : c6 = [] := h4
  obtain ⟨p, q, rfl, v1⟩ := ver_is (x := a) h1 w1
  obtain ⟨p2, q2, rfl, v2⟩ := ver_is (x := b) h2 w2
  subst h3 h4
  exact ⟨p, p2, q, q2, rfl, v1, v2⟩
theorem ivls_is {w : World} {v : Value} {l : List ivl.T} (h : Holds w (.sl ivl) [v] l) (hw : (Sh.sl ivl).Wf l) : ∃ a c, v = .slice a (l.map toIvl).length c ∧ RIn w (l.map toIvl) a c := by
  obtain ⟨oa, cap, h1, h2, h3, h4⟩ := h
  have h1 : [v] = [Value.slice oa l.length cap] := h1
  simp only [List.cons.injEq, and_true] at h1
  subst h1
  refine ⟨oa, cap, by rw [List.length_map], ?_⟩
  rcases h4 with h4 | ⟨b, off, rfl, g2, g3⟩
  · have h4 : l = [] := h4
    subst h4
    refine ⟨⟨[], ⟨rfl, h2, h3, .inl rfl⟩, Elems.nil⟩⟩
  · obtain ⟨cs, k1, k2⟩ := Elems.of (P := IvIs w) (sz := 9) (fun x cs h => h.len) (w := w) (b := b) (l.map toIvl) off fun i hi => by
      have hi' : i < l.length := by simpa using hi
      obtain ⟨es, m1, m2, m3⟩ := g3 i hi'
      refine ⟨es, ?_, m2⟩
      rw [List.getElem_map]
      exact ivl_is m3 (hw.2 _ (List.getElem_mem hi'))
    refine ⟨⟨cs, ⟨k1.len, by rw [List.length_map]; exact h2, h3, .inr ⟨b, off, rfl, g2, k2⟩⟩, k1⟩⟩
theorem rng_is {w : World} {cs : List Value} {x : rng.T} (h : Holds w rng cs x) (hw : rng.Wf x) : ∃ a c, cs = [.slice a (toRng x).length c] ∧ RIn w (toRng x) a c := by
  obtain ⟨l, k⟩ := x
  obtain ⟨c1, c2, rfl, _, h1, h2⟩ := h
  have h2 : c2 = [] := h2
  subst h2
  obtain ⟨w1, _⟩ := hw
  have k5 : ∃ v, c1 = [v] := by obtain ⟨oa, cap, h, _⟩ := h1; exact ⟨_, h⟩
  obtain ⟨v, rfl⟩ := k5
  obtain ⟨a, c, rfl, hr⟩ := ivls_is (l := l) h1 w1
  exact ⟨a, c, rfl, hr⟩
end Sh
end Go.Proofs.YtjfkmbehckdjlaaGreatDoor

end
section
/- A block whose cells are told by one rule. No program in sight. -/
namespace Go.Proofs.YtjfkmbehckdjlaaGreatDoor
open Go.RowKit

/-- The block r holds just the cells cs; none of them is marked. -/
structure Bk (w : World) (r : Nat) (cs : List Value) : Prop where
  a : ∀ o, w.cell? ⟨r, o, none⟩ = cs[o]?
  f : ∀ o, w.frozen? ⟨r, o, none⟩ = false
  lt : r < w.heap.size
theorem Bk.c {w : World} {r : Nat} {cs : List Value} (h : Bk w r cs) (j : Nat) {u : Value} (hu : cs[j]? = some u := by rfl) : w.cell? ⟨r, j, none⟩ = some u := (h.a j).trans hu
theorem Bk.new {r : Nat} {cs : List Value} (w : World) (t : TypeId) (hg : r = w.heap.size) : Bk (w.alloc (.cells cs.toArray t)) r cs := by
  subst hg
  exact ⟨fun o => by simp, fun o => World.frozen?_alloc_at _ _ _ _ rfl, by simp⟩
theorem Bk.below {w w' : World} {r : Nat} {cs : List Value} (h : Bk w r cs) {B : Nat} (hb : Below B w w') (hr : r < B) : Bk w' r cs :=
  ⟨fun o => (hb.cell (p := ⟨r, o, none⟩) hr).trans (h.a o), fun o => (hb.frozen (p := ⟨r, o, none⟩) hr).trans (h.f o), Nat.lt_of_lt_of_le h.lt hb.size⟩
theorem Bk.alloc {w : World} {r : Nat} {cs : List Value} (h : Bk w r cs) (o : Obj) : Bk (w.alloc o) r cs := h.below (B := w.heap.size) ((Below.refl _ _).alloc (Nat.le_refl _) _) h.lt
theorem Bk.drew {w : World} {r : Nat} {cs : List Value} (h : Bk w r cs) : Bk w.drew r cs := h.below (B := w.heap.size) ((Below.refl _ _).drew) h.lt
theorem Bk.drewN {w : World} {r : Nat} {cs : List Value} (h : Bk w r cs) (n : Nat) : Bk (w.drewN n) r cs := h.below (B := w.heap.size) (Go.below_drewN (Below.refl _ _) n) h.lt
theorem Bk.set {w : World} {r : Nat} {cs : List Value} (h : Bk w r cs) {k : Nat} (hk : k < cs.length) (v : Value) : Bk (w.setCell ⟨r, k, none⟩ v) r (cs.set k v) := by
  refine ⟨fun j => ?_, fun j => by rw [frozen_setCell]; exact h.f j, by simpa using h.lt⟩
  rw [List.getElem?_set]
  by_cases hjk : k = j
  · subst hjk
    rw [if_pos rfl, if_pos hk]
    exact World.cell?_setCell_same _ _ _ ((h.a k).trans (List.getElem?_eq_getElem hk))
  · rw [if_neg hjk, World.cell?_setCell_other _ _ _ _ (by intro h2; injection h2 with _ h3; exact hjk h3)]
    exact h.a j
theorem Bk.far {w : World} {r : Nat} {cs : List Value} (h : Bk w r cs) {a : Addr} (hne : a.block ≠ r) (v : Value) : Bk (w.setCell a v) r cs := by
  refine ⟨fun j => ?_, fun j => by rw [frozen_setCell]; exact h.f j, by simpa using h.lt⟩
  rw [World.cell?_setCell_other _ _ _ _ (by intro h2; apply hne; have := congrArg Addr.block h2; first | exact this | exact this.symm)]
  exact h.a j
end Go.Proofs.YtjfkmbehckdjlaaGreatDoor

end
