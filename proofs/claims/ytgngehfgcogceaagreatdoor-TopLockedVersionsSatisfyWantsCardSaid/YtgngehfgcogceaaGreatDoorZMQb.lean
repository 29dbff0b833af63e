/- Texts joined: Qa Qb. -/
import Derived.Test.YtgngehfgcogceaaGreatDoorZMSc
section
/- Ranges of versions in plain words: intervals, canonical lists of them, and what is in them. No program in sight. -/
namespace Go.Proofs.YtgngehfgcogceaaGreatDoor
namespace Pl

structure Ivl where
  lo : Ver
  hi : Ver
  un : Bool

theorem vc_self (a : Ver) : verCmp a a = 0 := (verCmp_TO.eq a a trivial trivial).2 rfl
theorem vc_anti (a b : Ver) : verCmp b a = - verCmp a b := verCmp_TO.anti a b trivial trivial
theorem vc_eq {a b : Ver} (h : verCmp a b = 0) : a = b := (verCmp_TO.eq a b trivial trivial).1 h
theorem vc_rng (a b : Ver) : verCmp a b = -1 ∨ verCmp a b = 0 ∨ verCmp a b = 1 := verCmp_TO.rng a b
theorem vc_tr {a b d : Ver} (h1 : verCmp a b ≤ 0) (h2 : verCmp b d ≤ 0) : verCmp a d ≤ 0 := verCmp_TO.tr a b d trivial trivial trivial h1 h2
theorem vc_lt {a b d : Ver} (h1 : verCmp a b < 0) (h2 : verCmp b d ≤ 0) : verCmp a d < 0 := verCmp_TO.lt_le trivial trivial trivial h1 h2
theorem vc_tl {a b d : Ver} (h1 : verCmp a b ≤ 0) (h2 : verCmp b d < 0) : verCmp a d < 0 := verCmp_TO.le_lt trivial trivial trivial h1 h2
theorem vc_le {a b : Ver} (h : ¬ verCmp a b < 0) : verCmp b a ≤ 0 := by rw [vc_anti a b]; omega
theorem vc_nlt {a b : Ver} (h : verCmp a b ≤ 0) : ¬ verCmp b a < 0 := by rw [vc_anti a b]; omega
def inI (x : Ivl) (v : Ver) : Bool := decide (verCmp x.lo v ≤ 0) && (x.un || decide (verCmp v x.hi < 0))
def hasB (r : List Ivl) (v : Ver) : Bool := r.any fun x => inI x v
theorem inI_iff {x : Ivl} {v : Ver} : inI x v = true ↔ verCmp x.lo v ≤ 0 ∧ (x.un = true ∨ verCmp v x.hi < 0) := by simp [inI]
theorem hasB_cons (x : Ivl) (r : List Ivl) (v : Ver) : hasB (x :: r) v = (inI x v || hasB r v) := rfl
theorem hasB_nil (v : Ver) : hasB [] v = false := rfl
theorem hasB_app (a b : List Ivl) (v : Ver) : hasB (a ++ b) v = (hasB a v || hasB b v) := by simp [hasB]
theorem hasB_iff {r : List Ivl} {v : Ver} : hasB r v = true ↔ ∃ x ∈ r, inI x v = true := by simp [hasB]
theorem hasB_no {r : List Ivl} {v : Ver} (h : ∀ x ∈ r, inI x v = false) : hasB r v = false := by
  cases e : hasB r v with
  | false => rfl
  | true => obtain ⟨x, hx, hv⟩ := hasB_iff.1 e; rw [h x hx] at hv; cases hv

/-- An interval that is valid by itself. -/
structure Ivl.Ok (x : Ivl) : Prop where
  lo : x.lo.Ok
  hi : x.hi.Ok
  un : x.un = true → x.hi = Ver.zero
  lt : x.un = false → verCmp x.lo x.hi < 0
def Sep (x y : Ivl) : Prop := x.un = false ∧ verCmp x.hi y.lo < 0
/-- A list of intervals that is a range. -/
structure Can (r : List Ivl) : Prop where
  ok : ∀ x ∈ r, x.Ok
  sep : r.Pairwise Sep
theorem zero_ok : Ver.zero.Ok := ⟨by decide, by decide, by decide, by decide, fun s hs => by cases hs⟩
theorem Can.nil : Can [] := ⟨fun _ h => (List.not_mem_nil h).elim, List.Pairwise.nil⟩
theorem Can.tail {x : Ivl} {r : List Ivl} (h : Can (x :: r)) : Can r := ⟨fun y hy => h.ok y (by simp [hy]), (List.pairwise_cons.1 h.sep).2⟩
theorem Can.hsep {x : Ivl} {r : List Ivl} (h : Can (x :: r)) : ∀ y ∈ r, Sep x y := (List.pairwise_cons.1 h.sep).1
theorem Can.cons {x : Ivl} {r : List Ivl} (hx : x.Ok) (hs : ∀ y ∈ r, Sep x y) (h : Can r) : Can (x :: r) := ⟨fun y hy => (List.mem_cons.1 hy).elim (fun e => e ▸ hx) (h.ok y), List.pairwise_cons.2 ⟨hs, h.sep⟩⟩
theorem Can.one {x : Ivl} (hx : x.Ok) : Can [x] := Can.cons hx (fun _ h => (List.not_mem_nil h).elim) Can.nil
theorem Sep.lo {x y : Ivl} (h : Sep x y) (hx : x.Ok) : verCmp x.lo y.lo < 0 := vc_lt (hx.lt h.1) (by have := h.2; omega)
theorem inI_lo {x : Ivl} (hx : x.Ok) : inI x x.lo = true := inI_iff.2 ⟨by rw [vc_self]; decide, by
  cases e : x.un
  · exact .inr (hx.lt e)
  · exact .inl rfl⟩
theorem not_lo {x : Ivl} {v : Ver} (h : verCmp v x.lo < 0) : inI x v = false := by
  cases e : inI x v with
  | false => rfl
  | true => exact absurd h (vc_nlt (inI_iff.1 e).1)
theorem not_hi {x : Ivl} {v : Ver} (hu : x.un = false) (h : verCmp x.hi v ≤ 0) : inI x v = false := by
  cases e : inI x v with
  | false => rfl
  | true =>
    rcases (inI_iff.1 e).2 with h1 | h1
    · rw [hu] at h1; cases h1
    · exact absurd h1 (vc_nlt h)
theorem tail_no {x : Ivl} {r : List Ivl} {v : Ver} (h : Can (x :: r)) (hv : x.un = true ∨ verCmp v x.hi ≤ 0) : hasB r v = false := hasB_no fun y hy => by
  have hs := h.hsep y hy
  rcases hv with hv | hv
  · rw [hs.1] at hv; cases hv
  · exact not_lo (vc_tl hv hs.2)
theorem head_no {r : List Ivl} {v : Ver} (h : ∀ y ∈ r, verCmp v y.lo < 0) : hasB r v = false := hasB_no fun y hy => not_lo (h y hy)
theorem Can.los {x : Ivl} {r : List Ivl} (h : Can (x :: r)) : ∀ y ∈ r, verCmp x.lo y.lo < 0 := fun y hy => (h.hsep y hy).lo (h.ok x (by simp))

/-- The two contain the same bounds of the third. -/
def Agree (a b c : List Ivl) : Prop := ∀ x ∈ c, hasB a x.lo = hasB b x.lo ∧ (x.un = false → hasB a x.hi = hasB b x.hi)
theorem Agree.symm {a b c : List Ivl} (h : Agree a b c) : Agree b a c := fun x hx => ⟨(h x hx).1.symm, fun hu => ((h x hx).2 hu).symm⟩
theorem agree_lo {x y : Ivl} {a b : List Ivl} (ha : Can (x :: a)) (hb : Can (y :: b)) (h1 : Agree (x :: a) (y :: b) (x :: a)) : ¬ verCmp x.lo y.lo < 0 := fun hlt => by
  have e := (h1 x (by simp)).1
  have hx := ha.ok x (by simp)
  rw [hasB_cons, inI_lo hx, head_no (r := y :: b)] at e
  · cases e
  · intro z hz
    rcases List.mem_cons.1 hz with rfl | hz
    · exact hlt
    · exact vc_lt hlt (by have := hb.los z hz; omega)
theorem agree_hi {x y : Ivl} {a b : List Ivl} (ha : Can (x :: a)) (_ : Can (y :: b)) (h1 : Agree (x :: a) (y :: b) (x :: a)) (e0 : x.lo = y.lo) (hu : x.un = false) (hlt : y.un = true ∨ verCmp x.hi y.hi < 0) : False := by
  have e := (h1 x (by simp)).2 hu
  have hx := ha.ok x (by simp)
  rw [hasB_cons, not_hi hu (by rw [vc_self]; decide), tail_no ha (.inr (by rw [vc_self]; decide)), hasB_cons, inI_iff.2 ⟨by rw [← e0]; have := hx.lt hu; omega, hlt⟩] at e
  cases e
theorem agree_tail {x : Ivl} {a b c : List Ivl} (h : Agree (x :: a) (x :: b) (x :: c)) (hc : Can (x :: c)) : Agree a b c := fun z hz => by
  have hs := hc.hsep z hz
  have hzo := hc.ok z (by simp [hz])
  obtain ⟨h1, h2⟩ := h z (by simp [hz])
  rw [hasB_cons, hasB_cons, not_hi hs.1 (by have := hs.2; omega), Bool.false_or, Bool.false_or] at h1
  refine ⟨h1, fun hu => ?_⟩
  have h3 := h2 hu
  rw [hasB_cons, hasB_cons, not_hi hs.1 (by have h5 := hzo.lt hu; have h6 := vc_lt hs.2 (show verCmp z.lo z.hi ≤ 0 by omega); omega), Bool.false_or, Bool.false_or] at h3
  exact h3
theorem agree_eq : ∀ {a b : List Ivl}, Can a → Can b → Agree a b a → Agree a b b → a = b
  | [], [], _, _, _, _ => rfl
  | [], y :: b, _, hb, _, h2 => by
    have e := (h2 y (by simp)).1
    rw [hasB_nil, hasB_cons, inI_lo (hb.ok y (by simp))] at e
    cases e
  | x :: a, [], ha, _, h1, _ => by
    have e := (h1 x (by simp)).1
    rw [hasB_nil, hasB_cons, inI_lo (ha.ok x (by simp))] at e
    cases e
  | x :: a, y :: b, ha, hb, h1, h2 => by
    have hx := ha.ok x (by simp)
    have hy := hb.ok y (by simp)
    have e0 : x.lo = y.lo := by
      have g1 := agree_lo ha hb h1
      have g2 := agree_lo hb ha h2.symm
      rw [vc_anti x.lo y.lo] at g2
      exact vc_eq (by omega)
    have e1 : x = y := by
      cases u1 : x.un <;> cases u2 : y.un
      · have g1 := fun h => agree_hi ha hb h1 e0 u1 (.inr h)
        have g2 := fun h => agree_hi hb ha h2.symm e0.symm u2 (.inr h)
        rw [vc_anti x.hi y.hi] at g2
        have e2 : x.hi = y.hi := vc_eq (by
          rcases vc_rng x.hi y.hi with h | h | h
          · exact (g1 (by omega)).elim
          · exact h
          · exact (g2 (by omega)).elim)
        cases x; cases y; simp_all
      · exact (agree_hi ha hb h1 e0 u1 (.inl u2)).elim
      · exact (agree_hi hb ha h2.symm e0.symm u2 (.inl u1)).elim
      · have e2 : x.hi = y.hi := (hx.un u1).trans (hy.un u2).symm
        cases x; cases y; simp_all
    subst e1
    rw [agree_eq ha.tail hb.tail (agree_tail h1 ha) (agree_tail h2 hb)]
/-- What is in a range determines it. -/
theorem can_ext {a b : List Ivl} (ha : Can a) (hb : Can b) (h : ∀ v : Ver, v.Ok → hasB a v = hasB b v) : a = b :=
  agree_eq ha hb (fun x hx => ⟨h _ (ha.ok x hx).lo, fun _ => h _ (ha.ok x hx).hi⟩) (fun x hx => ⟨h _ (hb.ok x hx).lo, fun _ => h _ (hb.ok x hx).hi⟩)

/-- One more interval behind a list of intervals that start no later. -/
def addL (out : List Ivl) (x : Ivl) : List Ivl := match out.getLast? with
  | none => [x]
  | some l => if l.un = true then out else if verCmp l.hi x.lo < 0 then out ++ [x] else if x.un = true ∨ verCmp l.hi x.hi < 0 then out.dropLast ++ [⟨l.lo, x.hi, x.un⟩] else out
theorem addL_nil (x : Ivl) : addL [] x = [x] := rfl
theorem addL_snoc (o : List Ivl) (l x : Ivl) : addL (o ++ [l]) x = if l.un = true then o ++ [l] else if verCmp l.hi x.lo < 0 then o ++ [l] ++ [x] else if x.un = true ∨ verCmp l.hi x.hi < 0 then o ++ [⟨l.lo, x.hi, x.un⟩] else o ++ [l] := by
  unfold addL
  rw [List.getLast?_concat, List.dropLast_concat]
theorem Can.snoc {o : List Ivl} {l : Ivl} (h : Can (o ++ [l])) : Can o ∧ l.Ok ∧ ∀ y ∈ o, Sep y l := by
  have h1 := List.pairwise_append.1 h.sep
  exact ⟨⟨fun x hx => h.ok x (by simp [hx]), h1.1⟩, h.ok l (by simp), fun y hy => h1.2.2 y hy l (by simp)⟩
theorem Can.mkSnoc {o : List Ivl} {l : Ivl} (h : Can o) (hl : l.Ok) (hs : ∀ y ∈ o, Sep y l) : Can (o ++ [l]) :=
  ⟨fun x hx => by rcases List.mem_append.1 hx with hx | hx
                  · exact h.ok x hx
                  · rw [List.mem_singleton.1 hx]; exact hl,
   List.pairwise_append.2 ⟨h.sep, List.pairwise_singleton _ _, fun y hy z hz => by rw [List.mem_singleton.1 hz]; exact hs y hy⟩⟩
theorem hasB_one (x : Ivl) (v : Ver) : hasB [x] v = inI x v := by simp [hasB]
theorem bool_or {a b c : Bool} (h1 : a = true → c = true) (h2 : b = true → c = true) (h3 : c = true → a = true ∨ b = true) : c = (a || b) := by
  cases a <;> cases b <;> cases c <;> simp_all
theorem addL_can {out : List Ivl} {x : Ivl} (h : Can out) (hx : x.Ok) (hl : ∀ l, out.getLast? = some l → verCmp l.lo x.lo ≤ 0) :
    Can (addL out x) ∧ (∀ l, (addL out x).getLast? = some l → verCmp l.lo x.lo ≤ 0) ∧ ∀ v, hasB (addL out x) v = (hasB out v || inI x v) := by
  rcases List.eq_nil_or_concat out with rfl | ⟨o, l, e⟩
  · rw [addL_nil]
    exact ⟨Can.one hx, fun l h => by rw [List.getLast?_singleton] at h; cases h; rw [vc_self]; decide, fun v => by rw [hasB_one, hasB_nil, Bool.false_or]⟩
  · rw [List.concat_eq_append] at e
    subst e
    have hle := hl l List.getLast?_concat
    obtain ⟨co, lok, so⟩ := h.snoc
    rw [addL_snoc]
    by_cases u : l.un = true
    · rw [if_pos u]
      refine ⟨h, hl, fun v => ?_⟩
      rw [hasB_app, hasB_one, Bool.or_assoc]
      congr 1
      refine bool_or (fun h => h) (fun h => inI_iff.2 ⟨vc_tr hle (inI_iff.1 h).1, .inl u⟩) .inl
    · rw [if_neg u]
      have u : l.un = false := by simpa using u
      by_cases h1 : verCmp l.hi x.lo < 0
      · rw [if_pos h1]
        refine ⟨h.mkSnoc hx fun y hy => ?_, fun m hm => ?_, fun v => by rw [hasB_app, hasB_one]⟩
        · rcases List.mem_append.1 hy with hy | hy
          · exact ⟨(so y hy).1, vc_lt (so y hy).2 hle⟩
          · rw [List.mem_singleton.1 hy]; exact ⟨u, h1⟩
        · rw [List.getLast?_concat] at hm; cases hm; rw [vc_self]; decide
      · rw [if_neg h1]
        have h1' := vc_le h1
        by_cases h2 : x.un = true ∨ verCmp l.hi x.hi < 0
        · rw [if_pos h2]
          refine ⟨co.mkSnoc ⟨lok.lo, hx.hi, hx.un, fun hu => ?_⟩ fun y hy => so y hy, fun m hm => ?_, fun v => ?_⟩
          · rcases h2 with h2 | h2
            · have hu : x.un = false := hu
              rw [hu] at h2; cases h2
            · exact vc_lt (lok.lt u) (by show verCmp l.hi x.hi ≤ 0; omega)
          · rw [List.getLast?_concat] at hm; cases hm; exact hle
          · rw [hasB_app, hasB_app, hasB_one, hasB_one, Bool.or_assoc]
            congr 1
            refine bool_or (fun h => ?_) (fun h => ?_) (fun h => ?_)
            · obtain ⟨g1, g2⟩ := inI_iff.1 h
              refine inI_iff.2 ⟨g1, ?_⟩
              rcases g2 with g2 | g2
              · rw [u] at g2; cases g2
              · rcases h2 with h2 | h2
                · exact .inl h2
                · exact .inr (vc_lt g2 (by show verCmp l.hi x.hi ≤ 0; omega))
            · obtain ⟨g1, g2⟩ := inI_iff.1 h
              exact inI_iff.2 ⟨vc_tr hle g1, g2⟩
            · obtain ⟨g1, g2⟩ := inI_iff.1 h
              by_cases g : verCmp v l.hi < 0
              · exact .inl (inI_iff.2 ⟨g1, .inr g⟩)
              · exact .inr (inI_iff.2 ⟨vc_tr h1' (vc_le g), g2⟩)
        · rw [if_neg h2]
          refine ⟨h, hl, fun v => ?_⟩
          rw [hasB_app, hasB_one, Bool.or_assoc]
          congr 1
          refine bool_or (fun h => h) (fun h => ?_) .inl
          obtain ⟨g1, g2⟩ := inI_iff.1 h
          rcases g2 with g2 | g2
          · exact absurd (.inl g2) h2
          · exact inI_iff.2 ⟨vc_tr hle g1, .inr (vc_lt g2 (vc_le fun h => h2 (.inr h)))⟩
def LoLe (x y : Ivl) : Prop := verCmp x.lo y.lo ≤ 0
theorem foldJ : ∀ (xs out : List Ivl), Can out → (∀ x ∈ xs, x.Ok) → xs.Pairwise LoLe → (∀ l, out.getLast? = some l → ∀ x ∈ xs, verCmp l.lo x.lo ≤ 0) →
    Can (xs.foldl addL out) ∧ ∀ v, hasB (xs.foldl addL out) v = (hasB out v || hasB xs v)
  | [], out, h, _, _, _ => ⟨h, fun v => by rw [hasB_nil, Bool.or_false]; rfl⟩
  | x :: xs, out, h, hx, hp, hl => by
    obtain ⟨c1, c2, c3⟩ := addL_can h (hx x (by simp)) fun l hl' => hl l hl' x (by simp)
    rw [List.pairwise_cons] at hp
    obtain ⟨d1, d2⟩ := foldJ xs (addL out x) c1 (fun y hy => hx y (by simp [hy])) hp.2 fun l hl' y hy => vc_tr (c2 l hl') (hp.1 y hy)
    rw [List.foldl_cons]
    exact ⟨d1, fun v => by rw [d2, c3, hasB_cons, Bool.or_assoc]⟩
theorem foldJ0 {xs : List Ivl} (hx : ∀ x ∈ xs, x.Ok) (hp : xs.Pairwise LoLe) : Can (xs.foldl addL []) ∧ ∀ v, hasB (xs.foldl addL []) v = hasB xs v := by
  obtain ⟨h1, h2⟩ := foldJ xs [] Can.nil hx hp (fun l h => by cases h)
  exact ⟨h1, fun v => by rw [h2, hasB_nil, Bool.false_or]⟩

/-- An interval put into a list by its lower bound. -/
def insI (x : Ivl) : List Ivl → List Ivl
  | [] => [x]
  | y :: r => if verCmp x.lo y.lo < 0 then x :: y :: r else y :: insI x r
theorem insI_mem {x z : Ivl} : ∀ {r : List Ivl}, z ∈ insI x r ↔ z = x ∨ z ∈ r
  | [] => by simp [insI]
  | y :: r => by
    rw [insI]
    split
    · simp
    · rw [List.mem_cons, insI_mem, List.mem_cons]
      exact ⟨fun h => by rcases h with h | h | h <;> simp [h], fun h => by rcases h with h | h | h <;> simp [h]⟩
theorem insI_has (x : Ivl) (r : List Ivl) (v : Ver) : hasB (insI x r) v = (hasB r v || inI x v) := by
  rw [Bool.eq_iff_iff, Bool.or_eq_true, hasB_iff, hasB_iff]
  exact ⟨fun ⟨z, hz, h⟩ => (insI_mem.1 hz).elim (fun e => .inr (e ▸ h)) (fun e => .inl ⟨z, e, h⟩), fun h => h.elim (fun ⟨z, hz, h⟩ => ⟨z, insI_mem.2 (.inr hz), h⟩) (fun h => ⟨x, insI_mem.2 (.inl rfl), h⟩)⟩
theorem insI_sorted {x : Ivl} : ∀ {r : List Ivl}, r.Pairwise LoLe → (insI x r).Pairwise LoLe
  | [], _ => List.pairwise_singleton _ _
  | y :: r, h => by
    rw [insI]
    have h' := List.pairwise_cons.1 h
    split
    · rename_i hlt
      refine List.pairwise_cons.2 ⟨fun z hz => ?_, h⟩
      rcases List.mem_cons.1 hz with rfl | hz
      · unfold LoLe; omega
      · exact vc_tr (by omega) (h'.1 z hz)
    · rename_i hlt
      refine List.pairwise_cons.2 ⟨fun z hz => ?_, insI_sorted h'.2⟩
      rcases insI_mem.1 hz with rfl | hz
      · exact vc_le hlt
      · exact h'.1 z hz
theorem Can.sorted {r : List Ivl} (h : Can r) : r.Pairwise LoLe := by
  have h1 := h.ok
  have h2 := h.sep
  clear h
  induction r with
  | nil => exact List.Pairwise.nil
  | cons x r ih =>
    have h3 := List.pairwise_cons.1 h2
    refine List.pairwise_cons.2 ⟨fun y hy => ?_, ih (fun z hz => h1 z (by simp [hz])) h3.2⟩
    have := (h3.1 y hy).lo (h1 x (by simp))
    unfold LoLe; omega

/-- The reference's range with one interval more. -/
def withR (r : List Ivl) (x : Ivl) : List Ivl := (insI x r).foldl addL []
def unionR (a b : List Ivl) : List Ivl := b.foldl withR a
theorem withR_can {r : List Ivl} {x : Ivl} (h : Can r) (hx : x.Ok) : Can (withR r x) ∧ ∀ v, hasB (withR r x) v = (hasB r v || inI x v) := by
  obtain ⟨h1, h2⟩ := foldJ0 (xs := insI x r) (fun z hz => (insI_mem.1 hz).elim (fun e => e ▸ hx) (h.ok z)) (insI_sorted h.sorted)
  exact ⟨h1, fun v => by rw [withR, h2, insI_has]⟩
theorem unionR_can : ∀ {b a : List Ivl}, Can a → (∀ x ∈ b, x.Ok) → Can (unionR a b) ∧ ∀ v, hasB (unionR a b) v = (hasB a v || hasB b v)
  | [], a, h, _ => ⟨h, fun v => by rw [hasB_nil, Bool.or_false]; rfl⟩
  | x :: b, a, h, hx => by
    obtain ⟨h1, h2⟩ := withR_can h (hx x (by simp))
    obtain ⟨h3, h4⟩ := unionR_can (b := b) h1 fun y hy => hx y (by simp [hy])
    exact ⟨h3, fun v => by rw [show unionR a (x :: b) = unionR (withR a x) b from rfl, h4, h2, hasB_cons, Bool.or_assoc]⟩
/-- The program's union: sorted by the lower bounds in whatever way, then joined. -/
theorem join_is {a b all : List Ivl} (ha : Can a) (hb : Can b) (hm : ∀ x, x ∈ all ↔ x ∈ a ∨ x ∈ b) (hp : all.Pairwise LoLe) : all.foldl addL [] = unionR a b := by
  have hall : ∀ x ∈ all, x.Ok := fun x hx => ((hm x).1 hx).elim (ha.ok x) (hb.ok x)
  obtain ⟨h1, h2⟩ := foldJ0 hall hp
  obtain ⟨h3, h4⟩ := unionR_can ha hb.ok
  refine can_ext h1 h3 fun v _ => ?_
  rw [h2, h4, Bool.eq_iff_iff, Bool.or_eq_true, hasB_iff, hasB_iff, hasB_iff]
  exact ⟨fun ⟨x, hx, h⟩ => ((hm x).1 hx).elim (fun e => .inl ⟨x, e, h⟩) (fun e => .inr ⟨x, e, h⟩), fun h => h.elim (fun ⟨x, hx, h⟩ => ⟨x, (hm x).2 (.inl hx), h⟩) (fun ⟨x, hx, h⟩ => ⟨x, (hm x).2 (.inr hx), h⟩)⟩

/-- The gaps from a version on. -/
def invAt (low : Ver) : List Ivl → List Ivl
  | [] => [⟨low, Ver.zero, true⟩]
  | x :: r => (if verCmp low x.lo < 0 then [⟨low, x.lo, false⟩] else []) ++ (if x.un = true then [] else invAt x.hi r)
def lowV : Ver := ⟨0, 0, 0, [zeroId]⟩
def invR (r : List Ivl) : List Ivl := invAt lowV r
theorem lowV_ok : lowV.Ok := ⟨by decide, by decide, by decide, by decide, fun s hs => by rw [List.mem_singleton.1 hs]; decide⟩
theorem invAt_can : ∀ {r : List Ivl} {low : Ver}, low.Ok → Can r → (∀ x ∈ r, verCmp low x.lo ≤ 0) → Can (invAt low r) ∧ (∀ y ∈ invAt low r, verCmp low y.lo ≤ 0) ∧ ∀ v, hasB (invAt low r) v = (decide (verCmp low v ≤ 0) && !hasB r v)
  | [], low, hl, _, _ => by
    refine ⟨Can.one ⟨hl, zero_ok, fun _ => rfl, fun h => (Bool.noConfusion h)⟩, fun y hy => ?_, fun v => ?_⟩
    · rw [List.mem_singleton.1 hy, vc_self]; decide
    · rw [invAt, hasB_one, hasB_nil]; simp [inI]
  | x :: r, low, hl, hc, hle => by
    have hx := hc.ok x (by simp)
    have hlx := hle x (by simp)
    -- the part behind
    have key : ∃ t, (if x.un = true then [] else invAt x.hi r) = t ∧ Can t ∧ (∀ y ∈ t, x.un = false ∧ verCmp x.hi y.lo ≤ 0) ∧ ∀ v, verCmp x.lo v ≤ 0 → hasB t v = !hasB (x :: r) v := by
      by_cases u : x.un = true
      · rw [if_pos u]
        refine ⟨[], rfl, Can.nil, fun y hy => (List.not_mem_nil hy).elim, fun v hv => ?_⟩
        rw [hasB_cons, inI_iff.2 ⟨hv, .inl u⟩]; rfl
      · rw [if_neg u]
        have u : x.un = false := by simpa using u
        obtain ⟨h1, h2, h3⟩ := invAt_can (r := r) (low := x.hi) hx.hi hc.tail (fun y hy => by have := (hc.hsep y hy).2; omega)
        refine ⟨_, rfl, h1, fun y hy => ⟨u, h2 y hy⟩, fun v hv => ?_⟩
        rw [h3, hasB_cons]
        by_cases g : verCmp v x.hi < 0
        · rw [inI_iff.2 ⟨hv, .inr g⟩, decide_eq_false (fun h => vc_nlt h g)]; rfl
        · rw [not_hi u (vc_le g), decide_eq_true (vc_le g)]; simp
    obtain ⟨t, e, ct, lt, ht⟩ := key
    rw [invAt, e]
    have hlow : ∀ v, verCmp v x.lo < 0 → hasB t v = false ∧ hasB (x :: r) v = false := fun v hv => by
      refine ⟨head_no fun y hy => ?_, head_no fun y hy => ?_⟩
      · obtain ⟨u, hy'⟩ := lt y hy
        exact vc_lt (vc_lt hv (by have := hx.lt u; omega)) hy'
      · rcases List.mem_cons.1 hy with rfl | hy
        · exact hv
        · exact vc_lt hv (by have := hc.los y hy; omega)
    by_cases g : verCmp low x.lo < 0
    · rw [if_pos g]
      refine ⟨Can.cons ⟨hl, hx.lo, fun h => (Bool.false_ne_true h).elim, fun _ => g⟩ (fun y hy => ?_) ct, fun y hy => ?_, fun v => ?_⟩
      · obtain ⟨u, hy'⟩ := lt y hy
        exact ⟨rfl, vc_lt (hx.lt u) hy'⟩
      · rcases List.mem_cons.1 hy with rfl | hy
        · rw [vc_self]; decide
        · obtain ⟨u, hy'⟩ := lt y hy
          exact vc_tr hlx (vc_tr (by have := hx.lt u; omega) hy')
      · show hasB (_ :: t) v = _
        rw [hasB_cons]
        by_cases g1 : verCmp v x.lo < 0
        · obtain ⟨e1, e2⟩ := hlow v g1
          rw [e1, e2]
          simp [inI, g1]
        · rw [not_hi (x := ⟨low, x.lo, false⟩) rfl (vc_le g1), Bool.false_or, ht v (vc_le g1), decide_eq_true (vc_tr hlx (vc_le g1)), Bool.true_and]
    · rw [if_neg g, List.nil_append]
      have el : low = x.lo := vc_eq (by omega)
      refine ⟨ct, fun y hy => ?_, fun v => ?_⟩
      · obtain ⟨u, hy'⟩ := lt y hy
        exact vc_tr hlx (vc_tr (by have := hx.lt u; omega) hy')
      · by_cases g1 : verCmp v x.lo < 0
        · obtain ⟨e1, e2⟩ := hlow v g1
          rw [e1, e2, el, decide_eq_false (fun h => vc_nlt h g1)]; rfl
        · rw [ht v (vc_le g1), el, decide_eq_true (vc_le g1), Bool.true_and]
theorem lowV_least {v : Ver} (h : v.Ok) : verCmp lowV v ≤ 0 := by
  have a1 := inB_true.1 h.m1
  have a2 := inB_true.1 h.m2
  have a3 := inB_true.1 h.m3
  rw [verCmp_eq]
  have e1 : lowV.maj = 0 := rfl
  have e2 : lowV.min = 0 := rfl
  have e3 : lowV.pat = 0 := rfl
  have e4 : lowV.pre = [zeroId] := rfl
  rw [e1, e2, e3, e4]
  have s : ∀ x : Int, 0 ≤ x → sgn 0 x ≤ 0 := fun x hx => by unfold sgn; repeat' split <;> omega
  have s1 := s v.maj a1.1
  have s2 := s v.min a2.1
  have s3 := s v.pat a3.1
  split
  · split
    · split
      · have e5 : ([zeroId] : List ByteArray).length = 1 := rfl
        rw [e5, if_neg (show ¬ (1 : Nat) = 0 by decide)]
        by_cases hp : v.pre.length = 0
        · rw [if_pos hp, if_neg (by decide)]; decide
        · rw [if_neg hp, if_pos (sgn_self 0)]
          cases hv : v.pre with
          | nil => rw [hv] at hp; exact absurd rfl hp
          | cons y r =>
            have hy := zero_least (h.i y (by rw [hv]; simp))
            rw [lexL]
            split
            · cases r <;> simp [lexL]
            · exact hy
      · exact s3
    · exact s2
  · exact s1
theorem invR_can {r : List Ivl} (h : Can r) : Can (invR r) ∧ ∀ v : Ver, v.Ok → hasB (invR r) v = !hasB r v := by
  obtain ⟨h1, -, h3⟩ := invAt_can lowV_ok h fun x hx => lowV_least (h.ok x hx).lo
  exact ⟨h1, fun v hv => by rw [invR, h3, decide_eq_true (lowV_least hv), Bool.true_and]⟩

/-- The reference's intersection of two intervals. -/
def comHi (x y : Ivl) : Prop := x.un = true ∨ y.un = false ∧ verCmp y.hi x.hi < 0
instance (x y : Ivl) : Decidable (comHi x y) := by unfold comHi; infer_instance
def comI (x y : Ivl) : Ivl := ⟨if verCmp x.lo y.lo < 0 then y.lo else x.lo, if comHi x y then y.hi else x.hi, if comHi x y then y.un else x.un⟩
def comOk (x y : Ivl) : Bool := (comI x y).un || decide (verCmp (comI x y).lo (comI x y).hi < 0)
def commonR (a b : List Ivl) : List Ivl := a.flatMap fun x => b.filterMap fun y => if comOk x y = true then some (comI x y) else none
theorem comI_lo (x y : Ivl) (v : Ver) : verCmp (comI x y).lo v ≤ 0 ↔ verCmp x.lo v ≤ 0 ∧ verCmp y.lo v ≤ 0 := by
  unfold comI
  simp only
  split
  · rename_i h; exact ⟨fun g => ⟨vc_tr (by omega) g, g⟩, fun g => g.2⟩
  · rename_i h; exact ⟨fun g => ⟨g, vc_tr (vc_le h) g⟩, fun g => g.1⟩
theorem comI_hi (x y : Ivl) (v : Ver) : ((comI x y).un = true ∨ verCmp v (comI x y).hi < 0) ↔ (x.un = true ∨ verCmp v x.hi < 0) ∧ (y.un = true ∨ verCmp v y.hi < 0) := by
  unfold comI
  simp only
  by_cases h : comHi x y
  · rw [if_pos h, if_pos h]
    refine ⟨fun g => ⟨?_, g⟩, fun g => g.2⟩
    rcases h with h | ⟨h1, h2⟩
    · exact .inl h
    · rcases g with g | g
      · rw [h1] at g; cases g
      · exact .inr (vc_lt g (by omega))
  · rw [if_neg h, if_neg h]
    refine ⟨fun g => ⟨g, ?_⟩, fun g => g.1⟩
    unfold comHi at h
    cases u : y.un with
    | true => exact .inl rfl
    | false =>
      refine .inr ?_
      rcases g with g | g
      · exact absurd (.inl g) h
      · exact vc_lt g (vc_le fun h' => h (.inr ⟨u, h'⟩))
theorem comI_in (x y : Ivl) (v : Ver) : inI (comI x y) v = (inI x v && inI y v) := by
  rw [Bool.eq_iff_iff, Bool.and_eq_true, inI_iff, inI_iff, inI_iff, comI_lo, comI_hi]
  exact ⟨fun ⟨⟨a, b⟩, c, d⟩ => ⟨⟨a, c⟩, b, d⟩, fun ⟨⟨a, c⟩, b, d⟩ => ⟨⟨a, b⟩, c, d⟩⟩
theorem comOk_no {x y : Ivl} (h : comOk x y = false) (v : Ver) : inI (comI x y) v = false := by
  unfold comOk at h
  rw [Bool.or_eq_false_iff, decide_eq_false_iff_not] at h
  cases e : inI (comI x y) v with
  | false => rfl
  | true =>
    obtain ⟨h1, h2⟩ := inI_iff.1 e
    rcases h2 with h2 | h2
    · rw [h.1] at h2; cases h2
    · exact absurd (vc_tl h1 h2) h.2
theorem comI_ok {x y : Ivl} (hx : x.Ok) (hy : y.Ok) (h : comOk x y = true) : (comI x y).Ok := by
  unfold comOk at h
  rw [Bool.or_eq_true, decide_eq_true_eq] at h
  refine ⟨?_, ?_, ?_, fun hu => ?_⟩
  · unfold comI; simp only; split
    · exact hy.lo
    · exact hx.lo
  · unfold comI; simp only; split
    · exact hy.hi
    · exact hx.hi
  · unfold comI; simp only; split
    · exact hy.un
    · exact hx.un
  · rcases h with h | h
    · rw [hu] at h; cases h
    · exact h
theorem comI_sep {x1 x2 y1 y2 : Ivl} (h : Sep x1 x2 ∨ Sep y1 y2) : Sep (comI x1 y1) (comI x2 y2) := by
  have hlo1 : verCmp x2.lo (comI x2 y2).lo ≤ 0 := ((comI_lo x2 y2 _).1 (by rw [vc_self]; decide)).1
  have hlo2 : verCmp y2.lo (comI x2 y2).lo ≤ 0 := ((comI_lo x2 y2 _).1 (by rw [vc_self]; decide)).2
  have hb : (comI x1 y1).un = false ∧ (Sep x1 x2 → verCmp (comI x1 y1).hi x1.hi ≤ 0) ∧ (Sep y1 y2 → verCmp (comI x1 y1).hi y1.hi ≤ 0) := by
    unfold comI
    simp only
    by_cases c : comHi x1 y1
    · rw [if_pos c, if_pos c]
      refine ⟨?_, fun hs => ?_, fun _ => by rw [vc_self]; decide⟩
      · rcases c with c | c
        · rcases h with h | h
          · rw [h.1] at c; cases c
          · exact h.1
        · exact c.1
      · rcases c with c | c
        · rw [hs.1] at c; cases c
        · omega
    · rw [if_neg c, if_neg c]
      unfold comHi at c
      refine ⟨by cases u : x1.un with
        | false => rfl
        | true => exact absurd (.inl u) c, fun _ => by rw [vc_self]; decide, fun hs => vc_le fun h' => c (.inr ⟨hs.1, h'⟩)⟩
  refine ⟨hb.1, ?_⟩
  rcases h with h | h
  · exact vc_lt (vc_tl (hb.2.1 h) h.2) hlo1
  · exact vc_lt (vc_tl (hb.2.2 h) h.2) hlo2
theorem pick_some {x y z : Ivl} (h : (if comOk x y = true then some (comI x y) else none) = some z) : comOk x y = true ∧ z = comI x y := by
  split at h
  · rename_i g; exact ⟨g, (Option.some.inj h).symm⟩
  · cases h
theorem commonR_can {a b : List Ivl} (ha : Can a) (hb : Can b) : Can (commonR a b) ∧ ∀ v, hasB (commonR a b) v = (hasB a v && hasB b v) := by
  refine ⟨⟨fun z hz => ?_, ?_⟩, fun v => ?_⟩
  · obtain ⟨x, hx, hz⟩ := List.mem_flatMap.1 hz
    obtain ⟨y, hy, hz⟩ := List.mem_filterMap.1 hz
    obtain ⟨g, rfl⟩ := pick_some hz
    exact comI_ok (ha.ok x hx) (hb.ok y hy) g
  · refine List.pairwise_flatMap.2 ⟨fun x _ => List.pairwise_filterMap.2 (hb.sep.imp fun {y1 y2} hs z1 h1 z2 h2 => ?_), ha.sep.imp fun {x1 x2} hs z1 h1 z2 h2 => ?_⟩
    · obtain ⟨-, rfl⟩ := pick_some h1
      obtain ⟨-, rfl⟩ := pick_some h2
      exact comI_sep (.inr hs)
    · obtain ⟨y1, -, h1⟩ := List.mem_filterMap.1 h1
      obtain ⟨y2, -, h2⟩ := List.mem_filterMap.1 h2
      obtain ⟨-, rfl⟩ := pick_some h1
      obtain ⟨-, rfl⟩ := pick_some h2
      exact comI_sep (.inl hs)
  · rw [Bool.eq_iff_iff, Bool.and_eq_true, hasB_iff, hasB_iff, hasB_iff]
    constructor
    · rintro ⟨z, hz, h⟩
      obtain ⟨x, hx, hz⟩ := List.mem_flatMap.1 hz
      obtain ⟨y, hy, hz⟩ := List.mem_filterMap.1 hz
      obtain ⟨g, rfl⟩ := pick_some hz
      rw [comI_in, Bool.and_eq_true] at h
      exact ⟨⟨x, hx, h.1⟩, ⟨y, hy, h.2⟩⟩
    · rintro ⟨⟨x, hx, h1⟩, ⟨y, hy, h2⟩⟩
      have h : inI (comI x y) v = true := by rw [comI_in, h1, h2]; rfl
      refine ⟨comI x y, List.mem_flatMap.2 ⟨x, hx, List.mem_filterMap.2 ⟨y, hy, ?_⟩⟩, h⟩
      cases g : comOk x y with
      | true => rfl
      | false => rw [comOk_no g] at h; cases h
/-- The program's intersection is the reference's. -/
theorem meet_is {a b : List Ivl} (ha : Can a) (hb : Can b) : invR (unionR (invR a) (invR b)) = commonR a b := by
  obtain ⟨a1, a2⟩ := invR_can ha
  obtain ⟨b1, b2⟩ := invR_can hb
  obtain ⟨u1, u2⟩ := unionR_can a1 b1.ok
  obtain ⟨i1, i2⟩ := invR_can u1
  obtain ⟨c1, c2⟩ := commonR_can ha hb
  refine can_ext i1 c1 fun v hv => ?_
  rw [i2 v hv, u2, a2 v hv, b2 v hv, c2, Bool.not_or, Bool.not_not, Bool.not_not]
end Pl
end Go.Proofs.YtgngehfgcogceaaGreatDoor

end
section
/- The faults of ranges in plain words. No program in sight. -/
namespace Go.Proofs.YtgngehfgcogceaaGreatDoor
namespace Pl

def zeroB (v : Ver) : Bool := decide (v.maj = 0) && decide (v.min = 0) && decide (v.pat = 0) && decide (v.pre.length = 0)
theorem zeroB_iff {v : Ver} : zeroB v = true ↔ v = Ver.zero := by
  unfold zeroB
  simp only [Bool.and_eq_true, decide_eq_true_eq, List.length_eq_zero_iff]
  exact ⟨fun ⟨⟨⟨h1, h2⟩, h3⟩, h4⟩ => Ver.ext' h1 h2 h3 h4, fun h => by subst h; exact ⟨⟨⟨rfl, rfl⟩, rfl⟩, rfl⟩⟩
/-- The code of an interval by itself. -/
def chkI (x : Ivl) : Int :=
  if (vrF x.lo).1 ≠ 0 then (vrF x.lo).1
  else if x.un = true then (if zeroB x.hi = true then 0 else 5)
  else if (vrF x.hi).1 ≠ 0 then (vrF x.hi).1
  else if 0 ≤ verCmp x.lo x.hi then 5 else 0
theorem vr_ok {v : Ver} (h : (vrF v).1 = 0) : v.Ok := by
  rcases vrF_cases v with h' | h'
  · exact h'.2
  · exact absurd h h'
theorem vr_zero {v : Ver} (h : (vrF v).1 = 0) : vrF v = (0, 0) := vrF_ok (vr_ok h)
theorem vr_one {v : Ver} (h : v.Ok) : (vrF v).1 = 0 := by rw [vrF_ok h]
theorem chkI_ok {x : Ivl} : chkI x = 0 ↔ x.Ok := by
  unfold chkI
  by_cases h1 : (vrF x.lo).1 = 0
  · rw [if_neg (fun h => h h1)]
    cases u : x.un with
    | true =>
      rw [if_pos rfl]
      cases z : zeroB x.hi with
      | true =>
        rw [if_pos rfl]
        refine ⟨fun _ => ⟨vr_ok h1, zeroB_iff.1 z ▸ zero_ok, fun _ => zeroB_iff.1 z, fun h => by rw [u] at h; cases h⟩, fun _ => rfl⟩
      | false =>
        rw [if_neg Bool.false_ne_true]
        exact ⟨fun h => absurd h (by decide), fun h => by rw [zeroB_iff.2 (h.un u)] at z; cases z⟩
    | false =>
      rw [if_neg Bool.false_ne_true]
      by_cases h2 : (vrF x.hi).1 = 0
      · rw [if_neg (fun h => h h2)]
        by_cases h3 : 0 ≤ verCmp x.lo x.hi
        · rw [if_pos h3]
          exact ⟨fun h => absurd h (by decide), fun h => by have := h.lt u; omega⟩
        · rw [if_neg h3]
          exact ⟨fun _ => ⟨vr_ok h1, vr_ok h2, fun h => (by rw [u] at h; cases h), fun _ => by omega⟩, fun _ => rfl⟩
      · rw [if_pos h2]
        exact ⟨fun h => absurd h h2, fun h => absurd (vr_one h.hi) h2⟩
  · rw [if_pos h1]
    exact ⟨fun h => absurd h h1, fun h => absurd (vr_one h.lo) h1⟩

/-- Does an interval touch the one ahead of it? -/
def badI (p x : Ivl) : Bool := p.un || decide (0 ≤ verCmp p.hi x.lo)
theorem badI_iff {p x : Ivl} : badI p x = false ↔ Sep p x := by
  unfold badI Sep
  rw [Bool.or_eq_false_iff, decide_eq_false_iff_not]
  exact and_congr_right fun _ => by omega
/-- The code of the interval at a place. -/
def stepI (r : List Ivl) (k : Nat) (h : k < r.length) : Int :=
  if chkI r[k] ≠ 0 then chkI r[k] else if h0 : 0 < k then (if badI (r[k - 1]'(by omega)) r[k] = true then 5 else 0) else 0
def stepsF (r : List Ivl) (k : Nat) : Int × Int :=
  if h : k < r.length then (if stepI r k h = 0 then stepsF r (k + 1) else (stepI r k h, (k : Int))) else (0, 0)
termination_by r.length - k
def rngF (r : List Ivl) : Int × Int := if 12 < r.length then (2, -1) else stepsF r 0

theorem stepsF_go {r : List Ivl} {k : Nat} {F : Int × Int} (h : k < r.length) (hF : stepsF r k = F) : (stepI r k h = 0 → stepsF r (k + 1) = F) ∧ (stepI r k h ≠ 0 → F = (stepI r k h, (k : Int))) := by
  rw [stepsF, dif_pos h] at hF
  refine ⟨fun e => ?_, fun e => ?_⟩
  · rwa [if_pos e] at hF
  · rw [if_neg e] at hF; exact hF.symm
theorem stepsF_end {r : List Ivl} {k : Nat} {F : Int × Int} (h : r.length ≤ k) (hF : stepsF r k = F) : F = (0, 0) := by
  rw [stepsF, dif_neg (by omega)] at hF; exact hF.symm
theorem rngF_big {r : List Ivl} {F : Int × Int} (h : 12 < r.length) (hF : rngF r = F) : F = (2, -1) := by
  rw [rngF, if_pos h] at hF; exact hF.symm
theorem rngF_small {r : List Ivl} {F : Int × Int} (h : r.length ≤ 12) (hF : rngF r = F) : stepsF r 0 = F := by
  rwa [rngF, if_neg (by omega)] at hF

theorem stepsF_cases (r : List Ivl) : ∀ (n k : Nat), n = r.length - k → stepsF r k = (0, 0) ∧ (∀ j (h : j < r.length), k ≤ j → stepI r j h = 0) ∨ (stepsF r k).1 ≠ 0
  | 0, k, e => by
    rw [stepsF, dif_neg (by omega)]
    exact .inl ⟨rfl, fun j h hj => by omega⟩
  | n + 1, k, e => by
    rw [stepsF, dif_pos (by omega)]
    by_cases h : stepI r k (by omega) = 0
    · rw [if_pos h]
      rcases stepsF_cases r n (k + 1) (by omega) with ⟨h1, h2⟩ | h1
      · refine .inl ⟨h1, fun j hj hk => ?_⟩
        by_cases e : j = k
        · subst e; exact h
        · exact h2 j hj (by omega)
      · exact .inr h1
    · rw [if_neg h]; exact .inr h
theorem stepI_ok {r : List Ivl} {k : Nat} {h : k < r.length} (e : stepI r k h = 0) : r[k].Ok ∧ ∀ h0 : 0 < k, Sep (r[k - 1]'(by omega)) r[k] := by
  unfold stepI at e
  by_cases h1 : chkI r[k] = 0
  · rw [if_neg (fun h => h h1)] at e
    refine ⟨chkI_ok.1 h1, fun h0 => ?_⟩
    rw [dif_pos h0] at e
    cases hb : badI (r[k - 1]'(by omega)) r[k] with
    | true => rw [hb, if_pos rfl] at e; cases e
    | false => exact badI_iff.1 hb
  · rw [if_pos h1] at e; exact absurd e h1
theorem can_of_steps {r : List Ivl} (h : ∀ j (hj : j < r.length), stepI r j hj = 0) : Can r := by
  have ok : ∀ j (hj : j < r.length), r[j].Ok := fun j hj => (stepI_ok (h j hj)).1
  have ad : ∀ j (hj : j + 1 < r.length), Sep (r[j]'(by omega)) r[j + 1] := fun j hj => (stepI_ok (h (j + 1) hj)).2 (by omega)
  refine ⟨fun x hx => ?_, List.pairwise_iff_getElem.2 ?_⟩
  · obtain ⟨j, hj, rfl⟩ := List.mem_iff_getElem.1 hx
    exact ok j hj
  · intro i j hi hj hij
    induction j with
    | zero => omega
    | succ j ih =>
      have a := ad j hj
      by_cases e : i = j
      · subst e; exact a
      · have b := ih (by omega) (by omega)
        have c := a.lo (ok j (by omega))
        exact ⟨b.1, vc_lt b.2 (by omega)⟩
theorem rngF_cases (r : List Ivl) : rngF r = (0, 0) ∧ r.length ≤ 12 ∧ Can r ∨ (rngF r).1 ≠ 0 := by
  unfold rngF
  by_cases h : 12 < r.length
  · rw [if_pos h]; exact .inr (by decide)
  · rw [if_neg h]
    rcases stepsF_cases r _ 0 rfl with ⟨h1, h2⟩ | h1
    · exact .inl ⟨h1, by omega, can_of_steps fun j hj => h2 j hj (Nat.zero_le _)⟩
    · exact .inr h1
theorem rng_ok {r : List Ivl} (h : (rngF r).1 = 0) : r.length ≤ 12 ∧ Can r := by
  rcases rngF_cases r with h' | h'
  · exact h'.2
  · exact absurd h h'
theorem rng_zero {r : List Ivl} (h : (rngF r).1 = 0) : rngF r = (0, 0) := by
  rcases rngF_cases r with h' | h'
  · exact h'.1
  · exact absurd h h'
/-- A range that must not be too large. -/
def limR (r : List Ivl) : List Ivl := if 12 < r.length then [] else r
def limF (r : List Ivl) : Int × Int := if 12 < r.length then (10, -3) else (0, 0)
end Pl
end Go.Proofs.YtgngehfgcogceaaGreatDoor

end
