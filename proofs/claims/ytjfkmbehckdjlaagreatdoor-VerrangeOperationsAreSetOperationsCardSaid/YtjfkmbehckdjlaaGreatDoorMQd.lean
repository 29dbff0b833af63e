/- Texts joined: Qc Qd. -/
import Derived.Test.YtjfkmbehckdjlaaGreatDoorMKo
import Derived.Test.YtjfkmbehckdjlaaGreatDoorMPs
import Derived.Lib.Join
section
/- Texts of ranges in plain words: splitting at separators, terms, alternatives. No program in sight. -/
namespace Go.Proofs.YtjfkmbehckdjlaaGreatDoor
namespace Pl
def barS : List UInt8 := [32, 124, 124, 32]
theorem bars_no {s : List UInt8} (h : ∀ j, j ≤ s.length → Lib.occAt s barS j = false) : Lib.split s barS = [s] := by
  unfold Lib.split; rw [Lib.count_miss (Lib.index_none h)]; rfl
theorem bars_at {s : List UInt8} {i : Nat} (hi : i ≤ s.length) (h : Lib.occAt s barS i = true) (hn : ∀ j, j < i → Lib.occAt s barS j = false) : Lib.split s barS = s.take i :: Lib.split (s.drop (i + 4)) barS := by
  have e := Lib.index_first hi h hn
  unfold Lib.split
  rw [Lib.count_hit (by decide) e, show barS.length = 4 from rfl, Nat.add_comm 1, Lib.splitK, if_neg (by rw [e, beq_iff_eq]; omega), e]
  rw [show ((i : Int).toNat + 0) = i by omega, show (i : Int).toNat = i by omega, show barS.length = 4 from rfl]

/-! Terms -/
def opB (c : UInt8) : Bool := c == 62 || c == 60 || c == 61 || c == 94 || c == 126
def upR (v : Ver) : List Ivl := [⟨v, Ver.zero, true⟩]
def oneR (a b : Ver) : List Ivl := if verCmp a b < 0 then [⟨a, b, false⟩] else []
def capV (v : Ver) : Ver := if v.maj ≠ 0 then ⟨v.maj + 1, 0, 0, [zeroId]⟩ else if v.min ≠ 0 then ⟨0, v.min + 1, 0, [zeroId]⟩ else ⟨0, 0, v.pat + 1, [zeroId]⟩
def tilV (v : Ver) : Ver := ⟨v.maj, v.min + 1, 0, [zeroId]⟩
/-- The bound that an operator makes of a version. -/
def bndV (op : List UInt8) (v : Ver) : Ver := if op = [126] then tilV v else if op = [94] then capV v else verNext v
def opR (op : List UInt8) (v : Ver) : List Ivl × Int :=
  if op = [62, 61] then (upR v, 0) else if op = [60] then (oneR lowV v, 0)
  else if (vrF (bndV op v)).1 ≠ 0 then ([], 10)
  else if op = [62] then (upR (bndV op v), 0) else if op = [60, 61] then (oneR lowV (bndV op v), 0) else (oneR v (bndV op v), 0)
def opsL : List (List UInt8) := [[62, 61], [60, 61], [62], [60], [61], [94], [126]]
/-- A term, as the reference reads it. -/
def termR (s : List UInt8) : List Ivl × Int :=
  if s = [42] then (upR lowV, 0) else match refParse (s.dropWhile opB) with
  | none => ([], 1)
  | some v => if s.takeWhile opB ∈ opsL then opR (s.takeWhile opB) v else ([], 1)
/-- A term, as the program reads it. -/
def tryOps (s : List UInt8) : List (List UInt8) → List Ivl × Int
  | [] => ([], 1)
  | op :: r => if op.isPrefixOf s = true then (match refParse (s.drop op.length) with
    | none => ([], 1)
    | some v => opR op v) else tryOps s r
def termP (s : List UInt8) : List Ivl × Int := if s = [42] then (upR lowV, 0) else tryOps s opsL

theorem dig_noop {c : UInt8} (h : digB c = true) : opB c = false := by
  have := digB_iff.1 h
  unfold opB
  simp only [Bool.or_eq_false_iff, beq_eq_false_iff_ne, ne_eq, ← UInt8.toNat_inj]
  have e1 : (62 : UInt8).toNat = 62 := rfl
  have e2 : (60 : UInt8).toNat = 60 := rfl
  have e3 : (61 : UInt8).toNat = 61 := rfl
  have e4 : (94 : UInt8).toNat = 94 := rfl
  have e5 : (126 : UInt8).toNat = 126 := rfl
  omega
theorem verT_head (v : Ver) : ∃ c r, verT v = c :: r ∧ digB c = true := by
  have h1 := dS_ne v.maj.toNat
  have h2 := digS_digs v.maj
  unfold verT numT
  cases e : digS v.maj with
  | nil => exact absurd e h1
  | cons c r =>
    rw [e] at h2
    simp only [digsB, List.all_cons, Bool.and_eq_true] at h2
    exact ⟨c, _, rfl, h2.1⟩
theorem parse_noop {t : List UInt8} {v : Ver} (h : refParse t = some v) : t.takeWhile opB = [] ∧ t.dropWhile opB = t := by
  obtain ⟨-, e⟩ := ref_iff.1 h
  obtain ⟨c, r, e2, hc⟩ := verT_head v
  rw [← e, e2, List.takeWhile_cons, List.dropWhile_cons, dig_noop hc]
  exact ⟨rfl, rfl⟩
theorem term_hit {op t : List UInt8} {v : Ver} (ho : ∀ c ∈ op, opB c = true) (hm : op ∈ opsL) (h : refParse t = some v) (hs : op ++ t ≠ [42]) : termR (op ++ t) = opR op v := by
  obtain ⟨h1, h2⟩ := parse_noop h
  unfold termR
  rw [if_neg hs, List.dropWhile_append_of_pos ho, List.takeWhile_append_of_pos ho, h1, h2, List.append_nil, h]
  simp only
  rw [if_pos hm]
theorem take_prefix (p : UInt8 → Bool) (s : List UInt8) : s.takeWhile p <+: s := ⟨_, List.takeWhile_append_dropWhile⟩
theorem term_step {op s : List UInt8} (ho : ∀ c ∈ op, opB c = true) (hm : op ∈ opsL) (hs : s ≠ [42]) (hp : op <+: s) (hx : ∀ c u, op ++ c :: u ∈ opsL → op ++ c :: u <+: s → False) :
    (match refParse (s.drop op.length) with
    | none => ([], 1)
    | some v => opR op v) = termR s := by
  obtain ⟨t, rfl⟩ := hp
  rw [List.drop_left]
  cases h : refParse t with
  | some v => exact (term_hit ho hm h hs).symm
  | none =>
    simp only
    unfold termR
    rw [if_neg hs, List.dropWhile_append_of_pos ho, List.takeWhile_append_of_pos ho]
    cases e : refParse (t.dropWhile opB) with
    | none => rfl
    | some v =>
      simp only
      rw [if_neg]
      intro hm
      cases e2 : t.takeWhile opB with
      | nil =>
        have e3 : t.dropWhile opB = t := by have := List.takeWhile_append_dropWhile (p := opB) (l := t); rw [e2] at this; simpa using this
        rw [e3, h] at e; cases e
      | cons c u =>
        rw [e2] at hm
        refine hx c u hm ?_
        obtain ⟨z, hz⟩ := take_prefix opB t
        rw [e2] at hz
        exact ⟨z, by rw [← hz, List.append_assoc]⟩
theorem term_same (s : List UInt8) : termP s = termR s := by
  unfold termP
  by_cases h42 : s = [42]
  · rw [if_pos h42]; unfold termR; rw [if_pos h42]
  · rw [if_neg h42]
    unfold opsL
    simp only [tryOps, List.isPrefixOf_iff_prefix]
    by_cases p1 : [62, 61] <+: s
    · rw [if_pos p1]; exact term_step (by decide) (by decide) h42 p1 (fun c u h _ => by simp [opsL] at h)
    rw [if_neg p1]
    by_cases p2 : [60, 61] <+: s
    · rw [if_pos p2]; exact term_step (by decide) (by decide) h42 p2 (fun c u h _ => by simp [opsL] at h)
    rw [if_neg p2]
    by_cases p3 : [62] <+: s
    · rw [if_pos p3]; exact term_step (by decide) (by decide) h42 p3 (fun c u h g => by simp [opsL] at h; obtain ⟨rfl, rfl⟩ := h; exact p1 g)
    rw [if_neg p3]
    by_cases p4 : [60] <+: s
    · rw [if_pos p4]; exact term_step (by decide) (by decide) h42 p4 (fun c u h g => by simp [opsL] at h; obtain ⟨rfl, rfl⟩ := h; exact p2 g)
    rw [if_neg p4]
    by_cases p5 : [61] <+: s
    · rw [if_pos p5]; exact term_step (by decide) (by decide) h42 p5 (fun c u h _ => by simp [opsL] at h)
    rw [if_neg p5]
    by_cases p6 : [94] <+: s
    · rw [if_pos p6]; exact term_step (by decide) (by decide) h42 p6 (fun c u h _ => by simp [opsL] at h)
    rw [if_neg p6]
    by_cases p7 : [126] <+: s
    · rw [if_pos p7]; exact term_step (by decide) (by decide) h42 p7 (fun c u h _ => by simp [opsL] at h)
    rw [if_neg p7]
    unfold termR
    rw [if_neg h42]
    cases e : refParse (s.dropWhile opB) with
    | none => rfl
    | some v =>
      simp only
      rw [if_neg]
      intro hm
      have hp := take_prefix opB s
      unfold opsL at hm
      simp only [List.mem_cons, List.not_mem_nil, or_false] at hm
      rcases hm with h | h | h | h | h | h | h <;> rw [h] at hp
      · exact p1 hp
      · exact p2 hp
      · exact p3 hp
      · exact p4 hp
      · exact p5 hp
      · exact p6 hp
      · exact p7 hp

theorem upR_can {v : Ver} (h : v.Ok) : Can (upR v) := Can.one ⟨h, zero_ok, fun _ => rfl, fun h => Bool.noConfusion h⟩
theorem oneR_can {a b : Ver} (ha : a.Ok) (hb : b.Ok) : Can (oneR a b) := by
  unfold oneR
  split
  · rename_i h; exact Can.one ⟨ha, hb, fun h => Bool.noConfusion h, fun _ => h⟩
  · exact Can.nil
theorem opR_can {op : List UInt8} {v : Ver} (h : v.Ok) : Can (opR op v).1 := by
  unfold opR
  split
  · exact upR_can h
  split
  · exact oneR_can lowV_ok h
  split
  · exact Can.nil
  rename_i hb
  have ok : (bndV op v).Ok := vr_ok (by simpa using hb)
  split
  · exact upR_can ok
  split
  · exact oneR_can lowV_ok ok
  · exact oneR_can h ok
theorem termR_can (s : List UInt8) : Can (termR s).1 := by
  unfold termR
  split
  · exact upR_can lowV_ok
  split
  · exact Can.nil
  rename_i v h
  split
  · exact opR_can (ref_iff.1 h).1
  · exact Can.nil
/-! Alternatives -/
def altF : List Ivl → List (List UInt8) → List Ivl × Int
  | acc, [] => (acc, 0)
  | acc, t :: ts => if (termR t).2 ≠ 0 then ([], (termR t).2) else altF (commonR acc (termR t).1) ts
def altR (s : List UInt8) : List Ivl × Int := altF (upR lowV) (Lib.split s [32])
def altsF : List Ivl → Nat → List (List UInt8) → List Ivl × (Int × Int)
  | out, _, [] => (out, 0, 0)
  | out, i, a :: l => if (altR a).2 ≠ 0 then ([], (altR a).2, (i : Int)) else altsF (unionR out (altR a).1) (i + 1) l
def rngP (s : List UInt8) : List Ivl × (Int × Int) :=
  if (altsF [] 0 (Lib.split s barS)).2.1 ≠ 0 then altsF [] 0 (Lib.split s barS)
  else if 12 < (altsF [] 0 (Lib.split s barS)).1.length then ([], 10, -3) else altsF [] 0 (Lib.split s barS)
theorem altF_can : ∀ {ts : List (List UInt8)} {acc : List Ivl}, Can acc → Can (altF acc ts).1
  | [], _, h => h
  | t :: ts, acc, h => by
    rw [altF]
    split
    · exact Can.nil
    · exact altF_can (commonR_can h (termR_can t)).1
theorem altR_can (s : List UInt8) : Can (altR s).1 := altF_can (upR_can lowV_ok)
end Pl
end Go.Proofs.YtjfkmbehckdjlaaGreatDoor

end
section
/- The text of a range, read again, is the range. No program in sight. -/
namespace Go.Proofs.YtjfkmbehckdjlaaGreatDoor
namespace Pl

def ivT (x : Ivl) : List UInt8 := 62 :: 61 :: verT x.lo ++ (if x.un = true then [] else 32 :: 60 :: verT x.hi)
def rngT (r : List Ivl) : List UInt8 := if r = [] then [60, 48, 46, 48, 46, 48, 45, 48] else Lib.join (r.map ivT) barS

theorem verT_chars {v : Ver} (h : v.Ok) : ∀ c ∈ verT v, idcB c = true ∨ c = 46 := by
  have hd : ∀ (n : Int), ∀ c ∈ digS n, idcB c = true := fun n c hc => by
    have := List.all_eq_true.1 (digS_digs n) c hc
    unfold idcB; rw [this]; rfl
  have hr : ∀ l : List (List UInt8), (∀ x ∈ l, ∀ c ∈ x, idcB c = true) → ∀ c ∈ restT l, idcB c = true ∨ c = 46 := by
    intro l hl c hc
    obtain ⟨x, hx, hc⟩ := List.mem_flatMap.1 hc
    rcases List.mem_cons.1 hc with rfl | hc
    · exact .inr rfl
    · exact .inl (hl x hx c hc)
  have hid : ∀ x ∈ v.pre.map bsl, ∀ c ∈ x, idcB c = true := fun x hx c hc => by
    obtain ⟨s, hs, rfl⟩ := List.mem_map.1 hx
    exact List.all_eq_true.1 (identB_iff.1 (h.i s hs)).2.2.1 c hc
  intro c hc
  unfold verT numT at hc
  rcases List.mem_append.1 hc with hc | hc
  · simp only [List.mem_append, List.mem_cons, List.append_assoc, List.cons_append] at hc
    rcases hc with hc | rfl | hc | rfl | hc
    · exact .inl (hd _ c hc)
    · exact .inr rfl
    · exact .inl (hd _ c hc)
    · exact .inr rfl
    · exact .inl (hd _ c hc)
  · cases e : v.pre.map bsl with
    | nil => rw [e] at hc; exact (List.not_mem_nil hc).elim
    | cons x l =>
      rw [e] at hc hid
      simp only [preT, List.cons_append, List.mem_cons, List.mem_append] at hc
      rcases hc with rfl | hc | hc
      · exact .inl (by decide)
      · exact .inl (hid x (by simp) c hc)
      · exact hr l (fun y hy => hid y (by simp [hy])) c hc
theorem verT_no {v : Ver} (h : v.Ok) {c : UInt8} (h1 : idcB c = false) (h2 : c ≠ 46) : c ∉ verT v := fun hm => by
  rcases verT_chars h c hm with e | e
  · rw [h1] at e; cases e
  · exact h2 e
theorem ivT_no {x : Ivl} (h : x.Ok) : (124 : UInt8) ∉ ivT x := fun hm => by
  have h1 := verT_no h.lo (c := 124) (by decide) (by decide)
  have h2 := verT_no h.hi (c := 124) (by decide) (by decide)
  unfold ivT at hm
  simp only [List.mem_append, List.mem_cons, List.cons_append] at hm
  rcases hm with hm | hm | hm | hm
  · exact absurd hm (by decide)
  · exact absurd hm (by decide)
  · exact h1 hm
  · split at hm
    · exact List.not_mem_nil hm
    · simp only [List.mem_cons] at hm
      rcases hm with hm | hm | hm
      · exact absurd hm (by decide)
      · exact absurd hm (by decide)
      · exact h2 hm
theorem ivT_len {x : Ivl} (h : x.Ok) : (ivT x).length ≤ 164 := by
  have h1 := verT_len h.lo
  have h2 := verT_len h.hi
  unfold ivT
  split <;> simp only [List.length_append, List.length_cons, List.length_nil] <;> omega

theorem occ_bar {s : List UInt8} {j : Nat} (h : Lib.occAt s barS j = true) : s[j]? = some 32 ∧ s[j + 1]? = some 124 := by
  unfold Lib.occAt at h
  obtain ⟨t, ht⟩ := List.isPrefixOf_iff_prefix.1 h
  have e0 := congrArg (fun l : List UInt8 => l[0]?) ht
  have e1 := congrArg (fun l : List UInt8 => l[1]?) ht
  simp only [List.getElem?_drop] at e0 e1
  exact ⟨e0.symm, e1.symm⟩
theorem bar_no {s : List UInt8} (h : (124 : UInt8) ∉ s) : ∀ j, j ≤ s.length → Lib.occAt s barS j = false := fun j _ => by
  cases e : Lib.occAt s barS j with
  | false => rfl
  | true => exact absurd (List.mem_of_getElem? (occ_bar e).2) h
theorem bar_at {a b : List UInt8} (h : (124 : UInt8) ∉ a) : Lib.split (a ++ barS ++ b) barS = a :: Lib.split b barS := by
  have h1 : Lib.occAt (a ++ barS ++ b) barS a.length = true := by
    unfold Lib.occAt
    rw [List.append_assoc, List.drop_left]
    exact List.isPrefixOf_iff_prefix.2 ⟨b, rfl⟩
  have h2 : ∀ j, j < a.length → Lib.occAt (a ++ barS ++ b) barS j = false := fun j hj => by
    cases e : Lib.occAt (a ++ barS ++ b) barS j with
    | false => rfl
    | true =>
      have := (occ_bar e).2
      rw [List.append_assoc] at this
      by_cases hj2 : j + 1 < a.length
      · rw [List.getElem?_append_left hj2] at this
        exact absurd (List.mem_of_getElem? this) h
      · rw [List.getElem?_append_right (by omega), show j + 1 - a.length = 0 by omega] at this
        cases this
  rw [bars_at (by simp) h1 h2]
  congr 1
  · rw [List.append_assoc, List.take_left]
  · rw [List.append_assoc, show a.length + 4 = a.length + barS.length from rfl, ← List.drop_drop, List.drop_left, List.drop_left]
theorem join_cons2 (x y : List UInt8) (l : List (List UInt8)) (s : List UInt8) : Lib.join (x :: y :: l) s = x ++ s ++ Lib.join (y :: l) s := by
  unfold Lib.join
  rw [List.intercalate_cons_cons, List.append_assoc]
theorem split_join : ∀ (x : List UInt8) (l : List (List UInt8)), (∀ y ∈ x :: l, (124 : UInt8) ∉ y) → Lib.split (Lib.join (x :: l) barS) barS = x :: l
  | x, [], h => by
    have e : Lib.join [x] barS = x := by simp [Lib.join]
    rw [e]
    exact bars_no (bar_no (h x (by simp)))
  | x, y :: l, h => by
    rw [join_cons2, bar_at (h x (by simp)), split_join y l fun z hz => h z (by simp [hz])]

theorem com_all {r : List Ivl} (h : Can r) : commonR (upR lowV) r = r := by
  obtain ⟨h1, h2⟩ := commonR_can (upR_can lowV_ok) h
  refine can_ext h1 h fun v hv => ?_
  rw [h2, show hasB (upR lowV) v = true from by rw [upR, hasB_one]; exact inI_iff.2 ⟨lowV_least hv, .inl rfl⟩, Bool.true_and]
theorem com_two {a b : Ver} (ha : a.Ok) (hb : b.Ok) (h : verCmp a b < 0) : commonR (upR a) (oneR lowV b) = [⟨a, b, false⟩] := by
  obtain ⟨h1, h2⟩ := commonR_can (upR_can ha) (oneR_can lowV_ok hb)
  refine can_ext h1 (Can.one ⟨ha, hb, fun h => Bool.noConfusion h, fun _ => h⟩) fun v hv => ?_
  have hl : verCmp lowV b < 0 := vc_tl (lowV_least ha) h
  rw [h2, oneR, if_pos hl, upR, hasB_one, hasB_one, hasB_one]
  simp [inI, lowV_least hv]
theorem termR_ge {v : Ver} (h : v.Ok) : termR (62 :: 61 :: verT v) = (upR v, 0) := by
  rw [show (62 :: 61 :: verT v) = [62, 61] ++ verT v from rfl, term_hit (by decide) (by decide) (ref_iff.2 ⟨h, rfl⟩) (by simp)]
  rfl
theorem termR_lt {v : Ver} (h : v.Ok) : termR (60 :: verT v) = (oneR lowV v, 0) := by
  rw [show (60 :: verT v) = [60] ++ verT v from rfl, term_hit (by decide) (by decide) (ref_iff.2 ⟨h, rfl⟩) (by simp)]
  rfl
theorem altF_one {acc : List Ivl} {t : List UInt8} {ts : List (List UInt8)} {R : List Ivl} (h : termR t = (R, 0)) : altF acc (t :: ts) = altF (commonR acc R) ts := by
  rw [altF, h, if_neg (by simp)]
theorem altR_iv {x : Ivl} (h : x.Ok) : altR (ivT x) = ([x], 0) := by
  have n1 := verT_no h.lo (c := 32) (by decide) (by decide)
  have n2 := verT_no h.hi (c := 32) (by decide) (by decide)
  have m1 : (32 : UInt8) ∉ (62 :: 61 :: verT x.lo) := by simp [n1]
  have m2 : (32 : UInt8) ∉ (60 :: verT x.hi) := by simp [n2]
  unfold altR ivT
  cases u : x.un with
  | true =>
    rw [if_pos rfl, List.append_nil, split_no m1, altF_one (termR_ge h.lo), altF, com_all (upR_can h.lo)]
    have e := h.un u
    cases x
    simp_all [upR]
  | false =>
    rw [if_neg Bool.false_ne_true, split_at m1, split_no m2, altF_one (termR_ge h.lo), altF_one (termR_lt h.hi), altF, com_all (upR_can h.lo), com_two h.lo h.hi (h.lt u)]
    cases x
    simp_all
theorem altsF_iv : ∀ (r out : List Ivl) (i : Nat), Can out → (∀ x ∈ r, x.Ok) → ∃ o, altsF out i (r.map ivT) = (o, 0, 0) ∧ Can o ∧ ∀ v, hasB o v = (hasB out v || hasB r v)
  | [], out, i, h, _ => ⟨out, rfl, h, fun v => by rw [hasB_nil, Bool.or_false]⟩
  | x :: r, out, i, h, hx => by
    have e := altR_iv (hx x (by simp))
    obtain ⟨h1, h2⟩ := unionR_can (b := [x]) h (fun y hy => by rw [List.mem_singleton.1 hy]; exact hx x (by simp))
    obtain ⟨o, e2, h3, h4⟩ := altsF_iv r (unionR out [x]) (i + 1) h1 fun y hy => hx y (by simp [hy])
    refine ⟨o, ?_, h3, fun v => by rw [h4, h2, hasB_one, hasB_cons, Bool.or_assoc]⟩
    rw [List.map_cons, altsF, e, if_neg (by simp)]
    exact e2
theorem rngP_of {s : List UInt8} {l : List (List UInt8)} {r : List Ivl} (h1 : Lib.split s barS = l) (h2 : altsF [] 0 l = (r, 0, 0)) (h3 : r.length ≤ 12) : rngP s = (r, 0, 0) := by
  unfold rngP
  rw [h1, h2, if_neg (by simp), if_neg (by simp; omega)]
theorem low_text : verT lowV = [48, 46, 48, 46, 48, 45, 48] := by
  have e : digS 0 = [48] := dS_small (by decide)
  unfold verT numT
  rw [show lowV.maj = 0 from rfl, show lowV.min = 0 from rfl, show lowV.pat = 0 from rfl, e]
  rfl
/-- The text of a range, read again, is the range. -/
theorem rngP_text {r : List Ivl} (h : Can r) (hl : r.length ≤ 12) : rngP (rngT r) = (r, 0, 0) ∧ (rngT r).length ≤ 4096 := by
  by_cases h0 : r = []
  · subst h0
    unfold rngT
    rw [if_pos rfl]
    refine ⟨rngP_of (l := [[60, 48, 46, 48, 46, 48, 45, 48]]) (bars_no (bar_no (by decide))) ?_ (by simp), by decide⟩
    have e : altR [60, 48, 46, 48, 46, 48, 45, 48] = ([], 0) := by
      unfold altR
      rw [split_no (by decide), show [60, 48, 46, 48, 46, 48, 45, 48] = 60 :: verT lowV by rw [low_text], altF_one (termR_lt lowV_ok), altF, oneR, if_neg (by rw [vc_self]; decide)]
      rfl
    rw [altsF, e, if_neg (by simp)]
    rfl
  · unfold rngT
    rw [if_neg h0]
    obtain ⟨o, e, c, hb⟩ := altsF_iv r [] 0 Can.nil h.ok
    have eo : o = r := can_ext c h fun v _ => by rw [hb, hasB_nil, Bool.false_or]
    subst eo
    refine ⟨rngP_of (l := o.map ivT) ?_ e hl, ?_⟩
    · cases o with
      | nil => exact absurd rfl h0
      | cons x l =>
        rw [List.map_cons]
        refine split_join _ _ fun y hy => ?_
        rw [← List.map_cons (f := ivT)] at hy
        obtain ⟨z, hz, rfl⟩ := List.mem_map.1 hy
        exact ivT_no (h.ok z hz)
    · have key : ∀ l : List Ivl, (∀ x ∈ l, x.Ok) → (Lib.join (l.map ivT) barS).length ≤ 168 * l.length := by
        intro l
        induction l with
        | nil => intro _; decide
        | cons x l ih =>
          intro hx
          have h1 := ivT_len (hx x (by simp))
          have h2 := ih fun y hy => hx y (by simp [hy])
          cases l with
          | nil => simp [Lib.join]; omega
          | cons y l =>
            rw [List.map_cons, List.map_cons, join_cons2]
            rw [List.map_cons] at h2
            have : barS.length = 4 := rfl
            simp only [List.length_append, List.length_cons] at *
            omega
      have := key o h.ok
      omega
end Pl
end Go.Proofs.YtjfkmbehckdjlaaGreatDoor

end
